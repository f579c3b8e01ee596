/- Contracts of AddOut. -/
import Derived.Test.YtadgmbkpbgcdjaaRes
namespace Go.Proofs.Ytadgmbkpbgcdjaa
open Go.RowKit
set_option linter.unusedVariables false
set_option linter.unusedSimpArgs false
attribute [local go_sem] sepAt sepUpon pureAt pureUpon

theorem RI_two (w : World) (x y : Int) (t : TypeId) (g : Nat) (hg : w.heap.size = g) : RI (w.alloc (.cells #[.int .i64 x, .int .i64 y] t)) (some ⟨g, 0, none⟩) 2 [x, y] := by
  subst hg; exact RI_new2 w x y t
theorem RG_two (w : World) (k a b k' a' b' : Int) (t : TypeId) (g : Nat) (hg : w.heap.size = g) : RG (w.alloc (.cells #[.int .i64 k, .int .i64 a, .int .i64 b, .int .i64 k', .int .i64 a', .int .i64 b'] t)) (some ⟨g, 0, none⟩) 2 [⟨k, a, b⟩, ⟨k', a', b'⟩] := by
  subst hg; exact RG_new2 w k a b k' a' b' t

theorem CloneG_any (A : Option Addr) (n c : Nat) (gs : List G3) (w : World) (ha : RG w A n gs) (hn : n ≤ 2097152) :
    Calls Try.prog 45 #[.slice A n c] w fun e w' => ∃ A' c', e = .returned (.slice A' n c') ∧ OwnG w' w.heap.size w'.heap.size (.slice A' n c') n gs ∧ Below w.heap.size w w' := by
  have hl := ha.len
  rcases A with _ | ad
  · have h0 : n = 0 := by
      rcases Nat.eq_zero_or_pos n with h | h
      · exact h
      · obtain ⟨b, o, h', _⟩ := ha.2 h
        cases h'
    subst h0
    obtain rfl : gs = [] := List.eq_nil_of_length_eq_zero hl
    have he := fun W => Lib.run_eql_slice_nil (P := Try.prog) W (t := 27) (e := 60) none 0 c 0 0 Try.underlying27
    go_enter Try.func45, Try.ntmps45
    go_wp2
    go_ret
    exact ⟨_, _, rfl, OwnG.none_ _ _ _, Below.refl _ _⟩
  · have he := fun W => Lib.run_eql_slice_nil (P := Try.prog) W (t := 27) (e := 60) (some ad) n c 0 0 Try.underlying27
    have hB : Below w.heap.size w (w.alloc (.cells #[] 60)) := (Below.refl _ _).alloc (Nat.le_refl _) _
    have h0 := OwnG_new0 w w.heap.size (Nat.le_refl _)
    go_enter Try.func45, Try.ntmps45
    go_wp2_with (at_builtin; refine wpList_appG _ rfl _ _ rfl rfl h0 rfl (ha.alloc _) (by omega) (by simp) ?_; intro A' c' w1 hown hg hat hk)
    simp only [Nat.zero_add, List.nil_append] at hown
    go_wp2
    go_ret
    exact ⟨_, _, by simp, hown, below_appG hB h0 hg (by simp) (Nat.le_refl _)⟩

set_option maxRecDepth 100000 in
set_option maxHeartbeats 8000000 in
theorem spec_AddOut_any (p x y : Int) (Ag : Option Addr) (ng cg : Nat) (Ao : Option Addr) (no co : Nat) (gs : List G3) (os : List Int) (i k : Int) (w : World) (hr : RG w Ag ng gs ∧ RI w Ao no os) (hng : ng ≤ 2097152) (hno : no ≤ 2097152) :
    Calls Try.prog 10 #[.agg #[.int .i64 p, .int .i64 x, .int .i64 y, .slice Ag ng cg, .slice Ao no co], .int .i64 i, .int .i64 k] w (RetA w (addOutF p x y gs os i k)) := by
  have hlg := hr.1.len
  have hlo := hr.2.len
  have hB1 : Below w.heap.size w (w.alloc (.cells #[.int .i64 p, .int .i64 x, .int .i64 y, .slice Ag ng cg, .slice Ao no co] 29)) := (Below.refl _ _).alloc (Nat.le_refl _) _
  have hB : Below w.heap.size w ((w.alloc (.cells #[.int .i64 p, .int .i64 x, .int .i64 y, .slice Ag ng cg, .slice Ao no co] 29)).alloc (.cells #[.int .i64 0, .int .i64 0, .int .i64 0, .slice none 0 0, .slice none 0 0] 29)) := hB1.alloc (by simp) _
  have hx0 : BxA ((w.alloc (.cells #[.int .i64 p, .int .i64 x, .int .i64 y, .slice Ag ng cg, .slice Ao no co] 29)).alloc (.cells #[.int .i64 0, .int .i64 0, .int .i64 0, .slice none 0 0, .slice none 0 0] 29)) w.heap.size p x y Ag ng cg Ao no co := (BxA.new w _).below ((Below.refl _ _).alloc (Nat.le_refl _) _)
  have hr0 : BxA ((w.alloc (.cells #[.int .i64 p, .int .i64 x, .int .i64 y, .slice Ag ng cg, .slice Ao no co] 29)).alloc (.cells #[.int .i64 0, .int .i64 0, .int .i64 0, .slice none 0 0, .slice none 0 0] 29)) (w.heap.size + 1) 0 0 0 none 0 0 none 0 0 := by simpa using BxA.new (p := 0) (x := 0) (y := 0) (Ag := none) (ng := 0) (cg := 0) (Ao := none) (no := 0) (co := 0) (w.alloc (.cells #[.int .i64 p, .int .i64 x, .int .i64 y, .slice Ag ng cg, .slice Ao no co] 29)) 29
  have f0 : Fz ((w.alloc (.cells #[.int .i64 p, .int .i64 x, .int .i64 y, .slice Ag ng cg, .slice Ao no co] 29)).alloc (.cells #[.int .i64 0, .int .i64 0, .int .i64 0, .slice none 0 0, .slice none 0 0] 29)) (w.heap.size + 1) := by simpa using Fz.new (w.alloc (.cells #[.int .i64 p, .int .i64 x, .int .i64 y, .slice Ag ng cg, .slice Ao no co] 29)) #[.int .i64 0, .int .i64 0, .int .i64 0, .slice none 0 0, .slice none 0 0] 29
  cases h0 : arB p x y gs os with
  | false =>
    have HR : Hid (addOutF p x y gs os i k = none) := Lib.hid (by simp [addOutF, h0])
    have H0 := Lib.hid h0; clear h0
    go_enter Try.func10, Try.ntmps10
    have hq := hx0; obtain ⟨k0, k1, k2, k3, k4⟩ := hq
    go_wp2_with fail
    refine (arGood_any p x y Ag ng cg Ao no co gs os _ (hr.1.below hB (Nat.le_refl _)) (hr.2.below hB (Nat.le_refl _)) hng hno).mono ?_
    rintro e v1 ⟨rfl, hb1⟩
    rw [H0.out]
    clear k0 k1 k2 k3 k4
    have hr1 := hr0.below hb1
    have f1 := f0.below hb1 (by simp)
    have hx1 := hx0.below hb1
    have hBv := hB.trans (hb1.mono hB.size)
    have hz1 := hb1.size
    simp only [World.size_alloc] at hz1
    have hq := hx1; obtain ⟨k0, k1, k2, k3, k4⟩ := hq
    have hq := hr1; obtain ⟨r0, r1, r2, r3, r4⟩ := hq
    have g0 := f1 0; have g1 := f1 1; have g2 := f1 2; have g3 := f1 3; have g4 := f1 4
    go_wp2
    have hq9 := BxA.set5 (hr1) 0 0 0 none 0 0 none 0 0
    obtain ⟨q0, q1, q2, q3, q4⟩ := hq9
    refine bodyPost_ret (v := .tuple #[.agg #[.int .i64 0, .int .i64 0, .int .i64 0, .slice none 0 0, .slice none 0 0], .bool false]) (by simp [results, Try.results10, go_sem, q0, q1, q2, q3, q4]) rfl ?_
    exact RetA.none_ (below_set5 hBv (by omega) _ _ _ _ _ _ _ _ _) HR.out rfl
  | true =>
    obtain ⟨b1, b2, b3, b4, b5, b6, b7⟩ := arB_bd h0
    clear b1 b6 b7
    rw [hlg] at b4
    rw [hlo] at b5
    cases hi : inB 0 ((no : Int) - 1) i with
    | false =>
      have HR : Hid (addOutF p x y gs os i k = none) := Lib.hid (by simp [addOutF, hlo, hi])
      have H0 := Lib.hid h0; clear h0
      have HI := Lib.hid hi; clear hi
      go_enter Try.func10, Try.ntmps10
      have hq := hx0; obtain ⟨k0, k1, k2, k3, k4⟩ := hq
      go_wp2_with fail
      refine (arGood_any p x y Ag ng cg Ao no co gs os _ (hr.1.below hB (Nat.le_refl _)) (hr.2.below hB (Nat.le_refl _)) hng hno).mono ?_
      rintro e v1 ⟨rfl, hb1⟩
      rw [H0.out]
      clear k0 k1 k2 k3 k4
      have hr1 := hr0.below hb1
      have f1 := f0.below hb1 (by simp)
      have hx1 := hx0.below hb1
      have hBv := hB.trans (hb1.mono hB.size)
      have hz1 := hb1.size
      simp only [World.size_alloc] at hz1
      have hq := hx1; obtain ⟨k0, k1, k2, k3, k4⟩ := hq
      go_wp2_with fail
      refine (l1In_any i 0 ((no : Int) - 1) _ rfl _).mono ?_
      rintro e w1 ⟨rfl, rfl⟩
      rw [HI.out]
      have hq := hr1; obtain ⟨r0, r1, r2, r3, r4⟩ := hq
      have g0 := f1 0; have g1 := f1 1; have g2 := f1 2; have g3 := f1 3; have g4 := f1 4
      go_wp2
      have hq9 := BxA.set5 (hr1) 0 0 0 none 0 0 none 0 0
      obtain ⟨q0, q1, q2, q3, q4⟩ := hq9
      refine bodyPost_ret (v := .tuple #[.agg #[.int .i64 0, .int .i64 0, .int .i64 0, .slice none 0 0, .slice none 0 0], .bool false]) (by simp [results, Try.results10, go_sem, q0, q1, q2, q3, q4]) rfl ?_
      exact RetA.none_ (below_set5 hBv (by omega) _ _ _ _ _ _ _ _ _) HR.out rfl
    | true =>
      cases hk : inB 0 ((no : Int) - 1) k with
      | false =>
        have HR : Hid (addOutF p x y gs os i k = none) := Lib.hid (by simp [addOutF, hlo, hk])
        have H0 := Lib.hid h0; clear h0
        have HI := Lib.hid hi; clear hi
        have HK := Lib.hid hk; clear hk
        go_enter Try.func10, Try.ntmps10
        have hq := hx0; obtain ⟨k0, k1, k2, k3, k4⟩ := hq
        go_wp2_with fail
        refine (arGood_any p x y Ag ng cg Ao no co gs os _ (hr.1.below hB (Nat.le_refl _)) (hr.2.below hB (Nat.le_refl _)) hng hno).mono ?_
        rintro e v1 ⟨rfl, hb1⟩
        rw [H0.out]
        clear k0 k1 k2 k3 k4
        have hr1 := hr0.below hb1
        have f1 := f0.below hb1 (by simp)
        have hx1 := hx0.below hb1
        have hBv := hB.trans (hb1.mono hB.size)
        have hz1 := hb1.size
        simp only [World.size_alloc] at hz1
        have hq := hx1; obtain ⟨k0, k1, k2, k3, k4⟩ := hq
        go_wp2_with fail
        refine (l1In_any i 0 ((no : Int) - 1) _ rfl _).mono ?_
        rintro e w1 ⟨rfl, rfl⟩
        rw [HI.out]
        go_wp2_with fail
        refine (l1In_any k 0 ((no : Int) - 1) _ rfl _).mono ?_
        rintro e w1 ⟨rfl, rfl⟩
        rw [HK.out]
        have hq := hr1; obtain ⟨r0, r1, r2, r3, r4⟩ := hq
        have g0 := f1 0; have g1 := f1 1; have g2 := f1 2; have g3 := f1 3; have g4 := f1 4
        go_wp2
        have hq9 := BxA.set5 (hr1) 0 0 0 none 0 0 none 0 0
        obtain ⟨q0, q1, q2, q3, q4⟩ := hq9
        refine bodyPost_ret (v := .tuple #[.agg #[.int .i64 0, .int .i64 0, .int .i64 0, .slice none 0 0, .slice none 0 0], .bool false]) (by simp [results, Try.results10, go_sem, q0, q1, q2, q3, q4]) rfl ?_
        exact RetA.none_ (below_set5 hBv (by omega) _ _ _ _ _ _ _ _ _) HR.out rfl
      | true =>
        have hib := inB_iff.1 hi
        have hkb := inB_iff.1 hk
        have H0 := Lib.hid h0
        have HI := Lib.hid hi
        have HK := Lib.hid hk
        have HF : Hid (addOutF p x y gs os i k = if arB p x y (addGs gs os i.toNat k.toNat) (addOs x y gs os) = true then some ⟨p, x, y, addGs gs os i.toNat k.toNat, addOs x y gs os⟩ else none) := Lib.hid (by simp [addOutF, hlo, hi, hk, h0])
        clear hi hk h0
        obtain ⟨I, rfl⟩ : ∃ I : Nat, i = I := ⟨i.toNat, by omega⟩
        obtain ⟨K, rfl⟩ : ∃ K : Nat, k = K := ⟨k.toNat, by omega⟩
        have HF' : Hid (addOutF p x y gs os I K = if arB p x y (addGs gs os I K) (addOs x y gs os) = true then some ⟨p, x, y, addGs gs os I K, addOs x y gs os⟩ else none) := Lib.hid HF.out
        have HO : Hid (addOs x y gs os = os ++ [x + y + ng, x + y + ng + 1]) := Lib.hid (by rw [addOs, hlg])
        obtain ⟨t, ht⟩ : ∃ t, Hid (arB p x y (addGs gs os I K) (addOs x y gs os) = t) := ⟨_, Lib.hid rfl⟩
        have hlg' : (addGs gs os I K).length = ng + 2 := by simp [addGs, hlg]
        have hlo' : (addOs x y gs os).length = no + 2 := by simp [addOs, hlo]
        have hIn : I < no := by omega
        have hKn : K < no := by omega
        clear hib hkb
        obtain ⟨va, hva⟩ : ∃ va, Hid (gi os I = va) := ⟨_, Lib.hid rfl⟩
        obtain ⟨vb, hvb⟩ : ∃ vb, Hid (gi os K = vb) := ⟨_, Lib.hid rfl⟩
        have HG : Hid (addGs gs os I K = gs ++ [⟨0, va, vb⟩, ⟨1, va, vb⟩]) := Lib.hid (by rw [← hva.out, ← hvb.out]; rfl)
        clear HF
        go_enter Try.func10, Try.ntmps10
        have hq := hx0; obtain ⟨k0, k1, k2, k3, k4⟩ := hq
        go_wp2_with fail
        refine (arGood_any p x y Ag ng cg Ao no co gs os _ (hr.1.below hB (Nat.le_refl _)) (hr.2.below hB (Nat.le_refl _)) hng hno).mono ?_
        rintro e v1 ⟨rfl, hb1⟩
        rw [H0.out]
        clear k0 k1 k2 k3 k4
        have hr1 := hr0.below hb1
        have f1 := f0.below hb1 (by simp)
        have hx1 := hx0.below hb1
        have hBv := hB.trans (hb1.mono hB.size)
        have hz1 := hb1.size
        simp only [World.size_alloc] at hz1
        have hq := hx1; obtain ⟨k0, k1, k2, k3, k4⟩ := hq
        go_wp2_with fail
        refine (l1In_any I 0 ((no : Int) - 1) _ rfl _).mono ?_
        rintro e w1 ⟨rfl, rfl⟩
        rw [HI.out]
        go_wp2_with fail
        refine (l1In_any K 0 ((no : Int) - 1) _ rfl _).mono ?_
        rintro e w1 ⟨rfl, rfl⟩
        rw [HK.out]
        go_wp2_with fail
        refine (arOwn_any p x y Ag ng cg Ao no co gs os v1 ⟨hr.1.below hBv (Nat.le_refl _), hr.2.below hBv (Nat.le_refl _)⟩ hng hno).mono ?_
        rintro e v2 hT
        obtain ⟨A2, c2, O2, d2, rfl, hown2, hb2⟩ := hT.open_ hlg hlo
        have hz2 := hb2.size
        have hC3 := hb2.alloc hb2.size (.cells #[.int .i64 p, .int .i64 x, .int .i64 y, .slice A2 ng c2, .slice O2 no d2] 29)
        have hB3 := hBv.trans (hC3.mono hBv.size)
        obtain ⟨kb, ob, rfl, hkb, hcs⟩ := (hr.2.below hB3 (Nat.le_refl _)).2 (by omega)
        have ce1 := hcs I (by omega)
        have ce2 := hcs K (by omega)
        rw [hva.out] at ce1
        rw [hvb.out] at ce2
        have hx3 := hx1.below hC3
        clear k0 k1 k2 k3 k4 hcs
        have hq := hx3; obtain ⟨k0, k1, k2, k3, k4⟩ := hq
        have hX3 := (OwnX.of hown2 (Nat.le_refl _)).below_ ((Below.refl _ _).alloc (Nat.le_refl _) (.cells #[.int .i64 p, .int .i64 x, .int .i64 y, .slice A2 ng c2, .slice O2 no d2] 29)) (Nat.le_refl _)
        have hb3 := BxA.new (p := p) (x := x) (y := y) (Ag := A2) (ng := ng) (cg := c2) (Ao := O2) (no := no) (co := d2) v2 29
        have fo3 := Fz.new v2 #[.int .i64 p, .int .i64 x, .int .i64 y, .slice A2 ng c2, .slice O2 no d2] 29
        go_wp2_with fail
        refine wp_region_keep ((v2.heap.size + 1)) (v2.alloc (.cells #[.int .i64 p, .int .i64 x, .int .i64 y, .slice A2 ng c2, .slice O2 no d2] 29)) [(⟨w.heap.size, 0, none⟩, .int .i64 p), (⟨w.heap.size, 1, none⟩, .int .i64 x), (⟨w.heap.size, 2, none⟩, .int .i64 y), (⟨w.heap.size, 3, none⟩, .slice Ag ng cg), (⟨w.heap.size, 4, none⟩, .slice (some ⟨kb, ob, none⟩) no co), (⟨kb, ob + I, none⟩, .int .i64 va), (⟨kb, ob + K, none⟩, .int .i64 vb)] (by kernel_rfl) (by kernel_rfl) (by simp only [List.mem_cons, forall_eq_or_imp, List.not_mem_nil, false_implies, implies_true, and_true]; repeat (any_goals (apply And.intro)); all_goals (first | assumption | go_simp)) ?_
        repeat (first
          | go_big_quiet_skip
          | (go_big_quiet_want
             apply Exists.intro
             refine ⟨fun w3 hw3 => ?_, ?_⟩
             · have hcs := hw3.2
               simp only [List.mem_cons, forall_eq_or_imp, List.not_mem_nil, false_implies, implies_true, and_true] at hcs
               simp only [Oper.quietAt]
               go_simp
               first | done | exact ⟨rfl, rfl⟩ | rfl | (refine (arWires_any _ _ _ _ _ _ _ _ _ _ (by omega) (by omega) (by omega)).mono ?_; rintro e w4 ⟨rfl, hb4⟩; exact ⟨rfl, hw3.next hb4 (by simp)⟩)
             go_big_quiet_on
             try simp only [Act.put, List.setIfInBounds_toArray, List.set_cons_zero, List.set_cons_succ]))
        refine wpQuiet_nil ?_
        intro wq hwq
        have hbq := hwq.1
        clear hwq k0 k1 k2 k3 k4 ce1 ce2
        have hCq := hC3.trans (hbq.mono (by omega))
        have hXq := hX3.below_ hbq (by simp)
        have hoq := hb3.below (by simpa using hbq)
        have foq := fo3.below hbq (by omega)
        have hzq := hbq.size
        simp only [World.size_alloc] at hzq
        clear hX3 hb3 fo3 hbq hC3 hown2 hb2
        have haA := (Below.refl wq.heap.size wq).alloc (Nat.le_refl _) (.cells #[.int .i64 0, .int .i64 va, .int .i64 vb, .int .i64 1, .int .i64 va, .int .i64 vb] 60)
        have hXA := hXq.below_ haA (Nat.le_refl _)
        have hoA := hoq.below haA
        have foA := foq.below haA (by omega)
        have hbA : v2.heap.size < (wq.alloc (.cells #[.int .i64 0, .int .i64 va, .int .i64 vb, .int .i64 1, .int .i64 va, .int .i64 vb] 60)).heap.size := by simp; omega
        have hCA := hCq.alloc hCq.size (.cells #[.int .i64 0, .int .i64 va, .int .i64 vb, .int .i64 1, .int .i64 va, .int .i64 vb] 60)
        obtain ⟨q0, q1, q2, q3, q4⟩ := hoq
        clear hXq foq haA
        go_wp2_with (first
          | (at_builtin; refine wpList_appG _ rfl _ _ rfl rfl hXA.1.1 rfl (RG_new2 _ _ _ _ _ _ _ _) (by omega) (by first | (simp; done) | (simp; omega)) ?_; intro A5 c5 w5 hown5 hg5 hat5 hk5; have hX5 := hXA.appG hbA hown5 hg5 hat5; have hb5 := (hoA.grown hg5 hXA.2.1).setG A5 (ng + 2) c5; have f5' := foA.grown hg5 hbA hXA.2.1; have f5 := f5'.set ⟨v2.heap.size, 3, none⟩ (.slice A5 (ng + 2) c5); have hu5 := hoA.grown hg5 hXA.2.1; have hs5 := hX5.store 3 (.slice A5 (ng + 2) c5); have hC5 := (below_appG hCA hXA.1.1 hg5 (by first | (simp; done) | (simp; omega)) (Nat.le_refl _)).setCell (p := ⟨v2.heap.size, 3, none⟩) hz2 (.slice A5 (ng + 2) c5); have hz5 := hg5.size; simp only [World.size_alloc] at hz5; have hbB : v2.heap.size < ((w5.setCell ⟨v2.heap.size, 3, none⟩ (.slice A5 (ng + 2) c5)).alloc (.cells #[.int .i64 (x + y + ng), .int .i64 (x + y + ng + 1)] 3)).heap.size := (by first | (simp; done) | (simp; omega)); have haB := (Below.refl (w5.setCell ⟨v2.heap.size, 3, none⟩ (.slice A5 (ng + 2) c5)).heap.size (w5.setCell ⟨v2.heap.size, 3, none⟩ (.slice A5 (ng + 2) c5))).alloc (Nat.le_refl _) (.cells #[.int .i64 (x + y + ng), .int .i64 (x + y + ng + 1)] 3); have hXB := hs5.below_ haB (Nat.le_refl _); have hoB := hb5.below haB; have foB := f5.below haB (by first | (simp; done) | (simp; omega)); have hCB := hC5.alloc hC5.size (.cells #[.int .i64 (x + y + ng), .int .i64 (x + y + ng + 1)] 3); obtain ⟨j0, j1, j2, j3, j4⟩ := hu5; have hq5 := hb5; obtain ⟨i0, i1, i2, i3, i4⟩ := hq5; have m3 := f5' 3; clear hown5 hg5 hat5 hk5 hX5)
          | (at_builtin; go_loud (refine wpList_appI _ rfl _ _ rfl rfl hXB.1.2.1 rfl (RI_two _ _ _ _ _ (by simp)) (by omega) (by first | (simp; done) | (simp; omega)) ?_; intro A6 c6 w6 hown6 hg6 hat6 hk6; have hX6 := (hXB.appI hbB hown6 hg6 hat6); have hX7 := hX6.store 4 (.slice A6 (no + 2) c6); have hb6 := hoB.grown hg6 hXB.2.2; have hb7 := hb6.setO A6 (no + 2) c6; have f6' := foB.grown hg6 hbB hXB.2.2; have f7 := f6'.set ⟨v2.heap.size, 4, none⟩ (.slice A6 (no + 2) c6); have hC7 := (below_app hCB hXB.1.2.1 hg6 (by first | (simp; done) | (simp; omega)) (Nat.le_refl _)).setCell (p := ⟨v2.heap.size, 4, none⟩) hz2 (.slice A6 (no + 2) c6); have hz6 := hg6.size; simp only [World.size_alloc, World.size_setCell] at hz6; obtain ⟨l0, l1, l2, l3, l4⟩ := hb6; have hq7 := hb7; obtain ⟨n0, n1, n2, n3, n4⟩ := hq7; have m4 := f6' 4; clear hown6 hg6 hat6 hk6 hX6)))
        rw [← HG.out, ← HO.out] at hX7
        clear j0 j1 j2 j3 j4 i0 i1 i2 i3 i4 l0 l1 l2 l3 l4
        refine (arGood_any p x y A5 (ng + 2) c5 A6 (no + 2) c6 (addGs gs os I K) (addOs x y gs os) _ hX7.1.reads.1 hX7.1.reads.2 (by omega) (by omega)).mono ?_
        rintro e v8 ⟨rfl, hb8⟩
        rw [ht.out]
        clear n0 n1 n2 n3 n4
        have hC8 := hC7.trans (hb8.mono hC7.size)
        have hX8 := hX7.below_ hb8 (Nat.le_refl _)
        have hb9 := hb7.below hb8
        have hr8 := hr1.below hC8
        have f8 := f1.below hC8 (by omega)
        have hB8 := hBv.trans (hC8.mono hBv.size)
        have hq := hr8; obtain ⟨r0, r1, r2, r3, r4⟩ := hq
        have g0 := f8 0; have g1 := f8 1; have g2 := f8 2; have g3 := f8 3; have g4 := f8 4
        obtain ⟨n0, n1, n2, n3, n4⟩ := hb9
        clear hX7 hb7 hC7 hb8
        cases t with
        | false =>
          have HR : Hid (addOutF p x y gs os I K = none) := Lib.hid (by rw [HF'.out, ht.out]; rfl)
          go_wp2
          have hq9 := BxA.set5 (hr8) 0 0 0 none 0 0 none 0 0
          obtain ⟨q0, q1, q2, q3, q4⟩ := hq9
          refine bodyPost_ret (v := .tuple #[.agg #[.int .i64 0, .int .i64 0, .int .i64 0, .slice none 0 0, .slice none 0 0], .bool false]) (by simp [results, Try.results10, go_sem, q0, q1, q2, q3, q4]) rfl ?_
          exact RetA.none_ (below_set5 hB8 (by omega) _ _ _ _ _ _ _ _ _) HR.out rfl
        | true =>
          have HR : Hid (addOutF p x y gs os I K = some ⟨p, x, y, addGs gs os I K, addOs x y gs os⟩) := Lib.hid (by rw [HF'.out, ht.out]; rfl)
          go_wp2
          have hq9 := BxA.set5 (hr8) p x y A5 (ng+2) c5 A6 (no+2) c6
          obtain ⟨q0, q1, q2, q3, q4⟩ := hq9
          refine bodyPost_ret (v := .tuple #[.agg #[.int .i64 p, .int .i64 x, .int .i64 y, .slice A5 (ng+2) c5, .slice A6 (no+2) c6], .bool true]) (by simp [results, Try.results10, go_sem, q0, q1, q2, q3, q4]) rfl ?_
          exact RetA.some_ (below_set5 hB8 (by omega) _ _ _ _ _ _ _ _ _) HR.out hlg' hlo' rfl (by rw [set5_size]; exact ((hX8.1.set5 (.inl (by omega)) _ _ _ _ _ _ _ _ _).lo_ (by omega)))

set_option maxRecDepth 100000 in
set_option maxHeartbeats 8000000 in
theorem AddOut_any (p x y : Int) (Ag : Option Addr) (ng cg : Nat) (Ao : Option Addr) (no co : Nat) (gs : List G3) (os : List Int) (i k : Int) (w : World) (hr : RG w Ag ng gs ∧ RI w Ao no os) (hng : ng ≤ 2097152) (hno : no ≤ 2097152) :
    Calls Try.prog 12 #[.agg #[.int .i64 p, .int .i64 x, .int .i64 y, .slice Ag ng cg, .slice Ao no co], .int .i64 i, .int .i64 k] w (RetA w (addOutF p x y gs os i k)) := by
  have hlg := hr.1.len
  have hlo := hr.2.len
  have hB1 : Below w.heap.size w (w.alloc (.cells #[.int .i64 p, .int .i64 x, .int .i64 y, .slice Ag ng cg, .slice Ao no co] 29)) := (Below.refl _ _).alloc (Nat.le_refl _) _
  have hB : Below w.heap.size w ((w.alloc (.cells #[.int .i64 p, .int .i64 x, .int .i64 y, .slice Ag ng cg, .slice Ao no co] 29)).alloc (.cells #[.int .i64 0, .int .i64 0, .int .i64 0, .slice none 0 0, .slice none 0 0] 29)) := hB1.alloc (by simp) _
  have hx0 : BxA ((w.alloc (.cells #[.int .i64 p, .int .i64 x, .int .i64 y, .slice Ag ng cg, .slice Ao no co] 29)).alloc (.cells #[.int .i64 0, .int .i64 0, .int .i64 0, .slice none 0 0, .slice none 0 0] 29)) w.heap.size p x y Ag ng cg Ao no co := (BxA.new w _).below ((Below.refl _ _).alloc (Nat.le_refl _) _)
  have hr0 : BxA ((w.alloc (.cells #[.int .i64 p, .int .i64 x, .int .i64 y, .slice Ag ng cg, .slice Ao no co] 29)).alloc (.cells #[.int .i64 0, .int .i64 0, .int .i64 0, .slice none 0 0, .slice none 0 0] 29)) (w.heap.size + 1) 0 0 0 none 0 0 none 0 0 := by simpa using BxA.new (p := 0) (x := 0) (y := 0) (Ag := none) (ng := 0) (cg := 0) (Ao := none) (no := 0) (co := 0) (w.alloc (.cells #[.int .i64 p, .int .i64 x, .int .i64 y, .slice Ag ng cg, .slice Ao no co] 29)) 29
  have f0 : Fz ((w.alloc (.cells #[.int .i64 p, .int .i64 x, .int .i64 y, .slice Ag ng cg, .slice Ao no co] 29)).alloc (.cells #[.int .i64 0, .int .i64 0, .int .i64 0, .slice none 0 0, .slice none 0 0] 29)) (w.heap.size + 1) := by simpa using Fz.new (w.alloc (.cells #[.int .i64 p, .int .i64 x, .int .i64 y, .slice Ag ng cg, .slice Ao no co] 29)) #[.int .i64 0, .int .i64 0, .int .i64 0, .slice none 0 0, .slice none 0 0] 29
  cases h0 : arB p x y gs os with
  | false =>
    have HR : Hid (addOutF p x y gs os i k = none) := Lib.hid (by simp [addOutF, h0])
    have H0 := Lib.hid h0; clear h0
    go_enter Try.func12, Try.ntmps12
    have hq := hx0; obtain ⟨k0, k1, k2, k3, k4⟩ := hq
    go_wp2_with fail
    refine (IsArith_any p x y Ag ng cg Ao no co gs os _ (hr.1.below hB (Nat.le_refl _)) (hr.2.below hB (Nat.le_refl _)) hng hno).mono ?_
    rintro e v1 ⟨rfl, hb1⟩
    rw [H0.out]
    clear k0 k1 k2 k3 k4
    have hr1 := hr0.below hb1
    have f1 := f0.below hb1 (by simp)
    have hx1 := hx0.below hb1
    have hBv := hB.trans (hb1.mono hB.size)
    have hz1 := hb1.size
    simp only [World.size_alloc] at hz1
    have hq := hx1; obtain ⟨k0, k1, k2, k3, k4⟩ := hq
    have hq := hr1; obtain ⟨r0, r1, r2, r3, r4⟩ := hq
    have g0 := f1 0; have g1 := f1 1; have g2 := f1 2; have g3 := f1 3; have g4 := f1 4
    go_wp2
    have hq9 := BxA.set5 (hr1) 0 0 0 none 0 0 none 0 0
    obtain ⟨q0, q1, q2, q3, q4⟩ := hq9
    refine bodyPost_ret (v := .tuple #[.agg #[.int .i64 0, .int .i64 0, .int .i64 0, .slice none 0 0, .slice none 0 0], .bool false]) (by simp [results, Try.results12, go_sem, q0, q1, q2, q3, q4]) rfl ?_
    exact RetA.none_ (below_set5 hBv (by omega) _ _ _ _ _ _ _ _ _) HR.out rfl
  | true =>
    obtain ⟨b1, b2, b3, b4, b5, b6, b7⟩ := arB_bd h0
    clear b1 b6 b7
    rw [hlg] at b4
    rw [hlo] at b5
    cases hi : inB 0 ((no : Int) - 1) i with
    | false =>
      have HR : Hid (addOutF p x y gs os i k = none) := Lib.hid (by simp [addOutF, hlo, hi])
      have H0 := Lib.hid h0; clear h0
      have HI := Lib.hid hi; clear hi
      go_enter Try.func12, Try.ntmps12
      have hq := hx0; obtain ⟨k0, k1, k2, k3, k4⟩ := hq
      go_wp2_with fail
      refine (IsArith_any p x y Ag ng cg Ao no co gs os _ (hr.1.below hB (Nat.le_refl _)) (hr.2.below hB (Nat.le_refl _)) hng hno).mono ?_
      rintro e v1 ⟨rfl, hb1⟩
      rw [H0.out]
      clear k0 k1 k2 k3 k4
      have hr1 := hr0.below hb1
      have f1 := f0.below hb1 (by simp)
      have hx1 := hx0.below hb1
      have hBv := hB.trans (hb1.mono hB.size)
      have hz1 := hb1.size
      simp only [World.size_alloc] at hz1
      have hq := hx1; obtain ⟨k0, k1, k2, k3, k4⟩ := hq
      go_wp2_with fail
      refine (within_any i 0 ((no : Int) - 1) _ rfl _).mono ?_
      rintro e w1 ⟨rfl, rfl⟩
      rw [HI.out]
      have hq := hr1; obtain ⟨r0, r1, r2, r3, r4⟩ := hq
      have g0 := f1 0; have g1 := f1 1; have g2 := f1 2; have g3 := f1 3; have g4 := f1 4
      go_wp2
      have hq9 := BxA.set5 (hr1) 0 0 0 none 0 0 none 0 0
      obtain ⟨q0, q1, q2, q3, q4⟩ := hq9
      refine bodyPost_ret (v := .tuple #[.agg #[.int .i64 0, .int .i64 0, .int .i64 0, .slice none 0 0, .slice none 0 0], .bool false]) (by simp [results, Try.results12, go_sem, q0, q1, q2, q3, q4]) rfl ?_
      exact RetA.none_ (below_set5 hBv (by omega) _ _ _ _ _ _ _ _ _) HR.out rfl
    | true =>
      cases hk : inB 0 ((no : Int) - 1) k with
      | false =>
        have HR : Hid (addOutF p x y gs os i k = none) := Lib.hid (by simp [addOutF, hlo, hk])
        have H0 := Lib.hid h0; clear h0
        have HI := Lib.hid hi; clear hi
        have HK := Lib.hid hk; clear hk
        go_enter Try.func12, Try.ntmps12
        have hq := hx0; obtain ⟨k0, k1, k2, k3, k4⟩ := hq
        go_wp2_with fail
        refine (IsArith_any p x y Ag ng cg Ao no co gs os _ (hr.1.below hB (Nat.le_refl _)) (hr.2.below hB (Nat.le_refl _)) hng hno).mono ?_
        rintro e v1 ⟨rfl, hb1⟩
        rw [H0.out]
        clear k0 k1 k2 k3 k4
        have hr1 := hr0.below hb1
        have f1 := f0.below hb1 (by simp)
        have hx1 := hx0.below hb1
        have hBv := hB.trans (hb1.mono hB.size)
        have hz1 := hb1.size
        simp only [World.size_alloc] at hz1
        have hq := hx1; obtain ⟨k0, k1, k2, k3, k4⟩ := hq
        go_wp2_with fail
        refine (within_any i 0 ((no : Int) - 1) _ rfl _).mono ?_
        rintro e w1 ⟨rfl, rfl⟩
        rw [HI.out]
        go_wp2_with fail
        refine (within_any k 0 ((no : Int) - 1) _ rfl _).mono ?_
        rintro e w1 ⟨rfl, rfl⟩
        rw [HK.out]
        have hq := hr1; obtain ⟨r0, r1, r2, r3, r4⟩ := hq
        have g0 := f1 0; have g1 := f1 1; have g2 := f1 2; have g3 := f1 3; have g4 := f1 4
        go_wp2
        have hq9 := BxA.set5 (hr1) 0 0 0 none 0 0 none 0 0
        obtain ⟨q0, q1, q2, q3, q4⟩ := hq9
        refine bodyPost_ret (v := .tuple #[.agg #[.int .i64 0, .int .i64 0, .int .i64 0, .slice none 0 0, .slice none 0 0], .bool false]) (by simp [results, Try.results12, go_sem, q0, q1, q2, q3, q4]) rfl ?_
        exact RetA.none_ (below_set5 hBv (by omega) _ _ _ _ _ _ _ _ _) HR.out rfl
      | true =>
        have hib := inB_iff.1 hi
        have hkb := inB_iff.1 hk
        have H0 := Lib.hid h0
        have HI := Lib.hid hi
        have HK := Lib.hid hk
        have HF : Hid (addOutF p x y gs os i k = if arB p x y (addGs gs os i.toNat k.toNat) (addOs x y gs os) = true then some ⟨p, x, y, addGs gs os i.toNat k.toNat, addOs x y gs os⟩ else none) := Lib.hid (by simp [addOutF, hlo, hi, hk, h0])
        clear hi hk h0
        obtain ⟨I, rfl⟩ : ∃ I : Nat, i = I := ⟨i.toNat, by omega⟩
        obtain ⟨K, rfl⟩ : ∃ K : Nat, k = K := ⟨k.toNat, by omega⟩
        have HF' : Hid (addOutF p x y gs os I K = if arB p x y (addGs gs os I K) (addOs x y gs os) = true then some ⟨p, x, y, addGs gs os I K, addOs x y gs os⟩ else none) := Lib.hid HF.out
        have HO : Hid (addOs x y gs os = os ++ [x + y + ng, x + y + ng + 1]) := Lib.hid (by rw [addOs, hlg])
        obtain ⟨t, ht⟩ : ∃ t, Hid (arB p x y (addGs gs os I K) (addOs x y gs os) = t) := ⟨_, Lib.hid rfl⟩
        have hlg' : (addGs gs os I K).length = ng + 2 := by simp [addGs, hlg]
        have hlo' : (addOs x y gs os).length = no + 2 := by simp [addOs, hlo]
        have hIn : I < no := by omega
        have hKn : K < no := by omega
        clear hib hkb
        obtain ⟨va, hva⟩ : ∃ va, Hid (gi os I = va) := ⟨_, Lib.hid rfl⟩
        obtain ⟨vb, hvb⟩ : ∃ vb, Hid (gi os K = vb) := ⟨_, Lib.hid rfl⟩
        have HG : Hid (addGs gs os I K = gs ++ [⟨0, va, vb⟩, ⟨1, va, vb⟩]) := Lib.hid (by rw [← hva.out, ← hvb.out]; rfl)
        clear HF
        go_enter Try.func12, Try.ntmps12
        have hq := hx0; obtain ⟨k0, k1, k2, k3, k4⟩ := hq
        go_wp2_with fail
        refine (IsArith_any p x y Ag ng cg Ao no co gs os _ (hr.1.below hB (Nat.le_refl _)) (hr.2.below hB (Nat.le_refl _)) hng hno).mono ?_
        rintro e v1 ⟨rfl, hb1⟩
        rw [H0.out]
        clear k0 k1 k2 k3 k4
        have hr1 := hr0.below hb1
        have f1 := f0.below hb1 (by simp)
        have hx1 := hx0.below hb1
        have hBv := hB.trans (hb1.mono hB.size)
        have hz1 := hb1.size
        simp only [World.size_alloc] at hz1
        have hq := hx1; obtain ⟨k0, k1, k2, k3, k4⟩ := hq
        go_wp2_with fail
        refine (within_any I 0 ((no : Int) - 1) _ rfl _).mono ?_
        rintro e w1 ⟨rfl, rfl⟩
        rw [HI.out]
        go_wp2_with fail
        refine (within_any K 0 ((no : Int) - 1) _ rfl _).mono ?_
        rintro e w1 ⟨rfl, rfl⟩
        rw [HK.out]
        obtain ⟨kb, ob, rfl, hkb, hcs⟩ := (hr.2.below hBv (Nat.le_refl _)).2 (by omega)
        have ce1 := hcs I (by omega)
        have ce2 := hcs K (by omega)
        rw [hva.out] at ce1
        rw [hvb.out] at ce2
        clear hcs
        have hw1 : IntKind.i64.wrap (x + y + (ng : Int)) = x + y + ng := IntWalk.i64_in _ (by omega)
        have hw2 : IntKind.i64.wrap (x + y + (ng : Int) + 1) = x + y + ng + 1 := IntWalk.i64_in _ (by omega)
        go_wp2_with fail
        refine wp_region_keep ((v1.heap.size)) (v1) [(⟨w.heap.size, 0, none⟩, .int .i64 p), (⟨w.heap.size, 1, none⟩, .int .i64 x), (⟨w.heap.size, 2, none⟩, .int .i64 y), (⟨w.heap.size, 3, none⟩, .slice Ag ng cg), (⟨w.heap.size, 4, none⟩, .slice (some ⟨kb, ob, none⟩) no co), (⟨kb, ob + I, none⟩, .int .i64 va), (⟨kb, ob + K, none⟩, .int .i64 vb)] (by kernel_rfl) (by kernel_rfl) (by simp only [List.mem_cons, forall_eq_or_imp, List.not_mem_nil, false_implies, implies_true, and_true]; repeat (any_goals (apply And.intro)); all_goals (first | assumption | go_simp)) ?_
        repeat (first
          | go_big_quiet_skip
          | (go_big_quiet_want
             apply Exists.intro
             refine ⟨fun w3 hw3 => ?_, ?_⟩
             · have hcs := hw3.2
               simp only [List.mem_cons, forall_eq_or_imp, List.not_mem_nil, false_implies, implies_true, and_true] at hcs
               simp only [Oper.quietAt]
               go_simp
               first | done | exact ⟨rfl, rfl⟩ | rfl | (refine (Arith_inputs_any _ _ _ _ _ _ _ _ _ _ (by omega) (by omega)).mono ?_; rintro e w4 ⟨rfl, hb4⟩; exact ⟨rfl, hw3.next hb4 (by simp)⟩)
             go_big_quiet_on
             try simp only [Act.put, List.setIfInBounds_toArray, List.set_cons_zero, List.set_cons_succ]))
        refine wpQuiet_nil ?_
        intro wq hwq
        have hbq := hwq.1
        clear hwq k0 k1 k2 k3 k4 ce1 ce2
        have hBq := hBv.trans (hbq.mono hBv.size)
        have hxq := hx1.below hbq
        have hzq := hbq.size
        have hq := hxq; obtain ⟨k0, k1, k2, k3, k4⟩ := hq
        have hzv : v1.heap.size ≤ wq.heap.size := hzq
        go_wp2_with fail
        refine wp_region_mem0 (18) [(⟨w.heap.size, 0, none⟩, .int .i64 p), (⟨w.heap.size, 1, none⟩, .int .i64 x), (⟨w.heap.size, 2, none⟩, .int .i64 y), (⟨w.heap.size, 3, none⟩, .slice Ag ng cg), (⟨w.heap.size, 4, none⟩, .slice (some ⟨kb, ob, none⟩) no co)] [(8, [], []), (14, [], []), (15, [14], []), (17, [], [])] [8, 15, 17] [(8, Res.rowG v1.heap.size ng gs), (14, Res.row v1.heap.size 2 [x + y + ng, x + y + ng + 1]), (15, Res.row v1.heap.size (no + 2) (os ++ [x + y + ng, x + y + ng + 1])), (17, Res.box [.int .i64 0, .int .i64 0, .int .i64 0, .slice none 0 0, .slice none 0 0])] (by kernel_rfl) (by kernel_rfl) (by kernel_rfl) (by simp only [CellsL, List.mem_cons, forall_eq_or_imp, List.not_mem_nil, false_implies, implies_true, and_true]; repeat (any_goals (apply And.intro)); all_goals (first | assumption | go_simp)) ?_
        simp only [List.take_succ_cons, List.take_zero, List.drop_succ_cons, List.drop_zero, List.take_nil, List.drop_nil, List.take, List.drop]
        repeat (first
          | (refine mem_skip (by rfl) (by rfl) ?_
             simp only [Act.put, List.setIfInBounds_toArray, List.set_cons_zero, List.set_cons_succ])
          | (refine mem_pure (by rfl) (by rfl) (fun K hK => ?_)
             apply Exists.intro
             refine ⟨fun w3 hw3 => ?_, ?_⟩
             · have hcs := hw3
               simp only [CellsL, List.mem_cons, forall_eq_or_imp, List.not_mem_nil, false_implies, implies_true, and_true] at hcs
               clear hw3
               go_simp
               first | done | exact ⟨rfl, rfl⟩ | rfl
             refine hK _ ?_
             clear hK K
             try simp only [Act.put, List.setIfInBounds_toArray, List.set_cons_zero, List.set_cons_succ]))
        refine mem_rowG v1.heap.size ng gs (by rfl) (by rfl) (by omega) (fun w3 hw3 hc3 hp3 => ?_) (fun A2 c2 => ?_)
        · have hcs := hc3
          simp only [CellsL, List.mem_cons, forall_eq_or_imp, List.not_mem_nil, false_implies, implies_true, and_true] at hcs
          (go_simp; have hb3 := hBq.trans ((alt_below hw3).mono hBq.size); refine (CloneG_any Ag ng cg gs _ (hr.1.below hb3 (Nat.le_refl _)) hng).mono ?_; rintro e w4 ⟨A2, c2, rfl, ho4, hb4⟩; exact retPost.mk_ (postRowG.mk_ ho4 hb4))
        try simp only [Act.put, List.setIfInBounds_toArray, List.set_cons_zero, List.set_cons_succ]
        repeat (first
          | (refine mem_skip (by rfl) (by rfl) ?_
             simp only [Act.put, List.setIfInBounds_toArray, List.set_cons_zero, List.set_cons_succ])
          | (refine mem_pure (by rfl) (by rfl) (fun K hK => ?_)
             apply Exists.intro
             refine ⟨fun w3 hw3 => ?_, ?_⟩
             · have hcs := hw3
               simp only [CellsL, List.mem_cons, forall_eq_or_imp, List.not_mem_nil, false_implies, implies_true, and_true] at hcs
               clear hw3
               go_simp
               first | done | exact ⟨rfl, rfl⟩ | rfl
             refine hK _ ?_
             clear hK K
             try simp only [Act.put, List.setIfInBounds_toArray, List.set_cons_zero, List.set_cons_succ]))
        refine mem_row v1.heap.size 2 [x + y + ng, x + y + ng + 1] (by rfl) (by rfl) (by omega) (fun w3 hw3 hc3 hp3 => ?_) (fun A3 c3 => ?_)
        · have hcs := hc3
          simp only [CellsL, List.mem_cons, forall_eq_or_imp, List.not_mem_nil, false_implies, implies_true, and_true] at hcs
          (go_simp; exact postRow.new2 _ _ _)
        try simp only [Act.put, List.setIfInBounds_toArray, List.set_cons_zero, List.set_cons_succ]
        repeat (first
          | (refine mem_skip (by rfl) (by rfl) ?_
             simp only [Act.put, List.setIfInBounds_toArray, List.set_cons_zero, List.set_cons_succ])
          | (refine mem_pure (by rfl) (by rfl) (fun K hK => ?_)
             apply Exists.intro
             refine ⟨fun w3 hw3 => ?_, ?_⟩
             · have hcs := hw3
               simp only [CellsL, List.mem_cons, forall_eq_or_imp, List.not_mem_nil, false_implies, implies_true, and_true] at hcs
               clear hw3
               go_simp
               first | done | exact ⟨rfl, rfl⟩ | rfl
             refine hK _ ?_
             clear hK K
             try simp only [Act.put, List.setIfInBounds_toArray, List.set_cons_zero, List.set_cons_succ]))
        refine mem_row v1.heap.size (no + 2) (os ++ [x + y + ng, x + y + ng + 1]) (by rfl) (by rfl) (by omega) (fun w3 hw3 hc3 hp3 => ?_) (fun O2 d2 => ?_)
        · have hcs := hc3
          simp only [CellsL, List.mem_cons, forall_eq_or_imp, List.not_mem_nil, false_implies, implies_true, and_true] at hcs
          (have h14 : Own w3 v1.heap.size w3.heap.size (.slice A3 2 c3) 2 [x + y + ng, x + y + ng + 1] := hp3.1.1.1; go_simp; have hb3 := hBq.trans ((alt_below hw3).mono hBq.size); refine (with_any (some ⟨kb, ob, none⟩) A3 no co 2 c3 os [x + y + ng, x + y + ng + 1] _ (hr.2.below hb3 (Nat.le_refl _)) h14.reads (by omega) (by omega)).mono ?_; rintro e w5 ⟨O2, d2, rfl, ho5, hb5⟩; exact retPost.mk_ (postRow.mk_ ho5 hb5))
        try simp only [Act.put, List.setIfInBounds_toArray, List.set_cons_zero, List.set_cons_succ]
        repeat (first
          | (refine mem_skip (by rfl) (by rfl) ?_
             simp only [Act.put, List.setIfInBounds_toArray, List.set_cons_zero, List.set_cons_succ])
          | (refine mem_pure (by rfl) (by rfl) (fun K hK => ?_)
             apply Exists.intro
             refine ⟨fun w3 hw3 => ?_, ?_⟩
             · have hcs := hw3
               simp only [CellsL, List.mem_cons, forall_eq_or_imp, List.not_mem_nil, false_implies, implies_true, and_true] at hcs
               clear hw3
               go_simp
               first | done | exact ⟨rfl, rfl⟩ | rfl
             refine hK _ ?_
             clear hK K
             try simp only [Act.put, List.setIfInBounds_toArray, List.set_cons_zero, List.set_cons_succ]))
        refine mem_box [.int .i64 0, .int .i64 0, .int .i64 0, .slice none 0 0, .slice none 0 0] (by rfl) (by rfl) (fun w3 hw3 hc3 hp3 => ?_) (fun bO => ?_)
        · have hcs := hc3
          simp only [CellsL, List.mem_cons, forall_eq_or_imp, List.not_mem_nil, false_implies, implies_true, and_true] at hcs
          (go_simp; exact postBox.new w3 [.int .i64 0, .int .i64 0, .int .i64 0, .slice none 0 0, .slice none 0 0] _ ⟨box_cell _ _ 0 _ rfl, box_cell _ _ 1 _ rfl, box_cell _ _ 2 _ rfl, box_cell _ _ 3 _ rfl, box_cell _ _ 4 _ rfl, trivial⟩)
        try simp only [Act.put, List.setIfInBounds_toArray, List.set_cons_zero, List.set_cons_succ]
        repeat (first
          | (refine mem_skip (by rfl) (by rfl) ?_
             simp only [Act.put, List.setIfInBounds_toArray, List.set_cons_zero, List.set_cons_succ])
          | (refine mem_pure (by rfl) (by rfl) (fun K hK => ?_)
             apply Exists.intro
             refine ⟨fun w3 hw3 => ?_, ?_⟩
             · have hcs := hw3
               simp only [CellsL, List.mem_cons, forall_eq_or_imp, List.not_mem_nil, false_implies, implies_true, and_true] at hcs
               clear hw3
               go_simp
               first | done | exact ⟨rfl, rfl⟩ | rfl
             refine hK _ ?_
             clear hK K
             try simp only [Act.put, List.setIfInBounds_toArray, List.set_cons_zero, List.set_cons_succ]))
        refine wpSep_end ?_
        intro wt hwt hct hfin hap
        have hb5 := alt_below hwt
        have h8 : OwnG wt v1.heap.size wt.heap.size (.slice A2 ng c2) ng gs := hfin.1.1
        have h15 : Own wt v1.heap.size wt.heap.size (.slice O2 (no + 2) d2) (no + 2) (os ++ [x + y + ng, x + y + ng + 1]) := hfin.2.1.1
        have h17 : bO < wt.heap.size ∧ CellsAt wt bO 0 [.int .i64 0, .int .i64 0, .int .i64 0, .slice none 0 0, .slice none 0 0] ∧ Fz wt bO := hfin.2.2.1.1 bO rfl
        have hbO : wq.heap.size ≤ bO := ((hfin.2.2.1.2 bO rfl).1).elim id False.elim
        have hX4 : OwnX wt v1.heap.size bO A2 ng c2 O2 (no + 2) d2 gs (addOs x y gs os) := by
          rw [HO.out]
          exact ⟨⟨h8, h15, fun g h1 h2 => hap 8 (by simp) 15 (by simp) (by decide) g h1 h2⟩, fun hc => hap 8 (by simp) 17 (by simp) (by decide) bO hc rfl, fun hc => hap 15 (by simp) 17 (by simp) (by decide) bO hc rfl⟩
        obtain ⟨hbl, ⟨m0, m1, m2, m3, m4, _⟩, fz⟩ := h17
        have hoq := BxA.set5 (show BxA wt bO 0 0 0 none 0 0 none 0 0 from ⟨m0, m1, m2, m3, m4⟩) p x y A2 ng c2 O2 (no + 2) d2
        have hX5 := ((((hX4.store 0 (.int .i64 p)).store 1 (.int .i64 x)).store 2 (.int .i64 y)).store 3 (.slice A2 ng c2)).store 4 (.slice O2 (no + 2) d2)
        have foq := ((((fz.set ⟨bO, 0, none⟩ (.int .i64 p)).set ⟨bO, 1, none⟩ (.int .i64 x)).set ⟨bO, 2, none⟩ (.int .i64 y)).set ⟨bO, 3, none⟩ (.slice A2 ng c2)).set ⟨bO, 4, none⟩ (.slice O2 (no + 2) d2)
        have hzt := hb5.size
        have hCq := below_set5 (hbq.trans (hb5.mono hzv)) (b := bO) (by omega) p x y A2 ng c2 O2 (no + 2) d2
        have hsz := set5_size (w := wt) (b := bO) p x y A2 ng c2 O2 (no + 2) d2
        have f0' := fz 0; have f1' := fz 1; have f2' := fz 2; have f3' := fz 3; have f4' := fz 4
        have haA := (Below.refl (((((wt.setCell ⟨bO, 0, none⟩ (.int .i64 p)).setCell ⟨bO, 1, none⟩ (.int .i64 x)).setCell ⟨bO, 2, none⟩ (.int .i64 y)).setCell ⟨bO, 3, none⟩ (.slice A2 ng c2)).setCell ⟨bO, 4, none⟩ (.slice O2 (no + 2) d2)).heap.size (((((wt.setCell ⟨bO, 0, none⟩ (.int .i64 p)).setCell ⟨bO, 1, none⟩ (.int .i64 x)).setCell ⟨bO, 2, none⟩ (.int .i64 y)).setCell ⟨bO, 3, none⟩ (.slice A2 ng c2)).setCell ⟨bO, 4, none⟩ (.slice O2 (no + 2) d2))).alloc (Nat.le_refl _) (.cells #[.int .i64 0, .int .i64 va, .int .i64 vb, .int .i64 1, .int .i64 va, .int .i64 vb] 60)
        have hXA := hX5.below_ haA (Nat.le_refl _)
        have hoA := hoq.below haA
        have foA := foq.below haA (by rw [hsz]; exact hbl)
        have hbA : bO < ((((((wt.setCell ⟨bO, 0, none⟩ (.int .i64 p)).setCell ⟨bO, 1, none⟩ (.int .i64 x)).setCell ⟨bO, 2, none⟩ (.int .i64 y)).setCell ⟨bO, 3, none⟩ (.slice A2 ng c2)).setCell ⟨bO, 4, none⟩ (.slice O2 (no + 2) d2)).alloc (.cells #[.int .i64 0, .int .i64 va, .int .i64 vb, .int .i64 1, .int .i64 va, .int .i64 vb] 60)).heap.size := by rw [World.size_alloc, hsz]; omega
        have hCA := hCq.alloc hCq.size (.cells #[.int .i64 0, .int .i64 va, .int .i64 vb, .int .i64 1, .int .i64 va, .int .i64 vb] 60)
        clear hfin hap hct hwt h8 h15 hX4
        obtain ⟨q0, q1, q2, q3, q4⟩ := hoq
        clear hX5 foq haA hb5
        go_wp2_with (at_builtin; refine wpList_appG _ rfl _ _ rfl rfl hXA.1.1 rfl (RG_two _ _ _ _ _ _ _ _ _ (by first | rfl | simp)) (by omega) (by first | (simp; done) | (simp; omega)) ?_; intro A6 c6 w6 hown6 hg6 hat6 hk6; have hX6 := hXA.appG hbA hown6 hg6 hat6; have hu6 := hoA.grown hg6 hXA.2.1; have hb7 := hu6.setG A6 (ng + 2) c6; have f6' := foA.grown hg6 hbA hXA.2.1; have hX7 := hX6.store 3 (.slice A6 (ng + 2) c6); have hC7 := (below_appG hCA hXA.1.1 hg6 (by first | (simp; done) | (simp; omega)) (Nat.le_refl _)).setCell (p := ⟨bO, 3, none⟩) (by show v1.heap.size ≤ bO; omega) (.slice A6 (ng + 2) c6); have hz6 := hg6.size; simp only [World.size_alloc] at hz6; obtain ⟨j0, j1, j2, j3, j4⟩ := hu6; have hq7 := hb7; obtain ⟨n0, n1, n2, n3, n4⟩ := hq7; have m3 := f6' 3; clear hown6 hg6 hat6 hk6 hX6)
        rw [← HG.out] at hX7
        clear j0 j1 j2 j3 j4
        refine (IsArith_any p x y A6 (ng + 2) c6 O2 (no + 2) d2 (addGs gs os I K) (addOs x y gs os) _ hX7.1.reads.1 hX7.1.reads.2 (by omega) (by omega)).mono ?_
        rintro e v8 ⟨rfl, hb8⟩
        rw [ht.out]
        clear n0 n1 n2 n3 n4
        have hC8 := hC7.trans (hb8.mono hC7.size)
        have hX8 := hX7.below_ hb8 (Nat.le_refl _)
        have hb9 := hb7.below hb8
        have hr8 := hr1.below hC8
        have f8 := f1.below hC8 (by omega)
        have hB8 := hBv.trans (hC8.mono hBv.size)
        have hq := hr8; obtain ⟨r0, r1, r2, r3, r4⟩ := hq
        have g0 := f8 0; have g1 := f8 1; have g2 := f8 2; have g3 := f8 3; have g4 := f8 4
        obtain ⟨n0, n1, n2, n3, n4⟩ := hb9
        clear hX7 hb7 hC7 hb8
        cases t with
        | false =>
          have HR : Hid (addOutF p x y gs os I K = none) := Lib.hid (by rw [HF'.out, ht.out]; rfl)
          go_wp2
          have hq9 := BxA.set5 (hr8) 0 0 0 none 0 0 none 0 0
          obtain ⟨q0, q1, q2, q3, q4⟩ := hq9
          refine bodyPost_ret (v := .tuple #[.agg #[.int .i64 0, .int .i64 0, .int .i64 0, .slice none 0 0, .slice none 0 0], .bool false]) (by simp [results, Try.results12, go_sem, q0, q1, q2, q3, q4]) rfl ?_
          exact RetA.none_ (below_set5 hB8 (by omega) _ _ _ _ _ _ _ _ _) HR.out rfl
        | true =>
          have HR : Hid (addOutF p x y gs os I K = some ⟨p, x, y, addGs gs os I K, addOs x y gs os⟩) := Lib.hid (by rw [HF'.out, ht.out]; rfl)
          go_wp2
          have hq9 := BxA.set5 (hr8) p x y A6 (ng+2) c6 O2 (no+2) d2
          obtain ⟨q0, q1, q2, q3, q4⟩ := hq9
          refine bodyPost_ret (v := .tuple #[.agg #[.int .i64 p, .int .i64 x, .int .i64 y, .slice A6 (ng+2) c6, .slice O2 (no+2) d2], .bool true]) (by simp [results, Try.results12, go_sem, q0, q1, q2, q3, q4]) rfl ?_
          exact RetA.some_ (below_set5 hB8 (by omega) _ _ _ _ _ _ _ _ _) HR.out hlg' hlo' rfl (by rw [set5_size]; exact ((hX8.1.set5 (.inl (by omega)) _ _ _ _ _ _ _ _ _).lo_ (by omega)))

end Go.Proofs.Ytadgmbkpbgcdjaa
