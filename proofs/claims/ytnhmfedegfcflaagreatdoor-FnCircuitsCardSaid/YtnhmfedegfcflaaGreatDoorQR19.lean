/- Contracts of truth tables, columns, sums, comparisons of two circuits. -/
import Derived.Test.YtnhmfedegfcflaaGreatDoorQR18
namespace Go.Proofs.YtnhmfedegfcflaaGreatDoor
open Go.RowKit
set_option linter.unusedVariables false
set_option linter.unusedSimpArgs false
attribute [local go_sem] sepAt sepUpon pureAt pureUpon
def thenF (x y : Int) (gs : List G3) (os : List Int) (u v : Int) (hs : List G3) (ps : List Int) : Option Ci :=
 if circB x y gs os && (circB u v hs ps && (decide ((os.length : Int) = u + v) && circB x y (gs ++ mvs (wmap os (x + y + gs.length)) hs hs.length) (mvo (wmap os (x + y + gs.length)) ps ps.length))) then some ⟨x, y, gs ++ mvs (wmap os (x + y + gs.length)) hs hs.length, mvo (wmap os (x + y + gs.length)) ps ps.length⟩ else none
theorem thenF_len (x y : Int) (gs : List G3) (os : List Int) (u v : Int) (hs : List G3) (ps : List Int) : ((thenF x y gs os u v hs ps).getD ⟨0, 0, [], []⟩).gs.length ≤ 300 ∧ ((thenF x y gs os u v hs ps).getD ⟨0, 0, [], []⟩).os.length ≤ 40 := by
 unfold thenF
 split
 ·rename_i h
  simp only [Bool.and_eq_true] at h
  have := Zao h.2.2.2
  simp only [Option.getD_some]; omega
 ·simp
theorem thenF_1 {x y : Int} {gs : List G3} {os : List Int} {u v : Int} {hs : List G3} {ps : List Int} (h : circB x y gs os = false) : thenF x y gs os u v hs ps = none := by simp [thenF, h]
theorem thenF_2 {x y : Int} {gs : List G3} {os : List Int} {u v : Int} {hs : List G3} {ps : List Int} (h : circB u v hs ps = false) : thenF x y gs os u v hs ps = none := by simp [thenF, h]
theorem thenF_3 {x y : Int} {gs : List G3} {os : List Int} {u v : Int} {hs : List G3} {ps : List Int} {no : Nat} (hl : os.length = no) (h : ¬ (no : Int) = u + v) : thenF x y gs os u v hs ps = none := by subst hl; simp [thenF, h]
theorem thenF_t {x y : Int} {gs : List G3} {os : List Int} {u v : Int} {hs : List G3} {ps : List Int} {ng no mg mo : Nat} (hg : gs.length = ng) (ho : os.length = no) (hh : hs.length = mg) (hp : ps.length = mo) (h0 : circB x y gs os = true) (h1 : circB u v hs ps = true) (h : (no : Int) = u + v) :
 thenF x y gs os u v hs ps = if circB x y (gs ++ mvs (wmap os (x + y + ng)) hs mg) (mvo (wmap os (x + y + ng)) ps mo) = true then some ⟨x, y, (gs ++ mvs (wmap os (x + y + ng)) hs mg), (mvo (wmap os (x + y + ng)) ps mo)⟩ else none := by
 subst hg; subst ho; subst hh; subst hp; unfold thenF; simp [h0, h1, h]
set_option maxRecDepth 100000 in
theorem Then_1_any (Bc Bd : Nat) (x y : Int) (Ag : Option Addr) (ng cg : Nat) (Ao : Option Addr) (no co : Nat) (u v : Int) (Dg : Option Addr) (mg dg : Nat) (Do : Option Addr) (mo do_ : Nat) (os : List Int) (z : Int) (w : World) (hc : BxC w Bc x y Ag ng cg Ao no co) (hd : BxC w Bd u v Dg mg dg Do mo do_) (ho : RI w Ao no os) (hx : 0 ≤ x ∧ x ≤ 20) (hy : 0 ≤ y ∧ y ≤ 20) (hu : 0 ≤ u ∧ u ≤ 20) (hv : 0 ≤ v ∧ v ≤ 20) (hn : ng ≤ 300) (hno : no ≤ 40) (hE1 : (no : Int) ≤ u + v) (hE2 : u + v ≤ no) (hz : 0 ≤ z) (hz2 : z ≤ 100000) :
 Calls Tryz.prog 48 #[.int .i64 z, .pointer (some ⟨Bd, 0, none⟩), .pointer (some ⟨Bc, 0, none⟩)] w fun e w' => e = .returned (.int .i64 (wmap os (x + y + ng) z)) ∧ Below w.heap.size w w' := by
 have hlo := ho.len
 have hq := hc; obtain ⟨k0, k1, k2, k3⟩ := hq
 have hq := hd; obtain ⟨l0, l1, l2, l3⟩ := hq
 by_cases h1 : z < u + v
 ·obtain ⟨Z, rfl⟩ : ∃ Z : Nat, z = Z := ⟨z.toNat, by omega⟩
  have HR : Hid (wmap os (x + y + ng) Z = gi os Z) := zH (by unfold wmap; rw [if_pos (by omega)]; rfl)
  go_enter Tryz.func48, Tryz.ntmps48
  go_wp2_with fail
  refine (Zak u v Dg mg dg Do mo do_ _ hu hv).mono ?_
  rintro e w1 ⟨rfl, hb1⟩
  have hc1 := hc.below hb1
  obtain ⟨b, o, rfl, hbl, hce⟩ := (ho.below hb1 lR).at_ (k := Z) (by omega)
  clear k0 k1 k2 k3 l0 l1 l2 l3
  obtain ⟨k0, k1, k2, k3⟩ := hc1
  go_wp2
  go_ret
  exact ⟨by rw [HR.out]; rfl, hb1⟩
 ·have HR : Hid (wmap os (x + y + ng) z = x + y + ng + z - (u + v)) := zH (by unfold wmap; rw [if_neg (by omega)]; omega)
  have hw1 : IntKind.i64.wrap (x + y + (ng : Int) + z) = x + y + ng + z := IntWalk.i64_in _ (by omega)
  have hw2 : IntKind.i64.wrap (x + y + (ng : Int) + z - (u + v)) = x + y + ng + z - (u + v) := IntWalk.i64_in _ (by omega)
  go_enter Tryz.func48, Tryz.ntmps48
  go_wp2_with fail
  refine (Zak u v Dg mg dg Do mo do_ _ hu hv).mono ?_
  rintro e w1 ⟨rfl, hb1⟩
  have hc1 := hc.below hb1
  have hd1 := hd.below hb1
  clear k0 k1 k2 k3 l0 l1 l2 l3
  obtain ⟨k0, k1, k2, k3⟩ := hc1
  obtain ⟨l0, l1, l2, l3⟩ := hd1
  go_wp2_with fail
  refine Zai (w1.heap.size) (w1) [(⟨Bc, 0, none⟩, .int .i64 x), (⟨Bc, 1, none⟩, .int .i64 y), (⟨Bc, 2, none⟩, .slice Ag ng cg), (⟨Bc, 3, none⟩, .slice Ao no co), (⟨Bd, 0, none⟩, .int .i64 u), (⟨Bd, 1, none⟩, .int .i64 v), (⟨Bd, 2, none⟩, .slice Dg mg dg), (⟨Bd, 3, none⟩, .slice Do mo do_)] (by kernel_rfl) (by kernel_rfl) (by simp only [List.mem_cons, forall_eq_or_imp, List.not_mem_nil, false_implies, implies_true, and_true]; repeat (any_goals (apply And.intro)); all_goals (first | assumption | go_simp)) ?_
  repeat (first
   | go_big_quiet_skip
   | (go_big_quiet_want
      apply Exists.intro
      refine ⟨fun w3 hw3 => ?_, ?_⟩
      ·have hcs := hw3.2
       simp only [List.mem_cons, forall_eq_or_imp, List.not_mem_nil, false_implies, implies_true, and_true] at hcs
       simp only [Oper.quietAt]
       go_simp
       first | done | exact ⟨rfl, rfl⟩ | rfl | (go_at_call 33; refine (Zco _ _ _ _ _ _ _ _ _ hx hy (by omega)).mono ?_; rintro e w6 ⟨rfl, hb6⟩; exact ⟨rfl, hw3.next hb6 lR⟩) | (go_at_call 30; refine (Zak _ _ _ _ _ _ _ _ _ hu hv).mono ?_; rintro e w6 ⟨rfl, hb6⟩; exact ⟨rfl, hw3.next hb6 lR⟩)
      go_big_quiet_on
      try simp only [pA, pB, sA, sB, sC]))
  refine wpQuiet_nil ?_
  intro wq hwq
  go_wp2
  go_ret
  exact ⟨by rw [HR.out]; first | rfl | (congr 2), hb1.trans (hwq.1.mono hb1.size)⟩
set_option maxRecDepth 100000 in
set_option maxHeartbeats 3000000 in
theorem ThenCircuit_any (x y : Int) (Ag : Option Addr) (ng cg : Nat) (Ao : Option Addr) (no co : Nat) (u v : Int) (Dg : Option Addr) (mg dg : Nat) (Do : Option Addr) (mo do_ : Nat) (gs : List G3) (os : List Int) (hs : List G3) (ps : List Int) (w : World) (hr : RG w Ag ng gs ∧ RI w Ao no os) (hng : ng ≤ 2097152) (hno : no ≤ 2097152) (hr2 : RG w Dg mg hs ∧ RI w Do mo ps) (hmg : mg ≤ 2097152) (hmo : mo ≤ 2097152) :
 Calls Tryz.prog 14 #[.agg #[.int .i64 x, .int .i64 y, .slice Ag ng cg, .slice Ao no co], .agg #[.int .i64 u, .int .i64 v, .slice Dg mg dg, .slice Do mo do_]] w (RetC w (thenF x y gs os u v hs ps)) := by
 have hlg := hr.1.len
 have hlo := hr.2.len
 have hlh := hr2.1.len
 have hlp := hr2.2.len
 have hB : Below w.heap.size w (((w.alloc (.cells #[.int .i64 x, .int .i64 y, .slice Ag ng cg, .slice Ao no co] 27)).alloc (.cells #[.int .i64 u, .int .i64 v, .slice Dg mg dg, .slice Do mo do_] 27)).alloc (.cells #[.int .i64 0, .int .i64 0, .slice none 0 0, .slice none 0 0] 27)) := ((bA).alloc (by simp) _).alloc (by simp; omega) _
 have hc0 : BxC (((w.alloc (.cells #[.int .i64 x, .int .i64 y, .slice Ag ng cg, .slice Ao no co] 27)).alloc (.cells #[.int .i64 u, .int .i64 v, .slice Dg mg dg, .slice Do mo do_] 27)).alloc (.cells #[.int .i64 0, .int .i64 0, .slice none 0 0, .slice none 0 0] 27)) w.heap.size x y Ag ng cg Ao no co := ((BxC.new w _).below (bA)).below (bA)
 have hd0 : BxC (((w.alloc (.cells #[.int .i64 x, .int .i64 y, .slice Ag ng cg, .slice Ao no co] 27)).alloc (.cells #[.int .i64 u, .int .i64 v, .slice Dg mg dg, .slice Do mo do_] 27)).alloc (.cells #[.int .i64 0, .int .i64 0, .slice none 0 0, .slice none 0 0] 27)) (w.heap.size + 1) u v Dg mg dg Do mo do_ := by
  have h := (BxC.new (x := u) (y := v) (Ag := Dg) (ng := mg) (cg := dg) (Ao := Do) (no := mo) (co := do_) (w.alloc (.cells #[.int .i64 x, .int .i64 y, .slice Ag ng cg, .slice Ao no co] 27)) 27).below ((Below.refl _ _).alloc lR (.cells #[.int .i64 0, .int .i64 0, .slice none 0 0, .slice none 0 0] 27))
  simpa using h
 have hz0 : BxC (((w.alloc (.cells #[.int .i64 x, .int .i64 y, .slice Ag ng cg, .slice Ao no co] 27)).alloc (.cells #[.int .i64 u, .int .i64 v, .slice Dg mg dg, .slice Do mo do_] 27)).alloc (.cells #[.int .i64 0, .int .i64 0, .slice none 0 0, .slice none 0 0] 27)) (w.heap.size + 2) 0 0 none 0 0 none 0 0 := by
  have h := BxC.new (x := 0) (y := 0) (Ag := none) (ng := 0) (cg := 0) (Ao := none) (no := 0) (co := 0) ((w.alloc (.cells #[.int .i64 x, .int .i64 y, .slice Ag ng cg, .slice Ao no co] 27)).alloc (.cells #[.int .i64 u, .int .i64 v, .slice Dg mg dg, .slice Do mo do_] 27)) 27
  simpa using h
 have fz0 : Fz (((w.alloc (.cells #[.int .i64 x, .int .i64 y, .slice Ag ng cg, .slice Ao no co] 27)).alloc (.cells #[.int .i64 u, .int .i64 v, .slice Dg mg dg, .slice Do mo do_] 27)).alloc (.cells #[.int .i64 0, .int .i64 0, .slice none 0 0, .slice none 0 0] 27)) (w.heap.size + 2) := by
  have h := Fz.new ((w.alloc (.cells #[.int .i64 x, .int .i64 y, .slice Ag ng cg, .slice Ao no co] 27)).alloc (.cells #[.int .i64 u, .int .i64 v, .slice Dg mg dg, .slice Do mo do_] 27)) #[.int .i64 0, .int .i64 0, .slice none 0 0, .slice none 0 0] 27
  simpa using h
 have hs0 : (((w.alloc (.cells #[.int .i64 x, .int .i64 y, .slice Ag ng cg, .slice Ao no co] 27)).alloc (.cells #[.int .i64 u, .int .i64 v, .slice Dg mg dg, .slice Do mo do_] 27)).alloc (.cells #[.int .i64 0, .int .i64 0, .slice none 0 0, .slice none 0 0] 27)).heap.size = w.heap.size + 3 := by simp
 have ht0 : (((w.alloc (.cells #[.int .i64 x, .int .i64 y, .slice Ag ng cg, .slice Ao no co] 27)).alloc (.cells #[.int .i64 u, .int .i64 v, .slice Dg mg dg, .slice Do mo do_] 27)).alloc (.cells #[.int .i64 0, .int .i64 0, .slice none 0 0, .slice none 0 0] 27)).heap.size = (((w.alloc (.cells #[.int .i64 x, .int .i64 y, .slice Ag ng cg, .slice Ao no co] 27)).alloc (.cells #[.int .i64 u, .int .i64 v, .slice Dg mg dg, .slice Do mo do_] 27)).alloc (.cells #[.int .i64 0, .int .i64 0, .slice none 0 0, .slice none 0 0] 27)).heap.size := rfl
 obtain ⟨V0, hV0⟩ : ∃ V0, V0 = (((w.alloc (.cells #[.int .i64 x, .int .i64 y, .slice Ag ng cg, .slice Ao no co] 27)).alloc (.cells #[.int .i64 u, .int .i64 v, .slice Dg mg dg, .slice Do mo do_] 27)).alloc (.cells #[.int .i64 0, .int .i64 0, .slice none 0 0, .slice none 0 0] 27)) := ⟨_, rfl⟩
 have hB0 : Below w.heap.size w V0 := by rw [hV0]; exact hB
 have hcV : BxC V0 w.heap.size x y Ag ng cg Ao no co := by rw [hV0]; exact hc0
 have hdV : BxC V0 (w.heap.size + 1) u v Dg mg dg Do mo do_ := by rw [hV0]; exact hd0
 have hzV : BxC V0 (w.heap.size + 2) 0 0 none 0 0 none 0 0 := by rw [hV0]; exact hz0
 have fzV : Fz V0 (w.heap.size + 2) := by rw [hV0]; exact fz0
 have hsV : V0.heap.size = w.heap.size + 3 := by rw [hV0]; exact hs0
 clear hV0 ht0 hB0 hcV hdV hzV fzV hsV V0
 cases h0 : circB x y gs os with
 | false =>
  have HR := zH (thenF_1 (u := u) (v := v) (hs := hs) (ps := ps) h0)
  have H0 := zH h0; clear h0
  go_enter Tryz.func14, Tryz.ntmps14
  have hq := hc0; obtain ⟨k0, k1, k2, k3⟩ := hq
  have hq := hd0; obtain ⟨l0, l1, l2, l3⟩ := hq
  go_wp2_with fail
  refine Zai ((w.heap.size + 3)) ((((w.alloc (.cells #[.int .i64 x, .int .i64 y, .slice Ag ng cg, .slice Ao no co] 27)).alloc (.cells #[.int .i64 u, .int .i64 v, .slice Dg mg dg, .slice Do mo do_] 27)).alloc (.cells #[.int .i64 0, .int .i64 0, .slice none 0 0, .slice none 0 0] 27))) [(⟨w.heap.size, 0, none⟩, .int .i64 x), (⟨w.heap.size, 1, none⟩, .int .i64 y), (⟨w.heap.size, 2, none⟩, .slice Ag ng cg), (⟨w.heap.size, 3, none⟩, .slice Ao no co), (⟨w.heap.size + 1, 0, none⟩, .int .i64 u), (⟨w.heap.size + 1, 1, none⟩, .int .i64 v), (⟨w.heap.size + 1, 2, none⟩, .slice Dg mg dg), (⟨w.heap.size + 1, 3, none⟩, .slice Do mo do_)] (by kernel_rfl) (by kernel_rfl) (by simp only [List.mem_cons, forall_eq_or_imp, List.not_mem_nil, false_implies, implies_true, and_true]; repeat (any_goals (apply And.intro)); all_goals (first | assumption | go_simp)) ?_
  repeat (first
   | go_big_quiet_skip
   | (go_big_quiet_want
      apply Exists.intro
      refine ⟨fun w3 hw3 => ?_, ?_⟩
      ·have hcs := hw3.2
       simp only [List.mem_cons, forall_eq_or_imp, List.not_mem_nil, false_implies, implies_true, and_true] at hcs
       simp only [Oper.quietAt]
       go_simp
       first | done | exact ⟨rfl, rfl⟩ | rfl | (go_at_call_of 9 (Value.agg #[.int .i64 x, .int .i64 y, .slice Ag ng cg, .slice Ao no co]); refine (Zah x y Ag ng cg Ao no co gs os _ (hr.1.below (hB.trans (hw3.1.mono (by omega))) lR) (hr.2.below (hB.trans (hw3.1.mono (by omega))) lR) hng hno).mono ?_; rintro e w4 ⟨he, hb4⟩; rw [H0.out] at he; obtain rfl := he; exact ⟨rfl, hw3.next hb4 (by simp)⟩)
      go_big_quiet_on
      try simp only [pA, pB, sA, sB, sC]))
  refine wpQuiet_nil ?_
  intro wq hwq
  have hb1 : Below (((w.alloc (.cells #[.int .i64 x, .int .i64 y, .slice Ag ng cg, .slice Ao no co] 27)).alloc (.cells #[.int .i64 u, .int .i64 v, .slice Dg mg dg, .slice Do mo do_] 27)).alloc (.cells #[.int .i64 0, .int .i64 0, .slice none 0 0, .slice none 0 0] 27)).heap.size (((w.alloc (.cells #[.int .i64 x, .int .i64 y, .slice Ag ng cg, .slice Ao no co] 27)).alloc (.cells #[.int .i64 u, .int .i64 v, .slice Dg mg dg, .slice Do mo do_] 27)).alloc (.cells #[.int .i64 0, .int .i64 0, .slice none 0 0, .slice none 0 0] 27)) wq := by rw [hs0]; exact hwq.1
  have hBq := hB.trans (hb1.mono hB.size)
  have hcq := hc0.below hb1
  have hdq := hd0.below hb1
  have hzq := hz0.below hb1
  have fzq := fz0.below hb1 (by rw [hs0]; omega)
  have hsq := hb1.size
  rw [hs0] at hsq
  clear hwq hb1 k0 k1 k2 k3 l0 l1 l2 l3 hc0 hd0 hz0 fz0 hB hs0
  have hq := hzq; obtain ⟨r0, r1, r2, r3⟩ := hq
  have g0 := fzq 0; have g1 := fzq 1; have g2 := fzq 2; have g3 := fzq 3
  go_wp2
  have hq9 := BxC.set4 (hzq) 0 0 none 0 0 none 0 0
  obtain ⟨q0, q1, q2, q3⟩ := hq9
  refine bodyPost_ret (v := .tuple #[.agg #[.int .i64 0, .int .i64 0, .slice none 0 0, .slice none 0 0], .bool false]) (by simp [results, Tryz.results14, go_sem, q0, q1, q2, q3]) rfl ?_
  exact RetC.none_ (Zan hBq (by omega) _ _ _ _ _ _ _ _) HR.out rfl
 | true =>
  cases h1 : circB u v hs ps with
  | false =>
   have HR := zH (thenF_2 (x := x) (y := y) (gs := gs) (os := os) h1)
   have H0 := zH h0; have H1 := zH h1; clear h0 h1
   go_enter Tryz.func14, Tryz.ntmps14
   have hq := hc0; obtain ⟨k0, k1, k2, k3⟩ := hq
   have hq := hd0; obtain ⟨l0, l1, l2, l3⟩ := hq
   go_wp2_with fail
   refine Zai ((w.heap.size + 3)) ((((w.alloc (.cells #[.int .i64 x, .int .i64 y, .slice Ag ng cg, .slice Ao no co] 27)).alloc (.cells #[.int .i64 u, .int .i64 v, .slice Dg mg dg, .slice Do mo do_] 27)).alloc (.cells #[.int .i64 0, .int .i64 0, .slice none 0 0, .slice none 0 0] 27))) [(⟨w.heap.size, 0, none⟩, .int .i64 x), (⟨w.heap.size, 1, none⟩, .int .i64 y), (⟨w.heap.size, 2, none⟩, .slice Ag ng cg), (⟨w.heap.size, 3, none⟩, .slice Ao no co), (⟨w.heap.size + 1, 0, none⟩, .int .i64 u), (⟨w.heap.size + 1, 1, none⟩, .int .i64 v), (⟨w.heap.size + 1, 2, none⟩, .slice Dg mg dg), (⟨w.heap.size + 1, 3, none⟩, .slice Do mo do_)] (by kernel_rfl) (by kernel_rfl) (by simp only [List.mem_cons, forall_eq_or_imp, List.not_mem_nil, false_implies, implies_true, and_true]; repeat (any_goals (apply And.intro)); all_goals (first | assumption | go_simp)) ?_
   repeat (first
    | go_big_quiet_skip
    | (go_big_quiet_want
       apply Exists.intro
       refine ⟨fun w3 hw3 => ?_, ?_⟩
       ·have hcs := hw3.2
        simp only [List.mem_cons, forall_eq_or_imp, List.not_mem_nil, false_implies, implies_true, and_true] at hcs
        simp only [Oper.quietAt]
        go_simp
        first | done | exact ⟨rfl, rfl⟩ | rfl | (go_at_call_of 9 (Value.agg #[.int .i64 x, .int .i64 y, .slice Ag ng cg, .slice Ao no co]); refine (Zah x y Ag ng cg Ao no co gs os _ (hr.1.below (hB.trans (hw3.1.mono (by omega))) lR) (hr.2.below (hB.trans (hw3.1.mono (by omega))) lR) hng hno).mono ?_; rintro e w4 ⟨he, hb4⟩; rw [H0.out] at he; obtain rfl := he; exact ⟨rfl, hw3.next hb4 (by simp)⟩) | (go_at_call_of 9 (Value.agg #[.int .i64 u, .int .i64 v, .slice Dg mg dg, .slice Do mo do_]); refine (Zah u v Dg mg dg Do mo do_ hs ps _ (hr2.1.below (hB.trans (hw3.1.mono (by omega))) lR) (hr2.2.below (hB.trans (hw3.1.mono (by omega))) lR) hmg hmo).mono ?_; rintro e w4 ⟨he, hb4⟩; rw [H1.out] at he; obtain rfl := he; exact ⟨rfl, hw3.next hb4 (by simp)⟩)
       go_big_quiet_on
       try simp only [pA, pB, sA, sB, sC]))
   refine wpQuiet_nil ?_
   intro wq hwq
   have hb1 : Below (((w.alloc (.cells #[.int .i64 x, .int .i64 y, .slice Ag ng cg, .slice Ao no co] 27)).alloc (.cells #[.int .i64 u, .int .i64 v, .slice Dg mg dg, .slice Do mo do_] 27)).alloc (.cells #[.int .i64 0, .int .i64 0, .slice none 0 0, .slice none 0 0] 27)).heap.size (((w.alloc (.cells #[.int .i64 x, .int .i64 y, .slice Ag ng cg, .slice Ao no co] 27)).alloc (.cells #[.int .i64 u, .int .i64 v, .slice Dg mg dg, .slice Do mo do_] 27)).alloc (.cells #[.int .i64 0, .int .i64 0, .slice none 0 0, .slice none 0 0] 27)) wq := by rw [hs0]; exact hwq.1
   have hBq := hB.trans (hb1.mono hB.size)
   have hcq := hc0.below hb1
   have hdq := hd0.below hb1
   have hzq := hz0.below hb1
   have fzq := fz0.below hb1 (by rw [hs0]; omega)
   have hsq := hb1.size
   rw [hs0] at hsq
   clear hwq hb1 k0 k1 k2 k3 l0 l1 l2 l3 hc0 hd0 hz0 fz0 hB hs0
   have hq := hzq; obtain ⟨r0, r1, r2, r3⟩ := hq
   have g0 := fzq 0; have g1 := fzq 1; have g2 := fzq 2; have g3 := fzq 3
   go_wp2
   have hq9 := BxC.set4 (hzq) 0 0 none 0 0 none 0 0
   obtain ⟨q0, q1, q2, q3⟩ := hq9
   refine bodyPost_ret (v := .tuple #[.agg #[.int .i64 0, .int .i64 0, .slice none 0 0, .slice none 0 0], .bool false]) (by simp [results, Tryz.results14, go_sem, q0, q1, q2, q3]) rfl ?_
   exact RetC.none_ (Zan hBq (by omega) _ _ _ _ _ _ _ _) HR.out rfl
  | true =>
   have hbx := Zao h0
   have hbu := Zao h1
   have hgs := Zcs h0 hlg
   have hgh := Zcs h1 hlh
   have hps := circB_outs h1 hlh hlp
   have hgt : ∀ k : Nat, k < mg → GateIs (gg hs k) ((u + v) + k) := circB_gate_at h1 hlh
   have hx := hbx.1; have hy := hbx.2.1; have hu := hbu.1; have hv := hbu.2.1
   have hng3 : ng ≤ 300 := by have := hbx.2.2.1; omega
   have hmg3 : mg ≤ 300 := by have := hbu.2.2.1; omega
   have hno3 : no ≤ 40 := by have := hbx.2.2.2.1; omega
   have hmo3 : mo ≤ 40 := by have := hbu.2.2.2.1; omega
   have hao := hbu.2.2.2.2.2
   rw [hlh] at hao
   have H0 := zH h0; have H1 := zH h1; clear h0 h1 hbx hbu
   cases hE : ((no : Int) == u + v) with
   | false =>
    have hne : ¬ (no : Int) = u + v := by simpa using hE
    have hE2 : ((no : Int) != u + v) = true := by simpa using hE
    have hE3 : (!((no : Int) == u + v)) = true := by simpa using hE
    have HR := zH (thenF_3 (x := x) (y := y) (gs := gs) (hs := hs) (ps := ps) (u := u) (v := v) hlo hne); clear hne
    go_enter Tryz.func14, Tryz.ntmps14
    have hq := hc0; obtain ⟨k0, k1, k2, k3⟩ := hq
    have hq := hd0; obtain ⟨l0, l1, l2, l3⟩ := hq
    go_wp2_with fail
    refine Zai ((w.heap.size + 3)) ((((w.alloc (.cells #[.int .i64 x, .int .i64 y, .slice Ag ng cg, .slice Ao no co] 27)).alloc (.cells #[.int .i64 u, .int .i64 v, .slice Dg mg dg, .slice Do mo do_] 27)).alloc (.cells #[.int .i64 0, .int .i64 0, .slice none 0 0, .slice none 0 0] 27))) [(⟨w.heap.size, 0, none⟩, .int .i64 x), (⟨w.heap.size, 1, none⟩, .int .i64 y), (⟨w.heap.size, 2, none⟩, .slice Ag ng cg), (⟨w.heap.size, 3, none⟩, .slice Ao no co), (⟨w.heap.size + 1, 0, none⟩, .int .i64 u), (⟨w.heap.size + 1, 1, none⟩, .int .i64 v), (⟨w.heap.size + 1, 2, none⟩, .slice Dg mg dg), (⟨w.heap.size + 1, 3, none⟩, .slice Do mo do_)] (by kernel_rfl) (by kernel_rfl) (by simp only [List.mem_cons, forall_eq_or_imp, List.not_mem_nil, false_implies, implies_true, and_true]; repeat (any_goals (apply And.intro)); all_goals (first | assumption | go_simp)) ?_
    repeat (first
     | go_big_quiet_skip
     | (go_big_quiet_want
        apply Exists.intro
        refine ⟨fun w3 hw3 => ?_, ?_⟩
        ·have hcs := hw3.2
         simp only [List.mem_cons, forall_eq_or_imp, List.not_mem_nil, false_implies, implies_true, and_true] at hcs
         simp only [Oper.quietAt]
         go_simp
         first | done | exact ⟨rfl, rfl⟩ | rfl | (go_at_call_of 9 (Value.agg #[.int .i64 x, .int .i64 y, .slice Ag ng cg, .slice Ao no co]); refine (Zah x y Ag ng cg Ao no co gs os _ (hr.1.below (hB.trans (hw3.1.mono (by omega))) lR) (hr.2.below (hB.trans (hw3.1.mono (by omega))) lR) hng hno).mono ?_; rintro e w4 ⟨he, hb4⟩; rw [H0.out] at he; obtain rfl := he; exact ⟨rfl, hw3.next hb4 (by simp)⟩) | (go_at_call_of 9 (Value.agg #[.int .i64 u, .int .i64 v, .slice Dg mg dg, .slice Do mo do_]); refine (Zah u v Dg mg dg Do mo do_ hs ps _ (hr2.1.below (hB.trans (hw3.1.mono (by omega))) lR) (hr2.2.below (hB.trans (hw3.1.mono (by omega))) lR) hmg hmo).mono ?_; rintro e w4 ⟨he, hb4⟩; rw [H1.out] at he; obtain rfl := he; exact ⟨rfl, hw3.next hb4 (by simp)⟩) | (go_at_call 30; refine (Zak u v Dg mg dg Do mo do_ _ hu hv).mono ?_; rintro e w4 ⟨rfl, hb4⟩; exact ⟨rfl, hw3.next hb4 (by simp)⟩)
        go_big_quiet_on
        try simp only [pA, pB, sA, sB, sC]))
    refine wpQuiet_nil ?_
    intro wq hwq
    have hb1 : Below (((w.alloc (.cells #[.int .i64 x, .int .i64 y, .slice Ag ng cg, .slice Ao no co] 27)).alloc (.cells #[.int .i64 u, .int .i64 v, .slice Dg mg dg, .slice Do mo do_] 27)).alloc (.cells #[.int .i64 0, .int .i64 0, .slice none 0 0, .slice none 0 0] 27)).heap.size (((w.alloc (.cells #[.int .i64 x, .int .i64 y, .slice Ag ng cg, .slice Ao no co] 27)).alloc (.cells #[.int .i64 u, .int .i64 v, .slice Dg mg dg, .slice Do mo do_] 27)).alloc (.cells #[.int .i64 0, .int .i64 0, .slice none 0 0, .slice none 0 0] 27)) wq := by rw [hs0]; exact hwq.1
    have hBq := hB.trans (hb1.mono hB.size)
    have hcq := hc0.below hb1
    have hdq := hd0.below hb1
    have hzq := hz0.below hb1
    have fzq := fz0.below hb1 (by rw [hs0]; omega)
    have hsq := hb1.size
    rw [hs0] at hsq
    clear hwq hb1 k0 k1 k2 k3 l0 l1 l2 l3 hc0 hd0 hz0 fz0 hB hs0
    have hq := hzq; obtain ⟨r0, r1, r2, r3⟩ := hq
    have g0 := fzq 0; have g1 := fzq 1; have g2 := fzq 2; have g3 := fzq 3
    go_wp2
    have hq9 := BxC.set4 (hzq) 0 0 none 0 0 none 0 0
    obtain ⟨q0, q1, q2, q3⟩ := hq9
    refine bodyPost_ret (v := .tuple #[.agg #[.int .i64 0, .int .i64 0, .slice none 0 0, .slice none 0 0], .bool false]) (by simp [results, Tryz.results14, go_sem, q0, q1, q2, q3]) rfl ?_
    exact RetC.none_ (Zan hBq (by omega) _ _ _ _ _ _ _ _) HR.out rfl
   | true =>
    have hE2 : ((no : Int) != u + v) = false := by simpa using hE
    have hE3 : (!((no : Int) == u + v)) = false := by simpa using hE
    have HE : Hid ((no : Int) = u + v) := zH (by simpa using hE)
    have hEa : (no : Int) ≤ u + v := by rw [HE.out]; omega
    have hEb : u + v ≤ (no : Int) := by rw [HE.out]; omega
    have HT := zH (thenF_t (x := x) (y := y) (gs := gs) (os := os) (hs := hs) (ps := ps) (u := u) (v := v) hlg hlo hlh hlp H0.out H1.out HE.out)
    go_enter Tryz.func14, Tryz.ntmps14
    have hq := hc0; obtain ⟨k0, k1, k2, k3⟩ := hq
    have hq := hd0; obtain ⟨l0, l1, l2, l3⟩ := hq
    go_wp2_with fail
    refine Zai ((w.heap.size + 3)) ((((w.alloc (.cells #[.int .i64 x, .int .i64 y, .slice Ag ng cg, .slice Ao no co] 27)).alloc (.cells #[.int .i64 u, .int .i64 v, .slice Dg mg dg, .slice Do mo do_] 27)).alloc (.cells #[.int .i64 0, .int .i64 0, .slice none 0 0, .slice none 0 0] 27))) [(⟨w.heap.size, 0, none⟩, .int .i64 x), (⟨w.heap.size, 1, none⟩, .int .i64 y), (⟨w.heap.size, 2, none⟩, .slice Ag ng cg), (⟨w.heap.size, 3, none⟩, .slice Ao no co), (⟨w.heap.size + 1, 0, none⟩, .int .i64 u), (⟨w.heap.size + 1, 1, none⟩, .int .i64 v), (⟨w.heap.size + 1, 2, none⟩, .slice Dg mg dg), (⟨w.heap.size + 1, 3, none⟩, .slice Do mo do_)] (by kernel_rfl) (by kernel_rfl) (by simp only [List.mem_cons, forall_eq_or_imp, List.not_mem_nil, false_implies, implies_true, and_true]; repeat (any_goals (apply And.intro)); all_goals (first | assumption | go_simp)) ?_
    repeat (first
     | go_big_quiet_skip
     | (go_big_quiet_want
        apply Exists.intro
        refine ⟨fun w3 hw3 => ?_, ?_⟩
        ·have hcs := hw3.2
         simp only [List.mem_cons, forall_eq_or_imp, List.not_mem_nil, false_implies, implies_true, and_true] at hcs
         simp only [Oper.quietAt]
         go_simp
         first | done | exact ⟨rfl, rfl⟩ | rfl | (go_at_call_of 9 (Value.agg #[.int .i64 x, .int .i64 y, .slice Ag ng cg, .slice Ao no co]); refine (Zah x y Ag ng cg Ao no co gs os _ (hr.1.below (hB.trans (hw3.1.mono (by omega))) lR) (hr.2.below (hB.trans (hw3.1.mono (by omega))) lR) hng hno).mono ?_; rintro e w4 ⟨he, hb4⟩; rw [H0.out] at he; obtain rfl := he; exact ⟨rfl, hw3.next hb4 (by simp)⟩) | (go_at_call_of 9 (Value.agg #[.int .i64 u, .int .i64 v, .slice Dg mg dg, .slice Do mo do_]); refine (Zah u v Dg mg dg Do mo do_ hs ps _ (hr2.1.below (hB.trans (hw3.1.mono (by omega))) lR) (hr2.2.below (hB.trans (hw3.1.mono (by omega))) lR) hmg hmo).mono ?_; rintro e w4 ⟨he, hb4⟩; rw [H1.out] at he; obtain rfl := he; exact ⟨rfl, hw3.next hb4 (by simp)⟩) | (go_at_call 30; refine (Zak u v Dg mg dg Do mo do_ _ hu hv).mono ?_; rintro e w4 ⟨rfl, hb4⟩; exact ⟨rfl, hw3.next hb4 (by simp)⟩)
        go_big_quiet_on
        try simp only [pA, pB, sA, sB, sC]))
    refine wpQuiet_nil ?_
    intro wq hwq
    have hb1 : Below (((w.alloc (.cells #[.int .i64 x, .int .i64 y, .slice Ag ng cg, .slice Ao no co] 27)).alloc (.cells #[.int .i64 u, .int .i64 v, .slice Dg mg dg, .slice Do mo do_] 27)).alloc (.cells #[.int .i64 0, .int .i64 0, .slice none 0 0, .slice none 0 0] 27)).heap.size (((w.alloc (.cells #[.int .i64 x, .int .i64 y, .slice Ag ng cg, .slice Ao no co] 27)).alloc (.cells #[.int .i64 u, .int .i64 v, .slice Dg mg dg, .slice Do mo do_] 27)).alloc (.cells #[.int .i64 0, .int .i64 0, .slice none 0 0, .slice none 0 0] 27)) wq := by rw [hs0]; exact hwq.1
    have hBq := hB.trans (hb1.mono hB.size)
    have hcq := hc0.below hb1
    have hdq := hd0.below hb1
    have hzq := hz0.below hb1
    have fzq := fz0.below hb1 (by rw [hs0]; omega)
    have hsq := hb1.size
    rw [hs0] at hsq
    clear hwq hb1 k0 k1 k2 k3 l0 l1 l2 l3 hc0 hd0 hz0 fz0 hB hs0
    clear hE hE2 hE3
    have hq := hcq; obtain ⟨k0, k1, k2, k3⟩ := hq
    go_wp2_with fail
    refine Zav (10) [(⟨w.heap.size, 0, none⟩, .int .i64 x), (⟨w.heap.size, 1, none⟩, .int .i64 y), (⟨w.heap.size, 2, none⟩, .slice Ag ng cg)] [(6, [], []), (8, [], []), (9, [6, 8], [6, 8])] [9] [(6, Res.rowG wq.heap.size ng gs), (8, Res.box [.int .i64 0, .int .i64 0, .slice none 0 0, .slice none 0 0]), (9, Res.stG wq.heap.size x y ng gs)] (by kernel_rfl) (by kernel_rfl) (by kernel_rfl) (by simp only [cD, cC, and_true]; repeat (any_goals (apply And.intro)); all_goals (first | assumption | go_simp)) ?_
    simp only [List.take_succ_cons, List.take_zero, List.drop_succ_cons, List.drop_zero, List.take_nil, List.drop_nil, List.take, List.drop]
    repeat (first
     | ((first
      | ((with_reducible refine Zad ?_ ?_ ?_)
         ·exact rfl
         ·exact rfl)
      | ((with_reducible refine Zag ?_ ?_ ?_)
         ·exact rfl
         ·exact Zaa rfl rfl rfl rfl))
        intro K hK
        apply Exists.intro
        refine ⟨fun w3 hw3 => ?_, ?_⟩
        ·have hcs := hw3
         simp only [cD, cC, and_true] at hcs
         clear hw3
         go_simp
         first | done | exact ⟨rfl, rfl⟩ | rfl
        refine hK _ ?_
        clear hK K
        try simp only [pA, pB, sA, sB, sC])
     | ((with_reducible refine Zaf ?_ ?_ ?_)
        ·exact rfl
        ·exact Zab rfl rfl rfl rfl
        simp only [pA, pB, sA, sB, sC]))
    focus
     (with_reducible refine mem_rowG wq.heap.size ng gs ?_ ?_ ?_ ?_ ?_ (hw := ?_))
     ·exact rfl
     ·exact rfl
     ·omega
     ·intro w3 hw3 hc3 hp3
      have hcs := hc3
      simp only [cD, cC, and_true] at hcs
      (go_simp; have hb3 := hBq.trans ((Zam hw3).mono hBq.size); refine (CloneG_any Ag ng cg gs _ (hr.1.below hb3 lR) hng).mono ?_; rintro e w4 ⟨A4, c4, rfl, ho4, hb4⟩; exact retPost.mk_ (postRowG.mk_ ho4 hb4))
     rotate_left
     ·first | exact Zac rfl | exact Zaa rfl rfl rfl rfl
     intro A2 c2
     try simp only [pA, pB, sA, sB, sC]
    repeat (first
     | ((first
      | ((with_reducible refine Zad ?_ ?_ ?_)
         ·exact rfl
         ·exact rfl)
      | ((with_reducible refine Zag ?_ ?_ ?_)
         ·exact rfl
         ·exact Zaa rfl rfl rfl rfl))
        intro K hK
        apply Exists.intro
        refine ⟨fun w3 hw3 => ?_, ?_⟩
        ·have hcs := hw3
         simp only [cD, cC, and_true] at hcs
         clear hw3
         go_simp
         first | done | exact ⟨rfl, rfl⟩ | rfl
        refine hK _ ?_
        clear hK K
        try simp only [pA, pB, sA, sB, sC])
     | ((with_reducible refine Zaf ?_ ?_ ?_)
        ·exact rfl
        ·exact Zab rfl rfl rfl rfl
        simp only [pA, pB, sA, sB, sC]))
    focus
     (with_reducible refine mem_box [.int .i64 0, .int .i64 0, .slice none 0 0, .slice none 0 0] ?_ ?_ ?_ ?_ (hw := ?_))
     ·exact rfl
     ·exact rfl
     ·intro w3 hw3 hc3 hp3
      have hcs := hc3
      simp only [cD, cC, and_true] at hcs
      (go_simp; exact postBox.circ _ _)
     rotate_left
     ·first | exact Zac rfl | exact Zaa rfl rfl rfl rfl
     intro bO
     try simp only [pA, pB, sA, sB, sC]
    refine mem_stG 6 8 wq.heap.size x y ng gs A2 c2 bO (by rfl) (by rfl) (by rfl) (by rfl) (by rfl) (by rfl) (by decide) (by rfl) (by rfl) (fun w3 hw3 hc3 hz3 hf3 => ?_) ?_
    ·obtain ⟨m0, m1, m2, m3⟩ := hz3
     have gz0 := hf3 0; have gz1 := hf3 1; have gz2 := hf3 2; have gz3 := hf3 3
     go_simp; exact postSet.mk_ _ _
    try simp only [pA, pB, sA, sB, sC]
    refine Zat ?_
    intro wt hwt hct hfin hap
    have hst : BxC wt bO x y A2 ng c2 none 0 0 ∧ Fz wt bO ∧ bO < wt.heap.size ∧ OwnG wt wq.heap.size wt.heap.size (.slice A2 ng c2) ng gs ∧ (Value.slice A2 ng c2).ownBlock ≠ some bO := hfin.1.1 A2 c2 bO rfl
    have hbO : wq.heap.size ≤ bO := ((hfin.1.2 bO ⟨A2, c2, bO, rfl, .inl rfl⟩).1).elim id False.elim
    obtain ⟨hob, hof, hol, hG, hGn⟩ := hst
    have hbt := Zam hwt
    have hzt := hbt.size
    have hBt := hBq.trans (hbt.mono hBq.size)
    have hct' := hcq.below hbt
    have hdt := hdq.below hbt
    have hzzt := hzq.below hbt
    have fzt := fzq.below hbt hzq.lt
    clear hfin hap hct hwt hcq hdq hzq fzq hBq k0 k1 k2 k3 hbt
    have hq := hct'; obtain ⟨k0, k1, k2, k3⟩ := hq
    have hq := hdt; obtain ⟨l0, l1, l2, l3⟩ := hq
    have hq := hob; obtain ⟨o0, o1, o2, o3⟩ := hq
    go_wp2_with fail
    refine (appended_any 48 Tryz.call48 #[.pointer (some ⟨w.heap.size + 1, 0, none⟩), .pointer (some ⟨w.heap.size, 0, none⟩)] (wmap os (x + y + ng)) x y A2 ng c2 none 0 0 u v Dg mg dg Do mo do_ gs hs ps (u + v + mg) wq.heap.size wt.heap.size _ hG ⟨hr2.1.below hBt lR, hr2.2.below hBt lR⟩ ⟨fun hn => hr2.1.lt (by omega) hn, fun hn => hr2.2.lt (by omega) hn⟩ hzt hgh hps (by omega) (by omega) (by omega) (zH fun z h0 h1 w1 hb => Then_1_any w.heap.size (w.heap.size + 1) x y Ag ng cg Ao no co u v Dg mg dg Do mo do_ os z w1 (hct'.bel hb (by omega)) (hdt.bel hb (by omega)) (hr.2.below (hBt.trans (hb.mono (by omega))) lR) hx hy hu hv (by omega) hno3 hEa hEb h0 (by omega))).mono ?_
    rintro e w4 hA
    obtain ⟨A5, c5, O5, d5, rfl, hG5, hO5, hap5, hat5, hg5⟩ := hA
    have k5 := Alt.of_grown (S := fun i => (Value.slice A2 ng c2).ownBlock = some i) hg5 (fun _ h => h)
    have hA2 : ∀ i, i < wq.heap.size → ¬ (Value.slice A2 ng c2).ownBlock = some i := fun i hi hc => by have := hG.lt i hc; omega
    have hz5 := k5.size
    have hB5 := hBt.trans (k5.below_ (B := w.heap.size) (by omega) (fun i hi => hA2 i (by omega)))
    have hrz5 := hzzt.alt k5 (hA2 _ (by omega))
    have fz5 := fzt.alt k5 hzzt.lt (hA2 _ (by omega))
    have ho5 := hob.alt k5 hGn
    have fo5 := hof.alt k5 hol hGn
    have hn5 : (Value.slice A5 (ng + mg) c5).ownBlock ≠ some bO := fun hc => by
     rcases hat5 with h | h
     ·exact hGn (h.symm.trans hc)
     ·have := h bO hc; omega
    clear k0 k1 k2 k3 l0 l1 l2 l3 o0 o1 o2 o3 hg5 k5 hob hof hzzt fzt hct' hdt
    have hq := ho5; obtain ⟨k0, k1, k2, k3⟩ := hq
    have g0 := fo5 0; have g1 := fo5 1; have g2 := fo5 2; have g3 := fo5 3
    have k7 := Zbh (Alt.refl_ (fun i => i = bO) w4) (fun _ => rfl) x y A5 (ng + mg) c5 none 0 0
    have ho6 := BxC.set4 ho5 x y A5 (ng + mg) c5 none 0 0
    have ho7 := ho6.setO O5 mo d5
    have k8 := k7.set_ ⟨bO, 3, none⟩ (.slice O5 mo d5) (fun _ => rfl)
    have hB6 := (Zan hB5 (b := bO) (by omega) x y A5 (ng + mg) c5 none 0 0).setCell (p := ⟨bO, 3, none⟩) (by show w.heap.size ≤ bO; omega) (.slice O5 mo d5)
    have fo6 := (((fo5.set ⟨bO, 0, none⟩ (.int .i64 x)).set ⟨bO, 1, none⟩ (.int .i64 y)).set ⟨bO, 2, none⟩ (.slice A5 (ng + mg) c5)).set ⟨bO, 3, none⟩ (.slice none 0 0)
    have f3 := fo6 3
    have hG6 := hG5.alt k8 (fun g hg hc => hn5 (hc ▸ hg))
    have hO6 := hO5.alt k8 (fun g hg hc => by have := hO5.lt g hg; omega)
    have hrz6 := hrz5.alt k8 (by omega)
    have fz6 := fz5.alt k8 hrz5.lt (by omega)
    have hbo4 : bO < w4.heap.size := by omega
    have hs6 : (((((w4.setCell ⟨bO, 0, none⟩ (.int .i64 x)).setCell ⟨bO, 1, none⟩ (.int .i64 y)).setCell ⟨bO, 2, none⟩ (.slice A5 (ng + mg) c5)).setCell ⟨bO, 3, none⟩ (.slice none 0 0)).setCell ⟨bO, 3, none⟩ (.slice O5 mo d5)).heap.size = w4.heap.size := by simp
    have hq := ho6; obtain ⟨p0, p1, p2, p3⟩ := hq
    have hq := ho7; obtain ⟨q0, q1, q2, q3⟩ := hq
    cases h2 : circB x y (gs ++ mvs (wmap os (x + y + ng)) hs mg) (mvo (wmap os (x + y + ng)) ps mo) with
    | false =>
     have HR : Hid (thenF x y gs os u v hs ps = none) := zH (by rw [HT.out, h2]; rfl)
     have H2 := zH h2; clear h2
     go_wp2_with fail
     refine (valid_f x y A5 (ng + mg) c5 O5 mo d5 (gs ++ mvs (wmap os (x + y + ng)) hs mg) (mvo (wmap os (x + y + ng)) ps mo) _ hG6.reads hO6.reads (by omega) (by omega) H2.out).mono ?_
     rintro e v10 ⟨rfl, hb10⟩
     have hrz10 := hrz6.below hb10
     have fz10 := fz6.below hb10 hrz6.lt
     have hB10 := hB6.trans (hb10.mono hB6.size)
     have hq := hrz10; obtain ⟨r0, r1, r2, r3⟩ := hq
     have j0 := fz10 0; have j1 := fz10 1; have j2 := fz10 2; have j3 := fz10 3
     go_wp2
     have hq9 := BxC.set4 (hrz10) 0 0 none 0 0 none 0 0
     obtain ⟨q0, q1, q2, q3⟩ := hq9
     refine bodyPost_ret (v := .tuple #[.agg #[.int .i64 0, .int .i64 0, .slice none 0 0, .slice none 0 0], .bool false]) (by simp [results, Tryz.results14, go_sem, q0, q1, q2, q3]) rfl ?_
     exact RetC.none_ (Zan hB10 (by omega) _ _ _ _ _ _ _ _) HR.out rfl
    | true =>
     have HR : Hid (thenF x y gs os u v hs ps = some ⟨x, y, (gs ++ mvs (wmap os (x + y + ng)) hs mg), (mvo (wmap os (x + y + ng)) ps mo)⟩) := zH (by rw [HT.out, h2]; rfl)
     have H2 := zH h2; clear h2
     go_wp2_with fail
     refine (valid_t x y A5 (ng + mg) c5 O5 mo d5 (gs ++ mvs (wmap os (x + y + ng)) hs mg) (mvo (wmap os (x + y + ng)) ps mo) _ hG6.reads hO6.reads (by omega) (by omega) H2.out).mono ?_
     rintro e v10 ⟨rfl, hb10⟩
     have hrz10 := hrz6.below hb10
     have fz10 := fz6.below hb10 hrz6.lt
     have hB10 := hB6.trans (hb10.mono hB6.size)
     have hG10 := (hG6.below hb10 (.inl lR)).now
     have hO10 := (hO6.below hb10 (.inl lR)).now
     have hC10 : OwnC v10 wq.heap.size v10.heap.size A5 (ng + mg) c5 O5 mo d5 (gs ++ mvs (wmap os (x + y + ng)) hs mg) (mvo (wmap os (x + y + ng)) ps mo) := ⟨hG10, hO10.lo_ (by omega), hap5⟩
     have hgl := hG10.len
     have hol' := hO10.len
     have hq := hrz10; obtain ⟨r0, r1, r2, r3⟩ := hq
     have j0 := fz10 0; have j1 := fz10 1; have j2 := fz10 2; have j3 := fz10 3
     clear hG6 hO6 hrz6 fz6 hB6 hG10 hO10 k0 k1 k2 k3 g0 g1 g2 g3 p0 p1 p2 p3 q0 q1 q2 q3 f3
     go_wp2
     have hq9 := BxC.set4 (hrz10) x y A5 (ng + mg) c5 O5 mo d5
     obtain ⟨q0, q1, q2, q3⟩ := hq9
     refine bodyPost_ret (v := .tuple #[.agg #[.int .i64 x, .int .i64 y, .slice A5 (ng + mg) c5, .slice O5 mo d5], .bool true]) (by simp [results, Tryz.results14, go_sem, q0, q1, q2, q3]) rfl ?_
     exact RetC.some_ (Zan hB10 (by omega) _ _ _ _ _ _ _ _) HR.out hgl hol' rfl (by rw [Zbr]; exact ((hC10.set4 (.inl (by omega)) _ _ _ _ _ _ _ _).lo_ (by omega)))
end Go.Proofs.YtnhmfedegfcflaaGreatDoor
namespace Go.Proofs.YtnhmfedegfcflaaGreatDoor
open Go.RowKit
set_option linter.unusedVariables false
set_option linter.unusedSimpArgs false
theorem ggA_l {xs ys : List G3} {j : Nat} (h : j < xs.length) : gg (xs ++ ys) j = gg xs j := by
 unfold gg; rw [List.getD_eq_getElem?_getD, List.getD_eq_getElem?_getD, List.getElem?_append_left h]
theorem gi_lastG {xs : List Int} {v : Int} {n : Nat} (h : xs.length = n) : gi (xs ++ [v]) n = v := by subst h; exact gi_append_at
theorem vals_gsG {gs hs : List G3} {inp : List Int} : ∀ k, (∀ j, j < k → gg gs j = gg hs j) → vals gs inp k = vals hs inp k := by
 intro k
 induction k with
 | zero => intro _; rfl
 | succ k ih => intro h; rw [Zcc, Zcc, ih (fun j hj => h j (by omega)), h k (by omega)]
def Bt (v : Int) : Prop := 0 ≤ v ∧ v ≤ 1
def nb (f : Nat → Int) : Nat → Int
 | 0 => 0
 | i + 1 => nb f i + f i * 2 ^ i
theorem bx {a b : Int} (ha : Bt a) (hb : Bt b) : bxor a b = (a + b) % 2 := bxor_bit ha hb
section
variable {X : Nat} {inp : List Int} (hX : inp.length = X)
include hX
end
theorem smallB_bd {x y : Int} {gs : List G3} {os : List Int} {lim : Nat} (h : smallB x y gs os lim = true) : circB x y gs os = true ∧ x + y ≤ 10 ∧ os.length ≤ lim := by
 simp only [smallB, Bool.and_eq_true, decide_eq_true_eq] at h; exact h
end Go.Proofs.YtnhmfedegfcflaaGreatDoor
