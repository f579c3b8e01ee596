/- Rows of the call's own and worlds: gates' rows beside numbers' rows; circuits as results. No condition. -/
import Derived.Test.YtnhmfedegfcflaaGreatDoorQR01
namespace Go.Proofs.YtnhmfedegfcflaaGreatDoor
open Go.RowKit
set_option linter.unusedVariables false
set_option linter.unusedSimpArgs false
def gateB (g : G3) (n : Int) : Bool :=
 if g.k = 0 ∨ g.k = 1 then inB 0 (n - 1) g.a && inB 0 (n - 1) g.b
 else if g.k = 2 then inB 0 (n - 1) g.a && decide (g.b = 0)
 else decide (g.k = 3) && (decide (g.a = 0) && decide (g.b = 0))
def gatesB (n : Int) (gs : List G3) (k : Nat) : Bool := (List.range k).all fun i => gateB (gg gs i) (n + i)
theorem gatesB_succ (n : Int) (gs : List G3) (k : Nat) : gatesB n gs (k + 1) = (gatesB n gs k && gateB (gg gs k) (n + k)) := by
 simp [gatesB, List.range_succ]
theorem gatesB_false {n : Int} {gs : List G3} {k m : Nat} (h : k < m) (hk : gateB (gg gs k) (n + k) = false) : gatesB n gs m = false := by
 rw [Bool.eq_false_iff]; intro hc
 have := List.all_eq_true.1 hc k (List.mem_range.2 h)
 rw [hk] at this; cases this
def circB (x y : Int) (gs : List G3) (os : List Int) : Bool :=
 inB 0 20 x && (inB 0 20 y && (decide (gs.length ≤ 300) && (decide (os.length ≤ 40) && (gatesB (x + y) gs gs.length && allB 0 (x + y + gs.length - 1) os))))
theorem Zbe (x y : Int) (Ag : Option Addr) (ng cg : Nat) (Ao : Option Addr) (no co : Nat) (w : World) (hx : 0 ≤ x ∧ x ≤ 20) (hy : 0 ≤ y ∧ y ≤ 20) :
 Calls Tryz.prog 44 #[.agg #[.int .i64 x, .int .i64 y, .slice Ag ng cg, .slice Ao no co]] w fun e w' => e = .returned (.int .i64 (x + y)) ∧ Below w.heap.size w w' := by
 obtain ⟨hx0, hx1⟩ := hx
 obtain ⟨hy0, hy1⟩ := hy
 have hB : Below w.heap.size w (w.alloc (.cells #[.int .i64 x, .int .i64 y, .slice Ag ng cg, .slice Ao no co] 27)) := bA
 go_enter Tryz.func44, Tryz.ntmps44
 go_wp2
 go_ret
 exact ⟨rfl, hB⟩
theorem Zak (x y : Int) (Ag : Option Addr) (ng cg : Nat) (Ao : Option Addr) (no co : Nat) (w : World) (hx : 0 ≤ x ∧ x ≤ 20) (hy : 0 ≤ y ∧ y ≤ 20) :
 Calls Tryz.prog 30 #[.agg #[.int .i64 x, .int .i64 y, .slice Ag ng cg, .slice Ao no co]] w fun e w' => e = .returned (.int .i64 (x + y)) ∧ Below w.heap.size w w' := by
 obtain ⟨hx0, hx1⟩ := hx
 obtain ⟨hy0, hy1⟩ := hy
 have hB : Below w.heap.size w (w.alloc (.cells #[.int .i64 x, .int .i64 y, .slice Ag ng cg, .slice Ao no co] 27)) := bA
 go_enter Tryz.func30, Tryz.ntmps30
 go_wp2
 go_ret
 exact ⟨rfl, hB⟩
theorem Zba (x y : Int) (Ag : Option Addr) (ng cg : Nat) (Ao : Option Addr) (no co : Nat) (w : World) (hx : 0 ≤ x ∧ x ≤ 20) (hy : 0 ≤ y ∧ y ≤ 20) (hn : ng ≤ 2097152) :
 Calls Tryz.prog 40 #[.agg #[.int .i64 x, .int .i64 y, .slice Ag ng cg, .slice Ao no co]] w fun e w' => e = .returned (.int .i64 (x + y + ng)) ∧ Below w.heap.size w w' := by
 have hB : Below w.heap.size w (w.alloc (.cells #[.int .i64 x, .int .i64 y, .slice Ag ng cg, .slice Ao no co] 27)) := bA
 obtain ⟨hx0, hx1⟩ := hx
 obtain ⟨hy0, hy1⟩ := hy
 have q1 : IntKind.i64.wrap (x + y + (ng : Int)) = x + y + ng := IntWalk.i64_in _ (by omega)
 go_enter Tryz.func40, Tryz.ntmps40
 go_wp2_with fail
 refine Zai (w.heap.size + 1) (w.alloc (.cells #[.int .i64 x, .int .i64 y, .slice Ag ng cg, .slice Ao no co] 27)) [(⟨w.heap.size, 0, none⟩, .int .i64 x), (⟨w.heap.size, 1, none⟩, .int .i64 y), (⟨w.heap.size, 2, none⟩, .slice Ag ng cg), (⟨w.heap.size, 3, none⟩, .slice Ao no co)] (by kernel_rfl) (by kernel_rfl) (by simp only [List.mem_cons, forall_eq_or_imp, List.not_mem_nil, false_implies, implies_true, and_true]; repeat (any_goals (apply And.intro)); all_goals (first | assumption | go_simp)) ?_
 repeat (first
  | go_big_quiet_skip
  | (go_big_quiet_want
     apply Exists.intro
     refine ⟨fun w3 hw3 => ?_, ?_⟩
     ·have hcs := hw3.2
      simp only [List.mem_cons, forall_eq_or_imp, List.not_mem_nil, false_implies, implies_true, and_true] at hcs
      simp only [Oper.quietAt]
      go_simp
      first | done | exact ⟨rfl, rfl⟩ | rfl | (refine (Zbe _ _ _ _ _ _ _ _ _ (by omega) (by omega)).mono ?_; rintro e w4 ⟨rfl, hb4⟩; exact ⟨rfl, hw3.next hb4 (by simp)⟩)
     go_big_quiet_on
     try simp only [pA, pB, sA, sB, sC]))
 refine wpQuiet_nil ?_
 intro wq hwq
 go_wp2
 go_ret
 exact ⟨by rw [← q1]; rfl, hB.trans (hwq.1.mono (by omega))⟩
theorem Zco (x y : Int) (Ag : Option Addr) (ng cg : Nat) (Ao : Option Addr) (no co : Nat) (w : World) (hx : 0 ≤ x ∧ x ≤ 20) (hy : 0 ≤ y ∧ y ≤ 20) (hn : ng ≤ 2097152) :
 Calls Tryz.prog 33 #[.agg #[.int .i64 x, .int .i64 y, .slice Ag ng cg, .slice Ao no co]] w fun e w' => e = .returned (.int .i64 (x + y + ng)) ∧ Below w.heap.size w w' := by
 have hB : Below w.heap.size w (w.alloc (.cells #[.int .i64 x, .int .i64 y, .slice Ag ng cg, .slice Ao no co] 27)) := bA
 obtain ⟨hx0, hx1⟩ := hx
 obtain ⟨hy0, hy1⟩ := hy
 have q1 : IntKind.i64.wrap (x + y + (ng : Int)) = x + y + ng := IntWalk.i64_in _ (by omega)
 go_enter Tryz.func33, Tryz.ntmps33
 go_wp2_with fail
 refine Zai (w.heap.size + 1) (w.alloc (.cells #[.int .i64 x, .int .i64 y, .slice Ag ng cg, .slice Ao no co] 27)) [(⟨w.heap.size, 0, none⟩, .int .i64 x), (⟨w.heap.size, 1, none⟩, .int .i64 y), (⟨w.heap.size, 2, none⟩, .slice Ag ng cg), (⟨w.heap.size, 3, none⟩, .slice Ao no co)] (by kernel_rfl) (by kernel_rfl) (by simp only [List.mem_cons, forall_eq_or_imp, List.not_mem_nil, false_implies, implies_true, and_true]; repeat (any_goals (apply And.intro)); all_goals (first | assumption | go_simp)) ?_
 repeat (first
  | go_big_quiet_skip
  | (go_big_quiet_want
     apply Exists.intro
     refine ⟨fun w3 hw3 => ?_, ?_⟩
     ·have hcs := hw3.2
      simp only [List.mem_cons, forall_eq_or_imp, List.not_mem_nil, false_implies, implies_true, and_true] at hcs
      simp only [Oper.quietAt]
      go_simp
      first | done | exact ⟨rfl, rfl⟩ | rfl | (refine (Zak _ _ _ _ _ _ _ _ _ (by omega) (by omega)).mono ?_; rintro e w4 ⟨rfl, hb4⟩; exact ⟨rfl, hw3.next hb4 (by simp)⟩)
     go_big_quiet_on
     try simp only [pA, pB, sA, sB, sC]))
 refine wpQuiet_nil ?_
 intro wq hwq
 go_wp2
 go_ret
 exact ⟨by rw [← q1]; rfl, hB.trans (hwq.1.mono (by omega))⟩
set_option maxHeartbeats 800000 in
theorem ciGate_any (g : G3) (n : Int) (w : World) (hn : 0 ≤ n ∧ n ≤ 1000000) :
 Calls Tryz.prog 72 #[.agg #[.int .i64 g.k, .int .i64 g.a, .int .i64 g.b], .int .i64 n] w fun e w' => e = .returned (.bool (gateB g n)) ∧ Below w.heap.size w w' := by
 obtain ⟨gk, ga, gb⟩ := g
 obtain ⟨hn0, hn1⟩ := hn
 have hB : Below w.heap.size w (w.alloc (.cells #[.int .i64 gk, .int .i64 ga, .int .i64 gb] 49)) := bA
 by_cases h0 : gk = 0
 ·subst h0
  have hR : Hid (gateB ⟨0, ga, gb⟩ n = (inB 0 (n - 1) ga && inB 0 (n - 1) gb)) := zH (by simp [gateB])
  go_enter Tryz.func72, Tryz.ntmps72
  go_wp2_with fail
  refine (Zaq ga 0 (n - 1) _ rfl _).mono ?_
  rintro e w1 ⟨rfl, rfl⟩
  cases h1 : inB 0 (n - 1) ga with
  | false =>
   go_wp2
   go_ret
   exact ⟨by rw [hR.out, h1]; rfl, hB⟩
  | true =>
   go_wp2_with fail
   refine (Zaq gb 0 (n - 1) _ rfl _).mono ?_
   rintro e w1 ⟨rfl, rfl⟩
   go_wp2
   go_ret
   exact ⟨by rw [hR.out, h1]; rfl, hB⟩
 ·by_cases h1 : gk = 1
  ·subst h1
   have hR : Hid (gateB ⟨1, ga, gb⟩ n = (inB 0 (n - 1) ga && inB 0 (n - 1) gb)) := zH (by simp [gateB])
   clear h0
   go_enter Tryz.func72, Tryz.ntmps72
   go_wp2_with fail
   refine (Zaq ga 0 (n - 1) _ rfl _).mono ?_
   rintro e w1 ⟨rfl, rfl⟩
   cases h1 : inB 0 (n - 1) ga with
   | false =>
    go_wp2
    go_ret
    exact ⟨by rw [hR.out, h1]; rfl, hB⟩
   | true =>
    go_wp2_with fail
    refine (Zaq gb 0 (n - 1) _ rfl _).mono ?_
    rintro e w1 ⟨rfl, rfl⟩
    go_wp2
    go_ret
    exact ⟨by rw [hR.out, h1]; rfl, hB⟩
  ·have z0 : (gk == 0) = false := by simpa using h0
   have z1 : (gk == 1) = false := by simpa using h1
   by_cases h2 : gk = 2
   ·have hR : Hid (gateB ⟨gk, ga, gb⟩ n = (inB 0 (n - 1) ga && (gb == 0))) := zH (by subst h2; simp only [gateB]; simp; cases inB 0 (n - 1) ga <;> simp <;> rfl)
    have z2 : (gk == 2) = true := by simpa using h2
    clear h0 h1 h2
    go_enter Tryz.func72, Tryz.ntmps72
    go_wp2_with fail
    refine (Zaq ga 0 (n - 1) _ rfl _).mono ?_
    rintro e w1 ⟨rfl, rfl⟩
    cases h1 : inB 0 (n - 1) ga with
    | false =>
     go_wp2
     go_ret
     exact ⟨by rw [hR.out, h1]; rfl, hB⟩
    | true =>
     go_wp2
     go_ret
     exact ⟨by rw [hR.out, h1]; rfl, hB⟩
   ·have z2 : (gk == 2) = false := by simpa using h2
    have hR : Hid (gateB ⟨gk, ga, gb⟩ n = ((gk == 3) && ((ga == 0) && (gb == 0)))) := zH (by
     unfold gateB; rw [if_neg (fun h => h.elim h0 h1), if_neg h2, Bool.eq_iff_iff]; simp)
    clear h0 h1 h2
    cases z3 : (gk == 3) with
    | false =>
     go_enter Tryz.func72, Tryz.ntmps72
     go_wp2
     go_ret
     exact ⟨by rw [hR.out, z3]; rfl, hB⟩
    | true =>
     cases z4 : (ga == 0) with
     | false =>
      go_enter Tryz.func72, Tryz.ntmps72
      go_wp2
      go_ret
      exact ⟨by rw [hR.out, z3, z4]; rfl, hB⟩
     | true =>
      cases z5 : (gb == 0) with
      | false =>
       go_enter Tryz.func72, Tryz.ntmps72
       go_wp2
       go_ret
       exact ⟨by rw [hR.out, z3, z4, z5]; rfl, hB⟩
      | true =>
       go_enter Tryz.func72, Tryz.ntmps72
       go_wp2
       go_ret
       exact ⟨by rw [hR.out, z3, z4, z5]; rfl, hB⟩
set_option maxHeartbeats 800000 in
theorem gateOk_any (g : G3) (n : Int) (w : World) (hn : 0 ≤ n ∧ n ≤ 1000000) :
 Calls Tryz.prog 29 #[.agg #[.int .i64 g.k, .int .i64 g.a, .int .i64 g.b], .int .i64 n] w fun e w' => e = .returned (.bool (gateB g n)) ∧ Below w.heap.size w w' := by
 obtain ⟨gk, ga, gb⟩ := g
 obtain ⟨hn0, hn1⟩ := hn
 have hB : Below w.heap.size w (w.alloc (.cells #[.int .i64 gk, .int .i64 ga, .int .i64 gb] 49)) := bA
 by_cases h0 : gk = 0
 ·subst h0
  have hR : Hid (gateB ⟨0, ga, gb⟩ n = (inB 0 (n - 1) ga && inB 0 (n - 1) gb)) := zH (by simp [gateB])
  go_enter Tryz.func29, Tryz.ntmps29
  go_wp2_with fail
  refine (Zax ga 0 (n - 1) _ rfl _).mono ?_
  rintro e w1 ⟨rfl, rfl⟩
  cases h1 : inB 0 (n - 1) ga with
  | false =>
   go_wp2
   go_ret
   exact ⟨by rw [hR.out, h1]; rfl, hB⟩
  | true =>
   go_wp2_with fail
   refine (Zax gb 0 (n - 1) _ rfl _).mono ?_
   rintro e w1 ⟨rfl, rfl⟩
   go_wp2
   go_ret
   exact ⟨by rw [hR.out, h1]; rfl, hB⟩
 ·by_cases h1 : gk = 1
  ·subst h1
   have hR : Hid (gateB ⟨1, ga, gb⟩ n = (inB 0 (n - 1) ga && inB 0 (n - 1) gb)) := zH (by simp [gateB])
   clear h0
   go_enter Tryz.func29, Tryz.ntmps29
   go_wp2_with fail
   refine (Zax ga 0 (n - 1) _ rfl _).mono ?_
   rintro e w1 ⟨rfl, rfl⟩
   cases h1 : inB 0 (n - 1) ga with
   | false =>
    go_wp2
    go_ret
    exact ⟨by rw [hR.out, h1]; rfl, hB⟩
   | true =>
    go_wp2_with fail
    refine (Zax gb 0 (n - 1) _ rfl _).mono ?_
    rintro e w1 ⟨rfl, rfl⟩
    go_wp2
    go_ret
    exact ⟨by rw [hR.out, h1]; rfl, hB⟩
  ·have z0 : (gk == 0) = false := by simpa using h0
   have z1 : (gk == 1) = false := by simpa using h1
   by_cases h2 : gk = 2
   ·have hR : Hid (gateB ⟨gk, ga, gb⟩ n = (inB 0 (n - 1) ga && (gb == 0))) := zH (by subst h2; simp only [gateB]; simp; cases inB 0 (n - 1) ga <;> simp <;> rfl)
    have z2 : (gk == 2) = true := by simpa using h2
    clear h0 h1 h2
    go_enter Tryz.func29, Tryz.ntmps29
    go_wp2_with fail
    refine (Zax ga 0 (n - 1) _ rfl _).mono ?_
    rintro e w1 ⟨rfl, rfl⟩
    cases h1 : inB 0 (n - 1) ga with
    | false =>
     go_wp2
     go_ret
     exact ⟨by rw [hR.out, h1]; rfl, hB⟩
    | true =>
     go_wp2
     go_ret
     exact ⟨by rw [hR.out, h1]; rfl, hB⟩
   ·have z2 : (gk == 2) = false := by simpa using h2
    have hR : Hid (gateB ⟨gk, ga, gb⟩ n = ((gk == 3) && ((ga == 0) && (gb == 0)))) := zH (by
     unfold gateB; rw [if_neg (fun h => h.elim h0 h1), if_neg h2, Bool.eq_iff_iff]; simp)
    clear h0 h1 h2
    cases z3 : (gk == 3) with
    | false =>
     go_enter Tryz.func29, Tryz.ntmps29
     go_wp2
     go_ret
     exact ⟨by rw [hR.out, z3]; rfl, hB⟩
    | true =>
     cases z4 : (ga == 0) with
     | false =>
      go_enter Tryz.func29, Tryz.ntmps29
      go_wp2
      go_ret
      exact ⟨by rw [hR.out, z3, z4]; rfl, hB⟩
     | true =>
      cases z5 : (gb == 0) with
      | false =>
       go_enter Tryz.func29, Tryz.ntmps29
       go_wp2
       go_ret
       exact ⟨by rw [hR.out, z3, z4, z5]; rfl, hB⟩
      | true =>
       go_enter Tryz.func29, Tryz.ntmps29
       go_wp2
       go_ret
       exact ⟨by rw [hR.out, z3, z4, z5]; rfl, hB⟩
set_option maxHeartbeats 800000 in
theorem Zap (x y : Int) (Ag : Option Addr) (ng cg : Nat) (Ao : Option Addr) (no co : Nat) (gs : List G3) (os : List Int) (w : World) (hg : RG w Ag ng gs) (ho : RI w Ao no os) (hng : ng ≤ 2097152) (hno : no ≤ 2097152) :
 Calls Tryz.prog 34 #[.agg #[.int .i64 x, .int .i64 y, .slice Ag ng cg, .slice Ao no co]] w fun e w' => e = .returned (.bool (circB x y gs os)) ∧ Below w.heap.size w w' := by
 have hB : Below w.heap.size w (w.alloc (.cells #[.int .i64 x, .int .i64 y, .slice Ag ng cg, .slice Ao no co] 27)) := bA
 have hlg := hg.len
 have hlo := ho.len
 cases h1 : inB 0 20 x with
 | false =>
  have HR : Hid (circB x y gs os = false) := zH (by simp only [circB, h1]; rfl)
  go_enter Tryz.func34, Tryz.ntmps34
  go_wp2_with fail
  refine (Zaq x 0 20 _ h1 _).mono ?_
  rintro e w1 ⟨rfl, rfl⟩
  go_wp2
  go_ret
  exact ⟨by rw [HR.out]; rfl, hB⟩
 | true =>
  have b1 := inB_iff.1 h1
  cases h2 : inB 0 20 y with
  | false =>
   have HR : Hid (circB x y gs os = false) := zH (by simp only [circB, h1, h2]; rfl)
   go_enter Tryz.func34, Tryz.ntmps34
   go_wp2_with fail
   refine (Zaq x 0 20 _ h1 _).mono ?_
   rintro e w1 ⟨rfl, rfl⟩
   go_wp2_with fail
   refine (Zaq y 0 20 _ h2 _).mono ?_
   rintro e w1 ⟨rfl, rfl⟩
   go_wp2
   go_ret
   exact ⟨by rw [HR.out]; rfl, hB⟩
  | true =>
   have b2 := inB_iff.1 h2
   by_cases h3 : ng ≤ 300
   ·by_cases h4 : no ≤ 40
    ·have HR : Hid (circB x y gs os = (gatesB (x + y) gs ng && allB 0 (x + y + ng - 1) os)) := zH (by simp only [circB, h1, h2, hlg, hlo, h3, h4, decide_true, Bool.true_and])
     have h3' : (ng : Int) ≤ 300 := by omega
     have h4' : (no : Int) ≤ 40 := by omega
     obtain ⟨x0, x1⟩ := b1
     obtain ⟨y0, y1⟩ := b2
     go_enter Tryz.func34, Tryz.ntmps34
     go_wp2_with fail
     refine (Zaq x 0 20 _ h1 _).mono ?_
     rintro e w1 ⟨rfl, rfl⟩
     go_wp2_with fail
     refine (Zaq y 0 20 _ h2 _).mono ?_
     rintro e w1 ⟨rfl, rfl⟩
     go_wp2
     go_loopw [30] (fun i wr => ∃ k : Nat, k ≤ ng ∧ i = .int .i64 k ∧ Hid (gatesB (x + y) gs k = true) ∧ Below (w.heap.size + 1) (w.alloc (.cells #[.int .i64 x, .int .i64 y, .slice Ag ng cg, .slice Ao no co] 27)) wr) (fun i _ => ng - (intOf i).toNat)
     case atStart => exact ⟨0, Nat.zero_le _, rfl, zH rfl, Below.refl _ _⟩
     case round =>
      obtain ⟨k, hk, rfl, hq, hb⟩ := hrel
      have hbw : Below w.heap.size w wr := hB.trans (hb.mono (by omega))
      have k0 := (hb.cell (p := ⟨w.heap.size, 0, none⟩) (by simp)).trans (Zal w _ 0 (.int .i64 x) rfl)
      have k1 := (hb.cell (p := ⟨w.heap.size, 1, none⟩) (by simp)).trans (Zal w _ 1 (.int .i64 y) rfl)
      have k2 := (hb.cell (p := ⟨w.heap.size, 2, none⟩) (by simp)).trans (Zal w _ 2 (.slice Ag ng cg) rfl)
      have k3 := (hb.cell (p := ⟨w.heap.size, 3, none⟩) (by simp)).trans (Zal w _ 3 (.slice Ao no co) rfl)
      by_cases hlt : k < ng
      ·obtain ⟨b, o, rfl, hbB, c1, c2, c3⟩ := (hg.below hbw lR).at_ hlt
       have q1 : IntKind.i64.wrap (x + y + (k : Int)) = x + y + k := IntWalk.i64_in _ (by omega)
       have hd := hb.size
       simp only [World.size_alloc] at hd
       have hbg : Below wr.heap.size wr (wr.alloc (.cells #[.int .i64 (gg gs k).k, .int .i64 (gg gs k).a, .int .i64 (gg gs k).b] 49)) := bA
       have g0 := (hbg.cell (p := ⟨w.heap.size, 0, none⟩) (by show w.heap.size < wr.heap.size; omega)).trans k0
       have g1 := (hbg.cell (p := ⟨w.heap.size, 1, none⟩) (by show w.heap.size < wr.heap.size; omega)).trans k1
       have g2 := (hbg.cell (p := ⟨w.heap.size, 2, none⟩) (by show w.heap.size < wr.heap.size; omega)).trans k2
       have g3 := (hbg.cell (p := ⟨w.heap.size, 3, none⟩) (by show w.heap.size < wr.heap.size; omega)).trans k3
       have e0 := Zal wr #[.int .i64 (gg gs k).k, .int .i64 (gg gs k).a, .int .i64 (gg gs k).b] (T := 49) 0 (.int .i64 (gg gs k).k) rfl
       have e1 := Zal wr #[.int .i64 (gg gs k).k, .int .i64 (gg gs k).a, .int .i64 (gg gs k).b] (T := 49) 1 (.int .i64 (gg gs k).a) rfl
       have e2 := Zal wr #[.int .i64 (gg gs k).k, .int .i64 (gg gs k).a, .int .i64 (gg gs k).b] (T := 49) 2 (.int .i64 (gg gs k).b) rfl
       cases h5 : gateB (gg gs k) (x + y + k) with
       | true =>
        have H5 := zH h5; clear h5
        go_wp2_with fail
        refine Zai (wr.heap.size + 1) (wr.alloc (.cells #[.int .i64 (gg gs k).k, .int .i64 (gg gs k).a, .int .i64 (gg gs k).b] 49)) [(⟨w.heap.size, 0, none⟩, .int .i64 x), (⟨w.heap.size, 1, none⟩, .int .i64 y), (⟨w.heap.size, 2, none⟩, .slice (some ⟨b, o, none⟩) ng cg), (⟨w.heap.size, 3, none⟩, .slice Ao no co), (⟨wr.heap.size, 0, none⟩, .int .i64 (gg gs k).k), (⟨wr.heap.size, 1, none⟩, .int .i64 (gg gs k).a), (⟨wr.heap.size, 2, none⟩, .int .i64 (gg gs k).b)] (by kernel_rfl) (by kernel_rfl) (by simp only [List.mem_cons, forall_eq_or_imp, List.not_mem_nil, false_implies, implies_true, and_true]; repeat (any_goals (apply And.intro)); all_goals (first | assumption | go_simp)) ?_
        repeat (first
         | go_big_quiet_skip
         | (go_big_quiet_want
            apply Exists.intro
            refine ⟨fun w3 hw3 => ?_, ?_⟩
            ·have hcs := hw3.2
             simp only [List.mem_cons, forall_eq_or_imp, List.not_mem_nil, false_implies, implies_true, and_true] at hcs
             simp only [Oper.quietAt]
             go_simp
             first | done | exact ⟨rfl, rfl⟩ | rfl | (refine (Zbe _ _ _ _ _ _ _ _ _ (by omega) (by omega)).mono ?_; rintro e w4 ⟨rfl, hb4⟩; exact ⟨rfl, hw3.next hb4 (by simp)⟩) | (refine (ciGate_any (gg gs k) _ _ (by omega)).mono ?_; rintro e w4 ⟨he, hb4⟩; rw [H5.out] at he; obtain rfl := he; exact ⟨rfl, hw3.next hb4 (by simp)⟩)
            go_big_quiet_on
            try simp only [pA, pB, sA, sB, sC]))
        refine wpQuiet_nil ?_
        intro wq hwq
        go_wp2
        go_roundw
        case rel => exact ⟨k + 1, by omega, by congr 1, zH (by rw [gatesB_succ, hq.out, H5.out]; rfl), hb.trans ((hbg.trans (hwq.1.mono (by omega))).mono (by omega))⟩
        case measure => simp [intOf]; omega
       | false =>
        have H5 := zH h5; clear h5
        go_wp2_with fail
        refine Zai (wr.heap.size + 1) (wr.alloc (.cells #[.int .i64 (gg gs k).k, .int .i64 (gg gs k).a, .int .i64 (gg gs k).b] 49)) [(⟨w.heap.size, 0, none⟩, .int .i64 x), (⟨w.heap.size, 1, none⟩, .int .i64 y), (⟨w.heap.size, 2, none⟩, .slice (some ⟨b, o, none⟩) ng cg), (⟨w.heap.size, 3, none⟩, .slice Ao no co), (⟨wr.heap.size, 0, none⟩, .int .i64 (gg gs k).k), (⟨wr.heap.size, 1, none⟩, .int .i64 (gg gs k).a), (⟨wr.heap.size, 2, none⟩, .int .i64 (gg gs k).b)] (by kernel_rfl) (by kernel_rfl) (by simp only [List.mem_cons, forall_eq_or_imp, List.not_mem_nil, false_implies, implies_true, and_true]; repeat (any_goals (apply And.intro)); all_goals (first | assumption | go_simp)) ?_
        repeat (first
         | go_big_quiet_skip
         | (go_big_quiet_want
            apply Exists.intro
            refine ⟨fun w3 hw3 => ?_, ?_⟩
            ·have hcs := hw3.2
             simp only [List.mem_cons, forall_eq_or_imp, List.not_mem_nil, false_implies, implies_true, and_true] at hcs
             simp only [Oper.quietAt]
             go_simp
             first | done | exact ⟨rfl, rfl⟩ | rfl | (refine (Zbe _ _ _ _ _ _ _ _ _ (by omega) (by omega)).mono ?_; rintro e w4 ⟨rfl, hb4⟩; exact ⟨rfl, hw3.next hb4 (by simp)⟩) | (refine (ciGate_any (gg gs k) _ _ (by omega)).mono ?_; rintro e w4 ⟨he, hb4⟩; rw [H5.out] at he; obtain rfl := he; exact ⟨rfl, hw3.next hb4 (by simp)⟩)
            go_big_quiet_on
            try simp only [pA, pB, sA, sB, sC]))
        refine wpQuiet_nil ?_
        intro wq hwq
        go_wp2
        go_ret
        exact ⟨by rw [HR.out, gatesB_false hlt H5.out]; rfl, hbw.trans ((hbg.trans (hwq.1.mono (by omega))).mono (by omega))⟩
      ·obtain rfl : ng = k := by omega
       go_wp2_with fail
       refine Zai (wr.heap.size) (wr) [(⟨w.heap.size, 0, none⟩, .int .i64 x), (⟨w.heap.size, 1, none⟩, .int .i64 y), (⟨w.heap.size, 2, none⟩, .slice Ag ng cg), (⟨w.heap.size, 3, none⟩, .slice Ao no co)] (by kernel_rfl) (by kernel_rfl) (by simp only [List.mem_cons, forall_eq_or_imp, List.not_mem_nil, false_implies, implies_true, and_true]; repeat (any_goals (apply And.intro)); all_goals (first | assumption | go_simp)) ?_
       repeat (first
        | go_big_quiet_skip
        | (go_big_quiet_want
           apply Exists.intro
           refine ⟨fun w3 hw3 => ?_, ?_⟩
           ·have hcs := hw3.2
            simp only [List.mem_cons, forall_eq_or_imp, List.not_mem_nil, false_implies, implies_true, and_true] at hcs
            simp only [Oper.quietAt]
            go_simp
            first | done | exact ⟨rfl, rfl⟩ | rfl | (refine (Zba _ _ _ _ _ _ _ _ _ (by omega) (by omega) hng).mono ?_; rintro e w4 ⟨rfl, hb4⟩; exact ⟨rfl, hw3.next hb4 (by simp)⟩) | (refine (l1All_any _ _ _ _ _ _ _ (ho.below (hbw.trans (hw3.1.mono hbw.size)) lR) hno).mono ?_; rintro e w4 ⟨rfl, rfl⟩; exact ⟨rfl, hw3⟩)
           go_big_quiet_on
           try simp only [pA, pB, sA, sB, sC]))
       refine wpQuiet_nil ?_
       intro wq hwq
       have q2 : IntKind.i64.wrap (x + y + (ng : Int) - 1) = x + y + ng - 1 := IntWalk.i64_in _ (by omega)
       go_wp2
       go_ret
       exact ⟨by rw [HR.out, hq.out, Bool.true_and]; show Ending.returned (.bool (allB 0 (IntKind.i64.wrap (x + y + (ng : Int) - 1)) os)) = _; rw [q2], hbw.trans (hwq.1.mono hbw.size)⟩
    ·have HR : Hid (circB x y gs os = false) := zH (by simp only [circB, h1, h2, hlg, hlo, h3, h4, decide_true, decide_false, Bool.true_and, Bool.false_and])
     have h3' : (ng : Int) ≤ 300 := by omega
     have h4' : ¬ (no : Int) ≤ 40 := by omega
     go_enter Tryz.func34, Tryz.ntmps34
     go_wp2_with fail
     refine (Zaq x 0 20 _ h1 _).mono ?_
     rintro e w1 ⟨rfl, rfl⟩
     go_wp2_with fail
     refine (Zaq y 0 20 _ h2 _).mono ?_
     rintro e w1 ⟨rfl, rfl⟩
     go_wp2
     go_ret
     exact ⟨by rw [HR.out]; rfl, hB⟩
   ·have HR : Hid (circB x y gs os = false) := zH (by simp only [circB, h1, h2, hlg, h3, decide_true, decide_false, Bool.true_and, Bool.false_and])
    have h3' : ¬ (ng : Int) ≤ 300 := by omega
    go_enter Tryz.func34, Tryz.ntmps34
    go_wp2_with fail
    refine (Zaq x 0 20 _ h1 _).mono ?_
    rintro e w1 ⟨rfl, rfl⟩
    go_wp2_with fail
    refine (Zaq y 0 20 _ h2 _).mono ?_
    rintro e w1 ⟨rfl, rfl⟩
    go_wp2
    go_ret
    exact ⟨by rw [HR.out]; rfl, hB⟩
theorem IsCircuit_1_any (B : Nat) (x y : Int) (Ag : Option Addr) (ng cg : Nat) (Ao : Option Addr) (no co : Nat) (z : Int) (w : World) (c0 : w.cell? ⟨B, 0, none⟩ = some (.int .i64 x)) (c1 : w.cell? ⟨B, 1, none⟩ = some (.int .i64 y)) (c2 : w.cell? ⟨B, 2, none⟩ = some (.slice Ag ng cg)) (c3 : w.cell? ⟨B, 3, none⟩ = some (.slice Ao no co)) (hx : 0 ≤ x ∧ x ≤ 20) (hy : 0 ≤ y ∧ y ≤ 20) (hn : ng ≤ 2097152) :
 Calls Tryz.prog 32 #[.int .i64 z, .pointer (some ⟨B, 0, none⟩)] w fun e w' => e = .returned (.bool (inB 0 (x + y + ng - 1) z)) ∧ Below w.heap.size w w' := by
 have hx' := hx
 have hy' := hy
 obtain ⟨x0, x1⟩ := hx
 obtain ⟨y0, y1⟩ := hy
 go_enter Tryz.func32, Tryz.ntmps32
 go_wp2_with fail
 refine (Zco x y Ag ng cg Ao no co _ hx' hy' hn).mono ?_
 rintro e w1 ⟨rfl, hb1⟩
 go_wp2_with fail
 refine (Zax z 0 (x + y + ng - 1) _ rfl _).mono ?_
 rintro e w2 ⟨rfl, rfl⟩
 go_wp2
 go_ret
 exact ⟨rfl, hb1⟩
set_option maxHeartbeats 800000 in
theorem Zah (x y : Int) (Ag : Option Addr) (ng cg : Nat) (Ao : Option Addr) (no co : Nat) (gs : List G3) (os : List Int) (w : World) (hg : RG w Ag ng gs) (ho : RI w Ao no os) (hng : ng ≤ 2097152) (hno : no ≤ 2097152) :
 Calls Tryz.prog 9 #[.agg #[.int .i64 x, .int .i64 y, .slice Ag ng cg, .slice Ao no co]] w fun e w' => e = .returned (.bool (circB x y gs os)) ∧ Below w.heap.size w w' := by
 have hB : Below w.heap.size w (w.alloc (.cells #[.int .i64 x, .int .i64 y, .slice Ag ng cg, .slice Ao no co] 27)) := bA
 have hlg := hg.len
 have hlo := ho.len
 cases h1 : inB 0 20 x with
 | false =>
  have HR : Hid (circB x y gs os = false) := zH (by simp only [circB, h1]; rfl)
  go_enter Tryz.func9, Tryz.ntmps9
  go_wp2_with fail
  refine (Zax x 0 20 _ h1 _).mono ?_
  rintro e w1 ⟨rfl, rfl⟩
  go_wp2
  go_ret
  exact ⟨by rw [HR.out]; rfl, hB⟩
 | true =>
  have b1 := inB_iff.1 h1
  cases h2 : inB 0 20 y with
  | false =>
   have HR : Hid (circB x y gs os = false) := zH (by simp only [circB, h1, h2]; rfl)
   go_enter Tryz.func9, Tryz.ntmps9
   go_wp2_with fail
   refine (Zax x 0 20 _ h1 _).mono ?_
   rintro e w1 ⟨rfl, rfl⟩
   go_wp2_with fail
   refine (Zax y 0 20 _ h2 _).mono ?_
   rintro e w1 ⟨rfl, rfl⟩
   go_wp2
   go_ret
   exact ⟨by rw [HR.out]; rfl, hB⟩
  | true =>
   have b2 := inB_iff.1 h2
   by_cases h3 : ng ≤ 300
   ·by_cases h4 : no ≤ 40
    ·have HR : Hid (circB x y gs os = (gatesB (x + y) gs ng && allB 0 (x + y + ng - 1) os)) := zH (by simp only [circB, h1, h2, hlg, hlo, h3, h4, decide_true, Bool.true_and])
     have h3' : (ng : Int) ≤ 300 := by omega
     have h4' : (no : Int) ≤ 40 := by omega
     obtain ⟨x0, x1⟩ := b1
     obtain ⟨y0, y1⟩ := b2
     go_enter Tryz.func9, Tryz.ntmps9
     go_wp2_with fail
     refine (Zax x 0 20 _ h1 _).mono ?_
     rintro e w1 ⟨rfl, rfl⟩
     go_wp2_with fail
     refine (Zax y 0 20 _ h2 _).mono ?_
     rintro e w1 ⟨rfl, rfl⟩
     go_wp2
     go_loopw [30] (fun i wr => ∃ k : Nat, k ≤ ng ∧ i = .int .i64 k ∧ Hid (gatesB (x + y) gs k = true) ∧ Below (w.heap.size + 1) (w.alloc (.cells #[.int .i64 x, .int .i64 y, .slice Ag ng cg, .slice Ao no co] 27)) wr) (fun i _ => ng - (intOf i).toNat)
     case atStart => exact ⟨0, Nat.zero_le _, rfl, zH rfl, Below.refl _ _⟩
     case round =>
      obtain ⟨k, hk, rfl, hq, hb⟩ := hrel
      have hbw : Below w.heap.size w wr := hB.trans (hb.mono (by omega))
      have k0 := (hb.cell (p := ⟨w.heap.size, 0, none⟩) (by simp)).trans (Zal w _ 0 (.int .i64 x) rfl)
      have k1 := (hb.cell (p := ⟨w.heap.size, 1, none⟩) (by simp)).trans (Zal w _ 1 (.int .i64 y) rfl)
      have k2 := (hb.cell (p := ⟨w.heap.size, 2, none⟩) (by simp)).trans (Zal w _ 2 (.slice Ag ng cg) rfl)
      have k3 := (hb.cell (p := ⟨w.heap.size, 3, none⟩) (by simp)).trans (Zal w _ 3 (.slice Ao no co) rfl)
      by_cases hlt : k < ng
      ·obtain ⟨b, o, rfl, hbB, c1, c2, c3⟩ := (hg.below hbw lR).at_ hlt
       have q1 : IntKind.i64.wrap (x + y + (k : Int)) = x + y + k := IntWalk.i64_in _ (by omega)
       have hd := hb.size
       simp only [World.size_alloc] at hd
       have hbg : Below wr.heap.size wr (wr.alloc (.cells #[.int .i64 (gg gs k).k, .int .i64 (gg gs k).a, .int .i64 (gg gs k).b] 49)) := bA
       have g0 := (hbg.cell (p := ⟨w.heap.size, 0, none⟩) (by show w.heap.size < wr.heap.size; omega)).trans k0
       have g1 := (hbg.cell (p := ⟨w.heap.size, 1, none⟩) (by show w.heap.size < wr.heap.size; omega)).trans k1
       have g2 := (hbg.cell (p := ⟨w.heap.size, 2, none⟩) (by show w.heap.size < wr.heap.size; omega)).trans k2
       have g3 := (hbg.cell (p := ⟨w.heap.size, 3, none⟩) (by show w.heap.size < wr.heap.size; omega)).trans k3
       have e0 := Zal wr #[.int .i64 (gg gs k).k, .int .i64 (gg gs k).a, .int .i64 (gg gs k).b] (T := 49) 0 (.int .i64 (gg gs k).k) rfl
       have e1 := Zal wr #[.int .i64 (gg gs k).k, .int .i64 (gg gs k).a, .int .i64 (gg gs k).b] (T := 49) 1 (.int .i64 (gg gs k).a) rfl
       have e2 := Zal wr #[.int .i64 (gg gs k).k, .int .i64 (gg gs k).a, .int .i64 (gg gs k).b] (T := 49) 2 (.int .i64 (gg gs k).b) rfl
       cases h5 : gateB (gg gs k) (x + y + k) with
       | true =>
        have H5 := zH h5; clear h5
        go_wp2_with fail
        refine Zai (wr.heap.size + 1) (wr.alloc (.cells #[.int .i64 (gg gs k).k, .int .i64 (gg gs k).a, .int .i64 (gg gs k).b] 49)) [(⟨w.heap.size, 0, none⟩, .int .i64 x), (⟨w.heap.size, 1, none⟩, .int .i64 y), (⟨w.heap.size, 2, none⟩, .slice (some ⟨b, o, none⟩) ng cg), (⟨w.heap.size, 3, none⟩, .slice Ao no co), (⟨wr.heap.size, 0, none⟩, .int .i64 (gg gs k).k), (⟨wr.heap.size, 1, none⟩, .int .i64 (gg gs k).a), (⟨wr.heap.size, 2, none⟩, .int .i64 (gg gs k).b)] (by kernel_rfl) (by kernel_rfl) (by simp only [List.mem_cons, forall_eq_or_imp, List.not_mem_nil, false_implies, implies_true, and_true]; repeat (any_goals (apply And.intro)); all_goals (first | assumption | go_simp)) ?_
        repeat (first
         | go_big_quiet_skip
         | (go_big_quiet_want
            apply Exists.intro
            refine ⟨fun w3 hw3 => ?_, ?_⟩
            ·have hcs := hw3.2
             simp only [List.mem_cons, forall_eq_or_imp, List.not_mem_nil, false_implies, implies_true, and_true] at hcs
             simp only [Oper.quietAt]
             go_simp
             first | done | exact ⟨rfl, rfl⟩ | rfl | (refine (Zak _ _ _ _ _ _ _ _ _ (by omega) (by omega)).mono ?_; rintro e w4 ⟨rfl, hb4⟩; exact ⟨rfl, hw3.next hb4 (by simp)⟩) | (refine (gateOk_any (gg gs k) _ _ (by omega)).mono ?_; rintro e w4 ⟨he, hb4⟩; rw [H5.out] at he; obtain rfl := he; exact ⟨rfl, hw3.next hb4 (by simp)⟩)
            go_big_quiet_on
            try simp only [pA, pB, sA, sB, sC]))
        refine wpQuiet_nil ?_
        intro wq hwq
        go_wp2
        go_roundw
        case rel => exact ⟨k + 1, by omega, by congr 1, zH (by rw [gatesB_succ, hq.out, H5.out]; rfl), hb.trans ((hbg.trans (hwq.1.mono (by omega))).mono (by omega))⟩
        case measure => simp [intOf]; omega
       | false =>
        have H5 := zH h5; clear h5
        go_wp2_with fail
        refine Zai (wr.heap.size + 1) (wr.alloc (.cells #[.int .i64 (gg gs k).k, .int .i64 (gg gs k).a, .int .i64 (gg gs k).b] 49)) [(⟨w.heap.size, 0, none⟩, .int .i64 x), (⟨w.heap.size, 1, none⟩, .int .i64 y), (⟨w.heap.size, 2, none⟩, .slice (some ⟨b, o, none⟩) ng cg), (⟨w.heap.size, 3, none⟩, .slice Ao no co), (⟨wr.heap.size, 0, none⟩, .int .i64 (gg gs k).k), (⟨wr.heap.size, 1, none⟩, .int .i64 (gg gs k).a), (⟨wr.heap.size, 2, none⟩, .int .i64 (gg gs k).b)] (by kernel_rfl) (by kernel_rfl) (by simp only [List.mem_cons, forall_eq_or_imp, List.not_mem_nil, false_implies, implies_true, and_true]; repeat (any_goals (apply And.intro)); all_goals (first | assumption | go_simp)) ?_
        repeat (first
         | go_big_quiet_skip
         | (go_big_quiet_want
            apply Exists.intro
            refine ⟨fun w3 hw3 => ?_, ?_⟩
            ·have hcs := hw3.2
             simp only [List.mem_cons, forall_eq_or_imp, List.not_mem_nil, false_implies, implies_true, and_true] at hcs
             simp only [Oper.quietAt]
             go_simp
             first | done | exact ⟨rfl, rfl⟩ | rfl | (refine (Zak _ _ _ _ _ _ _ _ _ (by omega) (by omega)).mono ?_; rintro e w4 ⟨rfl, hb4⟩; exact ⟨rfl, hw3.next hb4 (by simp)⟩) | (refine (gateOk_any (gg gs k) _ _ (by omega)).mono ?_; rintro e w4 ⟨he, hb4⟩; rw [H5.out] at he; obtain rfl := he; exact ⟨rfl, hw3.next hb4 (by simp)⟩)
            go_big_quiet_on
            try simp only [pA, pB, sA, sB, sC]))
        refine wpQuiet_nil ?_
        intro wq hwq
        go_wp2
        go_ret
        exact ⟨by rw [HR.out, gatesB_false hlt H5.out]; rfl, hbw.trans ((hbg.trans (hwq.1.mono (by omega))).mono (by omega))⟩
      ·obtain rfl : ng = k := by omega
       go_wp2_with fail
       refine (areAll_any 32 Tryz.call32 #[.pointer (some ⟨w.heap.size, 0, none⟩)] (inB 0 (x + y + ng - 1)) Ao no co os _ (ho.below hbw lR) hno ?_).mono ?_
       ·refine zH (fun z _ w1 hb1 => ?_)
        have hd := hb.size
        simp only [World.size_alloc] at hd
        exact IsCircuit_1_any w.heap.size x y Ag ng cg Ao no co z w1 ((hb1.cell (p := ⟨w.heap.size, 0, none⟩) (by show w.heap.size < wr.heap.size; omega)).trans k0) ((hb1.cell (p := ⟨w.heap.size, 1, none⟩) (by show w.heap.size < wr.heap.size; omega)).trans k1) ((hb1.cell (p := ⟨w.heap.size, 2, none⟩) (by show w.heap.size < wr.heap.size; omega)).trans k2) ((hb1.cell (p := ⟨w.heap.size, 3, none⟩) (by show w.heap.size < wr.heap.size; omega)).trans k3) (by omega) (by omega) hng
       ·rintro e w1 ⟨rfl, hb1⟩
        go_wp2
        go_ret
        exact ⟨by rw [HR.out, hq.out, Bool.true_and]; rfl, hbw.trans (hb1.mono hbw.size)⟩
    ·have HR : Hid (circB x y gs os = false) := zH (by simp only [circB, h1, h2, hlg, hlo, h3, h4, decide_true, decide_false, Bool.true_and, Bool.false_and])
     have h3' : (ng : Int) ≤ 300 := by omega
     have h4' : ¬ (no : Int) ≤ 40 := by omega
     go_enter Tryz.func9, Tryz.ntmps9
     go_wp2_with fail
     refine (Zax x 0 20 _ h1 _).mono ?_
     rintro e w1 ⟨rfl, rfl⟩
     go_wp2_with fail
     refine (Zax y 0 20 _ h2 _).mono ?_
     rintro e w1 ⟨rfl, rfl⟩
     go_wp2
     go_ret
     exact ⟨by rw [HR.out]; rfl, hB⟩
   ·have HR : Hid (circB x y gs os = false) := zH (by simp only [circB, h1, h2, hlg, h3, decide_true, decide_false, Bool.true_and, Bool.false_and])
    have h3' : ¬ (ng : Int) ≤ 300 := by omega
    go_enter Tryz.func9, Tryz.ntmps9
    go_wp2_with fail
    refine (Zax x 0 20 _ h1 _).mono ?_
    rintro e w1 ⟨rfl, rfl⟩
    go_wp2_with fail
    refine (Zax y 0 20 _ h2 _).mono ?_
    rintro e w1 ⟨rfl, rfl⟩
    go_wp2
    go_ret
    exact ⟨by rw [HR.out]; rfl, hB⟩
def tab (n : Nat) (f : Nat → Int) : List Int := (List.range n).map f
theorem Zbz (n : Nat) (f : Nat → Int) : (tab n f).length = n := by simp [tab]
theorem tab_snoc (n : Nat) (f : Nat → Int) : tab (n + 1) f = tab n f ++ [f n] := by simp [tab, List.range_succ]
theorem tab_zero (f : Nat → Int) : tab 0 f = [] := rfl
theorem gi_tab {n j : Nat} {f : Nat → Int} (h : j < n) : gi (tab n f) j = f j := by simp [gi, tab, h]
theorem mem_tab {n : Nat} {f : Nat → Int} {x : Int} (h : x ∈ tab n f) : ∃ j, j < n ∧ x = f j := by
 obtain ⟨j, hj, rfl⟩ := List.mem_map.1 h
 exact ⟨j, List.mem_range.1 hj, rfl⟩
def bxor (a b : Int) : Int := bits .xor .i64 a b
theorem bxor_bit {a b : Int} (ha : 0 ≤ a ∧ a ≤ 1) (hb : 0 ≤ b ∧ b ≤ 1) : bxor a b = (a + b) % 2 := by
 rcases (show a = 0 ∨ a = 1 by omega) with rfl | rfl <;> rcases (show b = 0 ∨ b = 1 by omega) with rfl | rfl <;> decide
theorem bxor_bd {a b : Int} (ha : 0 ≤ a ∧ a ≤ 1) (hb : 0 ≤ b ∧ b ≤ 1) : 0 ≤ bxor a b ∧ bxor a b ≤ 1 := by
 rw [bxor_bit ha hb]; omega
theorem Own.far {w : World} {lo hi n : Nat} {v : Value} {xs : List Int} (h : Own w lo hi v n xs) (p : Addr) (u : Value) (hp : p.block < lo ∨ hi ≤ p.block) : Own (w.setCell p u) lo hi v n xs := by
 refine ⟨⟨h.1.1, ?_⟩, h.2⟩
 rcases h.1.2 with h1 | ⟨g, cap, cur, rfl, hlo, hg, r⟩
 ·exact .inl h1
 ·refine .inr ⟨g, cap, cur, rfl, hlo, ?_, r⟩
  have := h.lt g (by simp [Value.ownBlock])
  rw [Below.heap_setCell w p u g (by omega)]; exact hg
theorem OwnG.far {w : World} {lo hi n : Nat} {v : Value} {xs : List G3} (h : OwnG w lo hi v n xs) (p : Addr) (u : Value) (hp : p.block < lo ∨ hi ≤ p.block) : OwnG (w.setCell p u) lo hi v n xs := by
 refine ⟨⟨h.1.1, ?_⟩, h.2⟩
 rcases h.1.2 with h1 | ⟨g, cap, cur, rfl, hlo, hg, r⟩
 ·exact .inl h1
 ·refine .inr ⟨g, cap, cur, rfl, hlo, ?_, r⟩
  have := h.lt g (by simp [Value.ownBlock])
  rw [Below.heap_setCell w p u g (by omega)]; exact hg
theorem Apart.noneG (v : Value) (n c : Nat) : Apart (.slice none n c) v := fun g h _ => by simp [Value.ownBlock] at h
def OwnC (w : World) (lo hi : Nat) (Ag : Option Addr) (ng cg : Nat) (Ao : Option Addr) (no co : Nat) (gs : List G3) (os : List Int) : Prop :=
 OwnG w lo hi (.slice Ag ng cg) ng gs ∧ Own w lo hi (.slice Ao no co) no os ∧ Apart (.slice Ag ng cg) (.slice Ao no co)
section
variable {w w' : World} {lo hi : Nat} {Ag : Option Addr} {ng cg : Nat} {Ao : Option Addr} {no co : Nat} {gs : List G3} {os : List Int}
theorem OwnC.below {B : Nat} (h : OwnC w lo hi Ag ng cg Ao no co gs os) (hb : Below B w w') (hB : w.heap.size ≤ B ∨ hi ≤ B) : OwnC w' lo hi Ag ng cg Ao no co gs os :=
 ⟨h.1.below hb hB, h.2.1.below hb hB, h.2.2⟩
theorem OwnC.far (h : OwnC w lo hi Ag ng cg Ao no co gs os) (p : Addr) (u : Value) (hp : p.block < lo ∨ hi ≤ p.block) : OwnC (w.setCell p u) lo hi Ag ng cg Ao no co gs os :=
 ⟨h.1.far p u hp, h.2.1.far p u hp, h.2.2⟩
theorem OwnC.reads (h : OwnC w lo hi Ag ng cg Ao no co gs os) : RG w Ag ng gs ∧ RI w Ao no os := ⟨h.1.reads, h.2.1.reads⟩
theorem OwnC.none_ (w : World) (lo hi : Nat) : OwnC w lo hi none 0 0 none 0 0 [] [] := ⟨OwnG.none_ _ _ _, Own.none_ _ _ _, Apart.noneG _ _ _⟩
theorem OwnC.lo_ {lo' : Nat} (h : OwnC w lo hi Ag ng cg Ao no co gs os) (hl : lo' ≤ lo) : OwnC w lo' hi Ag ng cg Ao no co gs os := ⟨h.1.lo_ hl, h.2.1.lo_ hl, h.2.2⟩
theorem OwnC.hi_ {hi' : Nat} (h : OwnC w lo hi Ag ng cg Ao no co gs os) (hl : hi ≤ hi') : OwnC w lo hi' Ag ng cg Ao no co gs os := ⟨h.1.hi_ hl, h.2.1.hi_ hl, h.2.2⟩
theorem OwnC.now (h : OwnC w lo hi Ag ng cg Ao no co gs os) : OwnC w lo w.heap.size Ag ng cg Ao no co gs os := ⟨h.1.now, h.2.1.now, h.2.2⟩
end
def RetC (w : World) (o : Option Ci) (e : Ending) (w' : World) : Prop :=
 ∃ Ag cg Ao co, e = .returned (.tuple #[.agg #[.int .i64 (o.getD ⟨0, 0, [], []⟩).i0, .int .i64 (o.getD ⟨0, 0, [], []⟩).i1, .slice Ag (o.getD ⟨0, 0, [], []⟩).gs.length cg, .slice Ao (o.getD ⟨0, 0, [], []⟩).os.length co], .bool o.isSome]) ∧
  OwnC w' w.heap.size w'.heap.size Ag (o.getD ⟨0, 0, [], []⟩).gs.length cg Ao (o.getD ⟨0, 0, [], []⟩).os.length co (o.getD ⟨0, 0, [], []⟩).gs (o.getD ⟨0, 0, [], []⟩).os ∧ Below w.heap.size w w'
theorem RetC.none_ {w : World} {o : Option Ci} {e : Ending} {w' : World} (hb : Below w.heap.size w w') (ho : o = none) (he : e = .returned (.tuple #[.agg #[.int .i64 0, .int .i64 0, .slice none 0 0, .slice none 0 0], .bool false])) : RetC w o e w' := by
 subst ho; exact ⟨none, 0, none, 0, he, OwnC.none_ _ _ _, hb⟩
theorem RetC.some_ {w : World} {o : Option Ci} {x y : Int} {gs : List G3} {os : List Int} {ng cg no co : Nat} {Ag Ao : Option Addr} {e : Ending} {w' : World} (hb : Below w.heap.size w w') (ho : o = some ⟨x, y, gs, os⟩) (hng : gs.length = ng) (hno : os.length = no)
 (he : e = .returned (.tuple #[.agg #[.int .i64 x, .int .i64 y, .slice Ag ng cg, .slice Ao no co], .bool true])) (hw : OwnC w' w.heap.size w'.heap.size Ag ng cg Ao no co gs os) : RetC w o e w' := by
 subst ho; subst hng; subst hno; exact ⟨Ag, cg, Ao, co, he, hw, hb⟩
def BxC (w : World) (b : Nat) (x y : Int) (Ag : Option Addr) (ng cg : Nat) (Ao : Option Addr) (no co : Nat) : Prop :=
 w.cell? ⟨b, 0, none⟩ = some (.int .i64 x) ∧ w.cell? ⟨b, 1, none⟩ = some (.int .i64 y) ∧ w.cell? ⟨b, 2, none⟩ = some (.slice Ag ng cg) ∧ w.cell? ⟨b, 3, none⟩ = some (.slice Ao no co)
theorem Zct {w w' : World} {p : Addr} {v : Value} (h : w.cell? p = some v) (hb : Below w.heap.size w w') : w'.cell? p = some v :=
 (hb.cell (World.block_lt_of_cell? w _ h)).trans h
section
variable {w w' : World} {b : Nat} {p x y : Int} {Ag : Option Addr} {ng cg : Nat} {Ao : Option Addr} {no co : Nat}
theorem BxC.below (h : BxC w b x y Ag ng cg Ao no co) (hb : Below w.heap.size w w') : BxC w' b x y Ag ng cg Ao no co :=
 ⟨Zct h.1 hb, Zct h.2.1 hb, Zct h.2.2.1 hb, Zct h.2.2.2 hb⟩
theorem BxC.new (w : World) (T : TypeId) : BxC (w.alloc (.cells #[.int .i64 x, .int .i64 y, .slice Ag ng cg, .slice Ao no co] T)) w.heap.size x y Ag ng cg Ao no co :=
 ⟨Zal w _ 0 _ rfl, Zal w _ 1 _ rfl, Zal w _ 2 _ rfl, Zal w _ 3 _ rfl⟩
end
end Go.Proofs.YtnhmfedegfcflaaGreatDoor
