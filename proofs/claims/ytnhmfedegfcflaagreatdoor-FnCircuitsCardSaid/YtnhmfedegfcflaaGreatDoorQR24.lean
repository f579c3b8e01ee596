/- The laws' words big, pSameCircuit, pSum, pIn. -/
import Derived.Test.YtnhmfedegfcflaaGreatDoorQR16
namespace Go.Proofs.YtnhmfedegfcflaaGreatDoor
open Go.RowKit
set_option linter.unusedVariables false
set_option linter.unusedSimpArgs false
def bigB (n m : Nat) : Bool := decide (1048576 < n + m)
theorem big_any (Y Z : Option Addr) (n c m d : Nat) (w : World) (hn : n ≤ 140737488355328) (hm : m ≤ 140737488355328) :
 Calls Tryz.prog 4 #[.slice Y n c, .slice Z m d] w fun e w' => e = .returned (.bool (bigB n m)) ∧ w = w' := by
 by_cases h1 : 1048576 < n
 ·have h2 : (1048576 : Int) < (n : Int) := by omega
  have HR : Hid (bigB n m = true) := zH (by unfold bigB; exact decide_eq_true (by omega))
  go_enter Tryz.func4, Tryz.ntmps4
  go_wp2
  go_ret
  exact ⟨by rw [HR.out]; rfl, rfl⟩
 ·have h2 : ¬ (1048576 : Int) < (n : Int) := by omega
  have hw : IntKind.i64.wrap (1048576 - (n : Int)) = 1048576 - (n : Int) := by rw [IntKind.wrap_i64] <;> omega
  by_cases h3 : (1048576 : Int) - n < m
  ·have HR : Hid (bigB n m = true) := zH (by unfold bigB; exact decide_eq_true (by omega))
   go_enter Tryz.func4, Tryz.ntmps4
   go_wp2
   go_ret
   exact ⟨by rw [HR.out]; simp [h3], rfl⟩
  ·have HR : Hid (bigB n m = false) := zH (by unfold bigB; exact decide_eq_false (by omega))
   go_enter Tryz.func4, Tryz.ntmps4
   go_wp2
   go_ret
   exact ⟨by rw [HR.out]; first | (simp; done) | (simp; omega), rfl⟩
theorem sameB_refl' (xs : List Int) : sameB xs xs = true := sameB_all rfl fun _ _ => rfl
set_option maxRecDepth 100000 in
set_option maxHeartbeats 2000000 in
theorem pSameCircuit_any (x y : Int) (Ag Bg : Option Addr) (ng cg dg : Nat) (Ao Bo : Option Addr) (no co do_ : Nat) (gs : List G3) (os : List Int) (w : World) (hr : RG w Ag ng gs ∧ RI w Ao no os) (hs : RG w Bg ng gs ∧ RI w Bo no os) (hng : ng ≤ 2097152) (hno : no ≤ 2097152) :
 Calls Tryz.prog 16 #[.agg #[.int .i64 x, .int .i64 y, .slice Ag ng cg, .slice Ao no co], .agg #[.int .i64 x, .int .i64 y, .slice Bg ng dg, .slice Bo no do_]] w fun e w' => e = .returned (.bool true) ∧ Below w.heap.size w w' := by
 have hB : Below w.heap.size w ((w.alloc (.cells #[.int .i64 x, .int .i64 y, .slice Ag ng cg, .slice Ao no co] 27)).alloc (.cells #[.int .i64 x, .int .i64 y, .slice Bg ng dg, .slice Bo no do_] 27)) := (bA).alloc (by simp) _
 have al1 : Below (w.alloc (.cells #[.int .i64 x, .int .i64 y, .slice Ag ng cg, .slice Ao no co] 27)).heap.size (w.alloc (.cells #[.int .i64 x, .int .i64 y, .slice Ag ng cg, .slice Ao no co] 27)) ((w.alloc (.cells #[.int .i64 x, .int .i64 y, .slice Ag ng cg, .slice Ao no co] 27)).alloc (.cells #[.int .i64 x, .int .i64 y, .slice Bg ng dg, .slice Bo no do_] 27)) := bA
 have p0 : BxC ((w.alloc (.cells #[.int .i64 x, .int .i64 y, .slice Ag ng cg, .slice Ao no co] 27)).alloc (.cells #[.int .i64 x, .int .i64 y, .slice Bg ng dg, .slice Bo no do_] 27)) w.heap.size x y Ag ng cg Ao no co := (BxC.new w _).below al1
 have p1 : BxC ((w.alloc (.cells #[.int .i64 x, .int .i64 y, .slice Ag ng cg, .slice Ao no co] 27)).alloc (.cells #[.int .i64 x, .int .i64 y, .slice Bg ng dg, .slice Bo no do_] 27)) (w.heap.size + 1) x y Bg ng dg Bo no do_ := by simpa using BxC.new (x := x) (y := y) (Ag := Bg) (ng := ng) (cg := dg) (Ao := Bo) (no := no) (co := do_) (w.alloc (.cells #[.int .i64 x, .int .i64 y, .slice Ag ng cg, .slice Ao no co] 27)) 27
 have n1 : (x != x) = false := by simp
 have n2 : (y != y) = false := by simp
 have n3 : ((ng : Int) != ng) = false := by simp
 have hq := p0; obtain ⟨k0, k1, k2, k3⟩ := hq
 have hq := p1; obtain ⟨m0, m1, m2, m3⟩ := hq
 go_enter Tryz.func16, Tryz.ntmps16
 go_wp2_with fail
 refine (sameInts_any Ao Bo no co no do_ os os _ (hr.2.below hB lR) (hs.2.below hB lR) hno hno).mono ?_
 rintro e a1 ⟨rfl, j, rfl⟩
 rw [sameB_refl']
 have hB1 := Zas hB j
 have q0 : BxC (((w.alloc (.cells #[.int .i64 x, .int .i64 y, .slice Ag ng cg, .slice Ao no co] 27)).alloc (.cells #[.int .i64 x, .int .i64 y, .slice Bg ng dg, .slice Bo no do_] 27)).drewN j) w.heap.size x y Ag ng cg Ao no co := p0
 have q1 : BxC (((w.alloc (.cells #[.int .i64 x, .int .i64 y, .slice Ag ng cg, .slice Ao no co] 27)).alloc (.cells #[.int .i64 x, .int .i64 y, .slice Bg ng dg, .slice Bo no do_] 27)).drewN j) (w.heap.size + 1) x y Bg ng dg Bo no do_ := p1
 clear k0 k1 k2 k3 m0 m1 m2 m3 p0 p1 al1 hB
 generalize ((w.alloc (.cells #[.int .i64 x, .int .i64 y, .slice Ag ng cg, .slice Ao no co] 27)).alloc (.cells #[.int .i64 x, .int .i64 y, .slice Bg ng dg, .slice Bo no do_] 27)).drewN j = a1 at *
 have hq := q0; obtain ⟨k0, k1, k2, k3⟩ := hq
 have hq := q1; obtain ⟨m0, m1, m2, m3⟩ := hq
 go_wp2
 clear k0 k1 k2 k3 m0 m1 m2 m3
 go_loopw [38] (fun i wr => ∃ k j : Nat, k ≤ ng ∧ i = .int .i64 k ∧ wr = a1.drewN j) (fun i _ => ng - (intOf i).toNat)
 case atStart => exact ⟨0, 0, Nat.zero_le _, rfl, rfl⟩
 case round =>
  obtain ⟨k, j, hk, rfl, rfl⟩ := hrel
  have hB2 := Zas hB1 j
  obtain ⟨k0, k1, k2, k3⟩ := q0
  obtain ⟨m0, m1, m2, m3⟩ := q1
  by_cases hlt : k < ng
  ·obtain ⟨kb, ob, rfl, hkb, d1, d2, d3⟩ := (hr.1.below hB1 lR).at_ hlt
   obtain ⟨kc, oc, rfl, hkc, f1, f2, f3⟩ := (hs.1.below hB1 lR).at_ hlt
   generalize gg gs k = GG at *
   go_wp2_with fail
   go_quiet (fail)
   clear k0 k1 k2 k3 m0 m1 m2 m3
   go_wp2
   go_roundw
   case rel => exact ⟨k + 1, _, by omega, by go_num, by first | rfl | exact World.drewN_drewN _ _ _⟩
   case measure => simp [intOf]; omega
  ·obtain rfl : ng = k := Nat.le_antisymm (Nat.le_of_not_lt hlt) hk
   go_wp2
   go_ret
   exact ⟨rfl, hB2⟩
end Go.Proofs.YtnhmfedegfcflaaGreatDoor
