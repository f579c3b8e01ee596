/- Drawn circuits handed on: DrawIsCircuit and its like return some circuit of the call's own, DrawBesideCircuit two. -/
import Derived.Test.YtgenehiiakdadaaQDr1
import Derived.Test.YtgenehiiakdadaaQRowY
namespace Go.Proofs.Ytgenehiiakdadaa
open Go.RowKit
set_option linter.unusedVariables false
set_option linter.unusedSimpArgs false
attribute [local go_sem] sepAt sepUpon pureAt pureUpon

/-- The blocks of a text. -/
def tblk (Y : Option Addr) (n : Nat) : Nat → Prop := fun q => 0 < n ∧ ∃ o, Y = some ⟨q, o, none⟩
theorem Cur.new {w : World} {Y : Option Addr} {n c : Nat} (hY : RY w Y n) : Cur (w.alloc (.cells #[.slice Y n c, .int .i64 0, .int .u64 0] 44)) w.heap.size (tblk Y n) 0 :=
  ⟨Fz.new w _ _, by simp, Y, n, c, 0, 0, box_cell _ _ 0 _ rfl, box_cell _ _ 1 _ rfl, box_cell _ _ 2 _ rfl, Nat.le_refl _, hY.alt (Alt.of_new (S := fun _ => False) ((Below.refl _ _).alloc (Nat.le_refl _) _)) (fun _ _ _ _ h => h), fun hn q o hq => ⟨⟨hn, o, hq⟩, by
    obtain ⟨b, o', h1, h2, _⟩ := hY.2 hn
    rw [hq] at h1; injection h1 with h1; injection h1 with h3 h4; omega⟩⟩
theorem tblk_lt {w : World} {Y : Option Addr} {n : Nat} (hY : RY w Y n) : ∀ i, tblk Y n i → i < w.heap.size := by
  rintro i ⟨hn, o, hq⟩
  obtain ⟨b, o', h1, h2, _⟩ := hY.2 hn
  rw [hq] at h1; injection h1 with h1; injection h1 with h3 h4; omega

/-- A circuit of the call's own is returned. -/
def RetDc (w : World) (e : Ending) (w' : World) : Prop :=
  ∃ (C : Ci) (A : Option Addr) (ca : Nat) (O : Option Addr) (co : Nat), e = .returned (.agg #[.int .i64 C.i0, .int .i64 C.i1, .slice A C.gs.length ca, .slice O C.os.length co]) ∧ OwnC w' w.heap.size w'.heap.size A C.gs.length ca O C.os.length co C.gs C.os ∧ C.gs.length ≤ 310 ∧ C.os.length ≤ 50 ∧ Below w.heap.size w w'
/-- Two of them. -/
def RetDb (w : World) (e : Ending) (w' : World) : Prop :=
  ∃ (C D : Ci) (A : Option Addr) (ca : Nat) (O : Option Addr) (co : Nat) (A2 : Option Addr) (ca2 : Nat) (O2 : Option Addr) (co2 : Nat), e = .returned (.tuple #[.agg #[.int .i64 C.i0, .int .i64 C.i1, .slice A C.gs.length ca, .slice O C.os.length co], .agg #[.int .i64 D.i0, .int .i64 D.i1, .slice A2 D.gs.length ca2, .slice O2 D.os.length co2]]) ∧
    OwnC w' w.heap.size w'.heap.size A C.gs.length ca O C.os.length co C.gs C.os ∧ C.gs.length ≤ 310 ∧ C.os.length ≤ 50 ∧ OwnC w' w.heap.size w'.heap.size A2 D.gs.length ca2 O2 D.os.length co2 D.gs D.os ∧ D.gs.length ≤ 310 ∧ D.os.length ≤ 50 ∧ Below w.heap.size w w'
theorem RetDc.of_ {w a1 : World} {S : Nat → Prop} {x y : Int} {gs : List G3} {os : List Int} {A : Option Addr} {ca : Nat} {O : Option Addr} {co lo : Nat} (k : Alt S w a1) (hS : ∀ i, i < w.heap.size → ¬ S i) (ho : OwnC a1 lo a1.heap.size A gs.length ca O os.length co gs os) (hlo : w.heap.size < lo) (hng : gs.length ≤ 310) (hno : os.length ≤ 50) :
    RetDc w (.returned (.agg #[.int .i64 x, .int .i64 y, .slice A gs.length ca, .slice O os.length co])) ((((a1.setCell ⟨w.heap.size, 0, none⟩ (.int .i64 x)).setCell ⟨w.heap.size, 1, none⟩ (.int .i64 y)).setCell ⟨w.heap.size, 2, none⟩ (.slice A gs.length ca)).setCell ⟨w.heap.size, 3, none⟩ (.slice O os.length co)) := by
  refine ⟨⟨x, y, gs, os⟩, A, ca, O, co, rfl, ?_, hng, hno, below_set4 (k.below_ (Nat.le_refl _) hS) (Nat.le_refl _) _ _ _ _ _ _ _ _⟩
  rw [set4_size]
  exact (ho.set4 (.inl hlo) _ _ _ _ _ _ _ _).lo_ (by omega)

set_option maxRecDepth 100000 in
set_option maxHeartbeats 3000000 in
theorem DrawIsCircuit_any (Y : Option Addr) (n c : Nat) (w : World) (hY : RY w Y n) :
    Calls Try.prog 39 #[.slice Y n c] w (RetDc w) := by
  have hA1 : Below w.heap.size w (w.alloc (.cells #[.int .i64 0, .int .i64 0, .slice none 0 0, .slice none 0 0] 27)) := (Below.refl _ _).alloc (Nat.le_refl _) _
  have hr0 : BxC (w.alloc (.cells #[.int .i64 0, .int .i64 0, .slice none 0 0, .slice none 0 0] 27)) w.heap.size 0 0 none 0 0 none 0 0 := BxC.new w _
  have hs0 : (w.alloc (.cells #[.int .i64 0, .int .i64 0, .slice none 0 0, .slice none 0 0] 27)).heap.size = w.heap.size + 1 := by simp
  have hfz : ∀ q, (w.alloc (.cells #[.int .i64 0, .int .i64 0, .slice none 0 0, .slice none 0 0] 27)).frozen? ⟨w.heap.size, q, none⟩ = false := Fz.new w _ _
  have hY1 := hY.alt (Alt.of_new (S := fun _ => False) hA1) (fun _ _ _ _ h => h)
  have hc0 := Cur.new (c := c) hY1
  have hA2 : Below (w.alloc (.cells #[.int .i64 0, .int .i64 0, .slice none 0 0, .slice none 0 0] 27)).heap.size (w.alloc (.cells #[.int .i64 0, .int .i64 0, .slice none 0 0, .slice none 0 0] 27)) ((w.alloc (.cells #[.int .i64 0, .int .i64 0, .slice none 0 0, .slice none 0 0] 27)).alloc (.cells #[.slice Y n c, .int .i64 0, .int .u64 0] 44)) := (Below.refl _ _).alloc (Nat.le_refl _) _
  have hR : ∀ i, tblk Y n i → i < w.heap.size := tblk_lt hY
  have hs1 : ((w.alloc (.cells #[.int .i64 0, .int .i64 0, .slice none 0 0, .slice none 0 0] 27)).alloc (.cells #[.slice Y n c, .int .i64 0, .int .u64 0] 44)).heap.size = w.heap.size + 2 := by simp
  rw [hs0] at hc0
  have hRb : ¬ tblk Y n (w.heap.size + 1) := fun h => by have := hR _ h; omega
  generalize tblk Y n = R at hc0 hR hRb
  go_enter Try.func39, Try.ntmps39
  go_wp2_with fail
  refine (anyCircuit_any (w.heap.size + 1) R 0 _ hc0 (by omega) (fun i hi => by have := hR i hi; omega) hRb).mono ?_
  rintro e a1 ⟨⟨x, y, gs, os⟩, A, ca, O, co, rfl, ho1, hx, hy, hng, hno, c1, k1⟩
  dsimp only at ho1 hx hy hng hno ⊢
  have hz1' := k1.size
  rw [hs1] at ho1 hz1'
  have kb : Alt (fun i => i = w.heap.size + 1) (w.alloc (.cells #[.int .i64 0, .int .i64 0, .slice none 0 0, .slice none 0 0] 27)) a1 := (Alt.of_new (S := fun i => i = w.heap.size + 1) hA2).trans_ k1 (fun _ _ h => h)
  have kw : Alt (fun i => i = w.heap.size + 1) w a1 := (Alt.of_new (S := fun i => i = w.heap.size + 1) hA1).trans_ kb (fun _ _ h => h)
  have hr9 := hr0.alt kb (by omega)
  have hF := Fz.alt hfz kb (by omega) (by omega)
  have f0 := hF 0; have f1 := hF 1; have f2 := hF 2; have f3 := hF 3
  have hq := hr9; obtain ⟨r0, r1, r2, r3⟩ := hq
  go_wp2
  have hq9 := BxC.set4 (hr9) x y A gs.length ca O os.length co
  obtain ⟨q0, q1, q2, q3⟩ := hq9
  refine bodyPost_ret (v := .agg #[.int .i64 x, .int .i64 y, .slice A gs.length ca, .slice O os.length co]) (by simp [results, Try.results39, go_sem, q0, q1, q2, q3]) rfl ?_
  exact RetDc.of_ kw (fun i hi h => by omega) ho1 (by omega) hng hno

set_option maxRecDepth 100000 in
set_option maxHeartbeats 1000000 in
theorem DrawUsedWires_any (Y : Option Addr) (n c : Nat) (w : World) (hY : RY w Y n) :
    Calls Try.prog 13 #[.slice Y n c] w (RetDc w) := by
  have hA1 : Below w.heap.size w (w.alloc (.cells #[.int .i64 0, .int .i64 0, .slice none 0 0, .slice none 0 0] 27)) := (Below.refl _ _).alloc (Nat.le_refl _) _
  have hr0 : BxC (w.alloc (.cells #[.int .i64 0, .int .i64 0, .slice none 0 0, .slice none 0 0] 27)) w.heap.size 0 0 none 0 0 none 0 0 := BxC.new w _
  have hs0 : (w.alloc (.cells #[.int .i64 0, .int .i64 0, .slice none 0 0, .slice none 0 0] 27)).heap.size = w.heap.size + 1 := by simp
  have hfz : ∀ q, (w.alloc (.cells #[.int .i64 0, .int .i64 0, .slice none 0 0, .slice none 0 0] 27)).frozen? ⟨w.heap.size, q, none⟩ = false := Fz.new w _ _
  have hY1 := hY.alt (Alt.of_new (S := fun _ => False) hA1) (fun _ _ _ _ h => h)
  go_enter Try.func13, Try.ntmps13
  go_wp2_with fail
  refine (DrawIsCircuit_any Y n c _ hY1).mono ?_
  rintro e a1 ⟨⟨x, y, gs, os⟩, A, ca, O, co, rfl, ho1, hng, hno, k1⟩
  dsimp only at ho1 hng hno ⊢
  rw [hs0] at ho1
  have hz1 := k1.size
  have hr9 := hr0.below k1
  have kb := Alt.of_new (S := fun _ => False) k1
  have kw : Alt (fun _ => False) w a1 := (Alt.of_new (S := fun _ => False) hA1).trans_ kb (fun _ _ h => h)
  have hF := Fz.alt hfz kb (by omega) (fun h => h)
  have f0 := hF 0; have f1 := hF 1; have f2 := hF 2; have f3 := hF 3
  have hq := hr9; obtain ⟨r0, r1, r2, r3⟩ := hq
  go_wp2
  have hq9 := BxC.set4 (hr9) x y A gs.length ca O os.length co
  obtain ⟨q0, q1, q2, q3⟩ := hq9
  refine bodyPost_ret (v := .agg #[.int .i64 x, .int .i64 y, .slice A gs.length ca, .slice O os.length co]) (by simp [results, Try.results13, go_sem, q0, q1, q2, q3]) rfl ?_
  exact RetDc.of_ kw (fun i hi h => h) ho1 (by omega) hng hno

set_option maxRecDepth 100000 in
set_option maxHeartbeats 1000000 in
theorem DrawDepthOf_any (Y : Option Addr) (n c : Nat) (w : World) (hY : RY w Y n) :
    Calls Try.prog 18 #[.slice Y n c] w (RetDc w) := by
  have hA1 : Below w.heap.size w (w.alloc (.cells #[.int .i64 0, .int .i64 0, .slice none 0 0, .slice none 0 0] 27)) := (Below.refl _ _).alloc (Nat.le_refl _) _
  have hr0 : BxC (w.alloc (.cells #[.int .i64 0, .int .i64 0, .slice none 0 0, .slice none 0 0] 27)) w.heap.size 0 0 none 0 0 none 0 0 := BxC.new w _
  have hs0 : (w.alloc (.cells #[.int .i64 0, .int .i64 0, .slice none 0 0, .slice none 0 0] 27)).heap.size = w.heap.size + 1 := by simp
  have hfz : ∀ q, (w.alloc (.cells #[.int .i64 0, .int .i64 0, .slice none 0 0, .slice none 0 0] 27)).frozen? ⟨w.heap.size, q, none⟩ = false := Fz.new w _ _
  have hY1 := hY.alt (Alt.of_new (S := fun _ => False) hA1) (fun _ _ _ _ h => h)
  go_enter Try.func18, Try.ntmps18
  go_wp2_with fail
  refine (DrawIsCircuit_any Y n c _ hY1).mono ?_
  rintro e a1 ⟨⟨x, y, gs, os⟩, A, ca, O, co, rfl, ho1, hng, hno, k1⟩
  dsimp only at ho1 hng hno ⊢
  rw [hs0] at ho1
  have hz1 := k1.size
  have hr9 := hr0.below k1
  have kb := Alt.of_new (S := fun _ => False) k1
  have kw : Alt (fun _ => False) w a1 := (Alt.of_new (S := fun _ => False) hA1).trans_ kb (fun _ _ h => h)
  have hF := Fz.alt hfz kb (by omega) (fun h => h)
  have f0 := hF 0; have f1 := hF 1; have f2 := hF 2; have f3 := hF 3
  have hq := hr9; obtain ⟨r0, r1, r2, r3⟩ := hq
  go_wp2
  have hq9 := BxC.set4 (hr9) x y A gs.length ca O os.length co
  obtain ⟨q0, q1, q2, q3⟩ := hq9
  refine bodyPost_ret (v := .agg #[.int .i64 x, .int .i64 y, .slice A gs.length ca, .slice O os.length co]) (by simp [results, Try.results18, go_sem, q0, q1, q2, q3]) rfl ?_
  exact RetDc.of_ kw (fun i hi h => h) ho1 (by omega) hng hno

set_option maxRecDepth 100000 in
set_option maxHeartbeats 1000000 in
theorem DrawCountGates_any (Y : Option Addr) (n c : Nat) (w : World) (hY : RY w Y n) :
    Calls Try.prog 19 #[.slice Y n c] w (RetDc w) := by
  have hA1 : Below w.heap.size w (w.alloc (.cells #[.int .i64 0, .int .i64 0, .slice none 0 0, .slice none 0 0] 27)) := (Below.refl _ _).alloc (Nat.le_refl _) _
  have hr0 : BxC (w.alloc (.cells #[.int .i64 0, .int .i64 0, .slice none 0 0, .slice none 0 0] 27)) w.heap.size 0 0 none 0 0 none 0 0 := BxC.new w _
  have hs0 : (w.alloc (.cells #[.int .i64 0, .int .i64 0, .slice none 0 0, .slice none 0 0] 27)).heap.size = w.heap.size + 1 := by simp
  have hfz : ∀ q, (w.alloc (.cells #[.int .i64 0, .int .i64 0, .slice none 0 0, .slice none 0 0] 27)).frozen? ⟨w.heap.size, q, none⟩ = false := Fz.new w _ _
  have hY1 := hY.alt (Alt.of_new (S := fun _ => False) hA1) (fun _ _ _ _ h => h)
  go_enter Try.func19, Try.ntmps19
  go_wp2_with fail
  refine (DrawIsCircuit_any Y n c _ hY1).mono ?_
  rintro e a1 ⟨⟨x, y, gs, os⟩, A, ca, O, co, rfl, ho1, hng, hno, k1⟩
  dsimp only at ho1 hng hno ⊢
  rw [hs0] at ho1
  have hz1 := k1.size
  have hr9 := hr0.below k1
  have kb := Alt.of_new (S := fun _ => False) k1
  have kw : Alt (fun _ => False) w a1 := (Alt.of_new (S := fun _ => False) hA1).trans_ kb (fun _ _ h => h)
  have hF := Fz.alt hfz kb (by omega) (fun h => h)
  have f0 := hF 0; have f1 := hF 1; have f2 := hF 2; have f3 := hF 3
  have hq := hr9; obtain ⟨r0, r1, r2, r3⟩ := hq
  go_wp2
  have hq9 := BxC.set4 (hr9) x y A gs.length ca O os.length co
  obtain ⟨q0, q1, q2, q3⟩ := hq9
  refine bodyPost_ret (v := .agg #[.int .i64 x, .int .i64 y, .slice A gs.length ca, .slice O os.length co]) (by simp [results, Try.results19, go_sem, q0, q1, q2, q3]) rfl ?_
  exact RetDc.of_ kw (fun i hi h => h) ho1 (by omega) hng hno

set_option maxRecDepth 100000 in
set_option maxHeartbeats 3000000 in
theorem DrawBesideCircuit_any (Y : Option Addr) (n c : Nat) (w : World) (hY : RY w Y n) :
    Calls Try.prog 5 #[.slice Y n c] w (RetDb w) := by
  have hA1 : Below w.heap.size w ((w.alloc (.cells #[.int .i64 0, .int .i64 0, .slice none 0 0, .slice none 0 0] 27)).alloc (.cells #[.int .i64 0, .int .i64 0, .slice none 0 0, .slice none 0 0] 27)) := ((Below.refl _ _).alloc (Nat.le_refl _) _).alloc (by simp) _
  have al1 : Below (w.alloc (.cells #[.int .i64 0, .int .i64 0, .slice none 0 0, .slice none 0 0] 27)).heap.size (w.alloc (.cells #[.int .i64 0, .int .i64 0, .slice none 0 0, .slice none 0 0] 27)) ((w.alloc (.cells #[.int .i64 0, .int .i64 0, .slice none 0 0, .slice none 0 0] 27)).alloc (.cells #[.int .i64 0, .int .i64 0, .slice none 0 0, .slice none 0 0] 27)) := (Below.refl _ _).alloc (Nat.le_refl _) _
  have hr0 : BxC ((w.alloc (.cells #[.int .i64 0, .int .i64 0, .slice none 0 0, .slice none 0 0] 27)).alloc (.cells #[.int .i64 0, .int .i64 0, .slice none 0 0, .slice none 0 0] 27)) w.heap.size 0 0 none 0 0 none 0 0 := (BxC.new w _).below al1
  have hr1 : BxC ((w.alloc (.cells #[.int .i64 0, .int .i64 0, .slice none 0 0, .slice none 0 0] 27)).alloc (.cells #[.int .i64 0, .int .i64 0, .slice none 0 0, .slice none 0 0] 27)) (w.heap.size + 1) 0 0 none 0 0 none 0 0 := by simpa using BxC.new (x := 0) (y := 0) (Ag := none) (ng := 0) (cg := 0) (Ao := none) (no := 0) (co := 0) (w.alloc (.cells #[.int .i64 0, .int .i64 0, .slice none 0 0, .slice none 0 0] 27)) 27
  have hs0 : ((w.alloc (.cells #[.int .i64 0, .int .i64 0, .slice none 0 0, .slice none 0 0] 27)).alloc (.cells #[.int .i64 0, .int .i64 0, .slice none 0 0, .slice none 0 0] 27)).heap.size = w.heap.size + 2 := by simp
  have hfz : Fz ((w.alloc (.cells #[.int .i64 0, .int .i64 0, .slice none 0 0, .slice none 0 0] 27)).alloc (.cells #[.int .i64 0, .int .i64 0, .slice none 0 0, .slice none 0 0] 27)) w.heap.size := Fz.below (Fz.new w _ _) al1 (by simp)
  have hfz1 : Fz ((w.alloc (.cells #[.int .i64 0, .int .i64 0, .slice none 0 0, .slice none 0 0] 27)).alloc (.cells #[.int .i64 0, .int .i64 0, .slice none 0 0, .slice none 0 0] 27)) (w.heap.size + 1) := by simpa using Fz.new (w.alloc (.cells #[.int .i64 0, .int .i64 0, .slice none 0 0, .slice none 0 0] 27)) #[.int .i64 0, .int .i64 0, .slice none 0 0, .slice none 0 0] 27
  have hY1 := hY.alt (Alt.of_new (S := fun _ => False) hA1) (fun _ _ _ _ h => h)
  have hc0 := Cur.new (c := c) hY1
  have hA2 : Below ((w.alloc (.cells #[.int .i64 0, .int .i64 0, .slice none 0 0, .slice none 0 0] 27)).alloc (.cells #[.int .i64 0, .int .i64 0, .slice none 0 0, .slice none 0 0] 27)).heap.size ((w.alloc (.cells #[.int .i64 0, .int .i64 0, .slice none 0 0, .slice none 0 0] 27)).alloc (.cells #[.int .i64 0, .int .i64 0, .slice none 0 0, .slice none 0 0] 27)) (((w.alloc (.cells #[.int .i64 0, .int .i64 0, .slice none 0 0, .slice none 0 0] 27)).alloc (.cells #[.int .i64 0, .int .i64 0, .slice none 0 0, .slice none 0 0] 27)).alloc (.cells #[.slice Y n c, .int .i64 0, .int .u64 0] 44)) := (Below.refl _ _).alloc (Nat.le_refl _) _
  have hR : ∀ i, tblk Y n i → i < w.heap.size := tblk_lt hY
  have hs1 : (((w.alloc (.cells #[.int .i64 0, .int .i64 0, .slice none 0 0, .slice none 0 0] 27)).alloc (.cells #[.int .i64 0, .int .i64 0, .slice none 0 0, .slice none 0 0] 27)).alloc (.cells #[.slice Y n c, .int .i64 0, .int .u64 0] 44)).heap.size = w.heap.size + 3 := by simp
  rw [hs0] at hc0
  have hRb : ¬ tblk Y n (w.heap.size + 2) := fun h => by have := hR _ h; omega
  generalize tblk Y n = R at hc0 hR hRb
  go_enter Try.func5, Try.ntmps5
  go_wp2_with fail
  refine (anyCircuit_any (w.heap.size + 2) R 0 _ hc0 (by omega) (fun i hi => by have := hR i hi; omega) hRb).mono ?_
  rintro e a1 ⟨⟨x, y, gs, os⟩, A, ca, O, co, rfl, ho1, hx, hy, hng, hno, c1, k1⟩
  dsimp only at ho1 hx hy hng hno ⊢
  have hz1 := k1.size
  rw [hs1] at ho1 hz1
  have kb : Alt (fun i => i = w.heap.size + 2) ((w.alloc (.cells #[.int .i64 0, .int .i64 0, .slice none 0 0, .slice none 0 0] 27)).alloc (.cells #[.int .i64 0, .int .i64 0, .slice none 0 0, .slice none 0 0] 27)) a1 := (Alt.of_new (S := fun i => i = w.heap.size + 2) hA2).trans_ k1 (fun _ _ h => h)
  go_wp2_with fail
  refine (anyCircuit_any (w.heap.size + 2) R (0 + 2000) _ c1 (by omega) (fun i hi => by have := hR i hi; omega) hRb).mono ?_
  rintro e a3 ⟨⟨u, v, hs, ps⟩, A2, ca2, O2, co2, rfl, ho3, hu, hv, hmg, hmo, c3, k3⟩
  dsimp only at ho3 hu hv hmg hmo ⊢
  have hz3 := k3.size
  have kc := kb.trans_ k3 (fun _ _ h => h)
  have kw : Alt (fun i => i = w.heap.size + 2) w a3 := (Alt.of_new (S := fun i => i = w.heap.size + 2) hA1).trans_ kc (fun _ _ h => h)
  have hr8 := hr0.alt kc (by omega)
  have hr9 := hr1.alt kc (by omega)
  have hF := Fz.alt hfz kc (by omega) (by omega)
  have hF1 := Fz.alt hfz1 kc (by omega) (by omega)
  have p1 : OwnC a3 (w.heap.size + 3) a3.heap.size A gs.length ca O os.length co gs os := ⟨(ho1.1.alt k3 (fun q hq h => by have := ho1.1.lt q hq; omega)).now, (ho1.2.1.alt k3 (fun q hq h => by have := ho1.2.1.lt q hq; omega)).now, ho1.2.2⟩
  have p2 := ho3.lo_ (show w.heap.size + 3 ≤ a1.heap.size by omega)
  have f0 := hF 0; have f1 := hF 1; have f2 := hF 2; have f3 := hF 3
  have j0 := hF1 0; have j1 := hF1 1; have j2 := hF1 2; have j3 := hF1 3
  have hq := hr8; obtain ⟨r0, r1, r2, r3⟩ := hq
  have hq := hr9; obtain ⟨s0, s1, s2, s3⟩ := hq
  clear c1 c3 k1 k3 kb hc0 hA2 hY1 ho1 ho3
  go_wp2
  have t1 := BxC.set4 hr8 x y A gs.length ca O os.length co
  have kq : Alt (fun i => i = w.heap.size) a3 ((((a3.setCell ⟨w.heap.size, 0, none⟩ (.int .i64 x)).setCell ⟨w.heap.size, 1, none⟩ (.int .i64 y)).setCell ⟨w.heap.size, 2, none⟩ (.slice A gs.length ca)).setCell ⟨w.heap.size, 3, none⟩ (.slice O os.length co)) := alt_set4 (Alt.refl_ (fun i => i = w.heap.size) a3) (fun _ => rfl) x y A gs.length ca O os.length co
  have t2 := BxC.set4 (hr9.alt kq (by omega)) u v A2 hs.length ca2 O2 ps.length co2
  have t3 := t1.alt (alt_set4 (Alt.refl_ (fun i => i = w.heap.size + 1) ((((a3.setCell ⟨w.heap.size, 0, none⟩ (.int .i64 x)).setCell ⟨w.heap.size, 1, none⟩ (.int .i64 y)).setCell ⟨w.heap.size, 2, none⟩ (.slice A gs.length ca)).setCell ⟨w.heap.size, 3, none⟩ (.slice O os.length co))) (fun _ => rfl) u v A2 hs.length ca2 O2 ps.length co2) (by omega)
  obtain ⟨q0, q1, q2, q3⟩ := t3
  obtain ⟨m0, m1, m2, m3⟩ := t2
  refine bodyPost_ret (v := .tuple #[.agg #[.int .i64 x, .int .i64 y, .slice A gs.length ca, .slice O os.length co], .agg #[.int .i64 u, .int .i64 v, .slice A2 hs.length ca2, .slice O2 ps.length co2]]) (by simp [results, Try.results5, go_sem, q0, q1, q2, q3, m0, m1, m2, m3]) rfl ?_
  refine ⟨⟨x, y, gs, os⟩, ⟨u, v, hs, ps⟩, A, ca, O, co, A2, ca2, O2, co2, rfl, ?_, hng, hno, ?_, hmg, hmo, below_set4 (below_set4 (kw.below_ (Nat.le_refl _) (fun i hi h => by omega)) (Nat.le_refl _) _ _ _ _ _ _ _ _) (by omega) _ _ _ _ _ _ _ _⟩
  · rw [set4_size, set4_size]
    exact ((p1.set4 (.inl (by omega)) _ _ _ _ _ _ _ _).set4 (.inl (by omega)) _ _ _ _ _ _ _ _).lo_ (by omega)
  · rw [set4_size, set4_size]
    exact ((p2.set4 (.inl (by omega)) _ _ _ _ _ _ _ _).set4 (.inl (by omega)) _ _ _ _ _ _ _ _).lo_ (by omega)

end Go.Proofs.Ytgenehiiakdadaa
