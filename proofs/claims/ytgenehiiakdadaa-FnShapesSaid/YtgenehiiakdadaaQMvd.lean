/- Contracts: a circuit that is valid or not; gates moved by a closure. -/
import Derived.Test.YtgenehiiakdadaaQGd
import Derived.Test.YtgenehiiakdadaaQNum
import Derived.Deep.RegionLaw
namespace Go.Proofs.Ytgenehiiakdadaa
open Go.RowKit
set_option linter.unusedVariables false
set_option linter.unusedSimpArgs false

theorem valid_f (x y : Int) (Ag : Option Addr) (ng cg : Nat) (Ao : Option Addr) (no co : Nat) (gs : List G3) (os : List Int) (w : World) (hg : RG w Ag ng gs) (ho : RI w Ao no os) (hng : ng ≤ 2097152) (hno : no ≤ 2097152) (hv : circB x y gs os = false) :
    Calls Try.prog 28 #[.agg #[.int .i64 x, .int .i64 y, .slice Ag ng cg, .slice Ao no co]] w fun e w' => e = .returned (.tuple #[.agg #[.int .i64 0, .int .i64 0, .slice none 0 0, .slice none 0 0], .bool false]) ∧ Below w.heap.size w w' := by
  have H0 := Lib.hid hv; clear hv
  have hB1 : Below w.heap.size w (w.alloc (.cells #[.int .i64 x, .int .i64 y, .slice Ag ng cg, .slice Ao no co] 27)) := (Below.refl _ _).alloc (Nat.le_refl _) _
  have hB : Below w.heap.size w ((w.alloc (.cells #[.int .i64 x, .int .i64 y, .slice Ag ng cg, .slice Ao no co] 27)).alloc (.cells #[.int .i64 0, .int .i64 0, .slice none 0 0, .slice none 0 0] 27)) := hB1.alloc (by simp) _
  have hx0 : BxC ((w.alloc (.cells #[.int .i64 x, .int .i64 y, .slice Ag ng cg, .slice Ao no co] 27)).alloc (.cells #[.int .i64 0, .int .i64 0, .slice none 0 0, .slice none 0 0] 27)) w.heap.size x y Ag ng cg Ao no co := (BxC.new w _).below ((Below.refl _ _).alloc (Nat.le_refl _) _)
  have hr0 : BxC ((w.alloc (.cells #[.int .i64 x, .int .i64 y, .slice Ag ng cg, .slice Ao no co] 27)).alloc (.cells #[.int .i64 0, .int .i64 0, .slice none 0 0, .slice none 0 0] 27)) (w.heap.size + 1) 0 0 none 0 0 none 0 0 := by simpa using BxC.new (x := 0) (y := 0) (Ag := none) (ng := 0) (cg := 0) (Ao := none) (no := 0) (co := 0) (w.alloc (.cells #[.int .i64 x, .int .i64 y, .slice Ag ng cg, .slice Ao no co] 27)) 27
  have f0 : Fz ((w.alloc (.cells #[.int .i64 x, .int .i64 y, .slice Ag ng cg, .slice Ao no co] 27)).alloc (.cells #[.int .i64 0, .int .i64 0, .slice none 0 0, .slice none 0 0] 27)) (w.heap.size + 1) := by simpa using Fz.new (w.alloc (.cells #[.int .i64 x, .int .i64 y, .slice Ag ng cg, .slice Ao no co] 27)) #[.int .i64 0, .int .i64 0, .slice none 0 0, .slice none 0 0] 27
  go_enter Try.func28, Try.ntmps28
  have hq := hx0; obtain ⟨k0, k1, k2, k3⟩ := hq
  go_wp2_with fail
  refine (IsCircuit_any x y Ag ng cg Ao no co gs os _ (hg.below hB (Nat.le_refl _)) (ho.below hB (Nat.le_refl _)) hng hno).mono ?_
  rintro e v1 ⟨rfl, hb1⟩
  rw [H0.out]
  have hx1 := hx0.below hb1
  clear k0 k1 k2 k3
  obtain ⟨k0, k1, k2, k3⟩ := hx1
  have hr1 := hr0.below hb1
  have f1 := f0.below hb1 (by simp)
  have hq := hr1; obtain ⟨r0, r1, r2, r3⟩ := hq
  have g0 := f1 0; have g1 := f1 1; have g2 := f1 2; have g3 := f1 3
  have hB2 := hB.trans (hb1.mono hB.size)
  go_wp2
  have hq9 := BxC.set4 (hr1) 0 0 none 0 0 none 0 0
  obtain ⟨q0, q1, q2, q3⟩ := hq9
  refine bodyPost_ret (v := .tuple #[.agg #[.int .i64 0, .int .i64 0, .slice none 0 0, .slice none 0 0], .bool false]) (by simp [results, Try.results28, go_sem, q0, q1, q2, q3]) rfl ?_
  exact ⟨rfl, below_set4 hB2 (by omega) _ _ _ _ _ _ _ _⟩

theorem ciIf_f (x y : Int) (Ag : Option Addr) (ng cg : Nat) (Ao : Option Addr) (no co : Nat) (gs : List G3) (os : List Int) (w : World) (hg : RG w Ag ng gs) (ho : RI w Ao no os) (hng : ng ≤ 2097152) (hno : no ≤ 2097152) (hv : circB x y gs os = false) :
    Calls Try.prog 32 #[.agg #[.int .i64 x, .int .i64 y, .slice Ag ng cg, .slice Ao no co]] w fun e w' => e = .returned (.tuple #[.agg #[.int .i64 0, .int .i64 0, .slice none 0 0, .slice none 0 0], .bool false]) ∧ Below w.heap.size w w' := by
  have H0 := Lib.hid hv; clear hv
  have hB1 : Below w.heap.size w (w.alloc (.cells #[.int .i64 x, .int .i64 y, .slice Ag ng cg, .slice Ao no co] 27)) := (Below.refl _ _).alloc (Nat.le_refl _) _
  have hB : Below w.heap.size w ((w.alloc (.cells #[.int .i64 x, .int .i64 y, .slice Ag ng cg, .slice Ao no co] 27)).alloc (.cells #[.int .i64 0, .int .i64 0, .slice none 0 0, .slice none 0 0] 27)) := hB1.alloc (by simp) _
  have hx0 : BxC ((w.alloc (.cells #[.int .i64 x, .int .i64 y, .slice Ag ng cg, .slice Ao no co] 27)).alloc (.cells #[.int .i64 0, .int .i64 0, .slice none 0 0, .slice none 0 0] 27)) w.heap.size x y Ag ng cg Ao no co := (BxC.new w _).below ((Below.refl _ _).alloc (Nat.le_refl _) _)
  have hr0 : BxC ((w.alloc (.cells #[.int .i64 x, .int .i64 y, .slice Ag ng cg, .slice Ao no co] 27)).alloc (.cells #[.int .i64 0, .int .i64 0, .slice none 0 0, .slice none 0 0] 27)) (w.heap.size + 1) 0 0 none 0 0 none 0 0 := by simpa using BxC.new (x := 0) (y := 0) (Ag := none) (ng := 0) (cg := 0) (Ao := none) (no := 0) (co := 0) (w.alloc (.cells #[.int .i64 x, .int .i64 y, .slice Ag ng cg, .slice Ao no co] 27)) 27
  have f0 : Fz ((w.alloc (.cells #[.int .i64 x, .int .i64 y, .slice Ag ng cg, .slice Ao no co] 27)).alloc (.cells #[.int .i64 0, .int .i64 0, .slice none 0 0, .slice none 0 0] 27)) (w.heap.size + 1) := by simpa using Fz.new (w.alloc (.cells #[.int .i64 x, .int .i64 y, .slice Ag ng cg, .slice Ao no co] 27)) #[.int .i64 0, .int .i64 0, .slice none 0 0, .slice none 0 0] 27
  go_enter Try.func32, Try.ntmps32
  have hq := hx0; obtain ⟨k0, k1, k2, k3⟩ := hq
  go_wp2_with fail
  refine (ciGood_any x y Ag ng cg Ao no co gs os _ (hg.below hB (Nat.le_refl _)) (ho.below hB (Nat.le_refl _)) hng hno).mono ?_
  rintro e v1 ⟨rfl, hb1⟩
  rw [H0.out]
  have hx1 := hx0.below hb1
  clear k0 k1 k2 k3
  obtain ⟨k0, k1, k2, k3⟩ := hx1
  have hr1 := hr0.below hb1
  have f1 := f0.below hb1 (by simp)
  have hq := hr1; obtain ⟨r0, r1, r2, r3⟩ := hq
  have g0 := f1 0; have g1 := f1 1; have g2 := f1 2; have g3 := f1 3
  have hB2 := hB.trans (hb1.mono hB.size)
  go_wp2
  have hq9 := BxC.set4 (hr1) 0 0 none 0 0 none 0 0
  obtain ⟨q0, q1, q2, q3⟩ := hq9
  refine bodyPost_ret (v := .tuple #[.agg #[.int .i64 0, .int .i64 0, .slice none 0 0, .slice none 0 0], .bool false]) (by simp [results, Try.results32, go_sem, q0, q1, q2, q3]) rfl ?_
  exact ⟨rfl, below_set4 hB2 (by omega) _ _ _ _ _ _ _ _⟩

theorem ciIf_t (x y : Int) (Ag : Option Addr) (ng cg : Nat) (Ao : Option Addr) (no co : Nat) (gs : List G3) (os : List Int) (w : World) (hg : RG w Ag ng gs) (ho : RI w Ao no os) (hng : ng ≤ 2097152) (hno : no ≤ 2097152) (hv : circB x y gs os = true) :
    Calls Try.prog 32 #[.agg #[.int .i64 x, .int .i64 y, .slice Ag ng cg, .slice Ao no co]] w fun e w' => e = .returned (.tuple #[.agg #[.int .i64 x, .int .i64 y, .slice Ag ng cg, .slice Ao no co], .bool true]) ∧ Below w.heap.size w w' := by
  have H0 := Lib.hid hv; clear hv
  have hB1 : Below w.heap.size w (w.alloc (.cells #[.int .i64 x, .int .i64 y, .slice Ag ng cg, .slice Ao no co] 27)) := (Below.refl _ _).alloc (Nat.le_refl _) _
  have hB : Below w.heap.size w ((w.alloc (.cells #[.int .i64 x, .int .i64 y, .slice Ag ng cg, .slice Ao no co] 27)).alloc (.cells #[.int .i64 0, .int .i64 0, .slice none 0 0, .slice none 0 0] 27)) := hB1.alloc (by simp) _
  have hx0 : BxC ((w.alloc (.cells #[.int .i64 x, .int .i64 y, .slice Ag ng cg, .slice Ao no co] 27)).alloc (.cells #[.int .i64 0, .int .i64 0, .slice none 0 0, .slice none 0 0] 27)) w.heap.size x y Ag ng cg Ao no co := (BxC.new w _).below ((Below.refl _ _).alloc (Nat.le_refl _) _)
  have hr0 : BxC ((w.alloc (.cells #[.int .i64 x, .int .i64 y, .slice Ag ng cg, .slice Ao no co] 27)).alloc (.cells #[.int .i64 0, .int .i64 0, .slice none 0 0, .slice none 0 0] 27)) (w.heap.size + 1) 0 0 none 0 0 none 0 0 := by simpa using BxC.new (x := 0) (y := 0) (Ag := none) (ng := 0) (cg := 0) (Ao := none) (no := 0) (co := 0) (w.alloc (.cells #[.int .i64 x, .int .i64 y, .slice Ag ng cg, .slice Ao no co] 27)) 27
  have f0 : Fz ((w.alloc (.cells #[.int .i64 x, .int .i64 y, .slice Ag ng cg, .slice Ao no co] 27)).alloc (.cells #[.int .i64 0, .int .i64 0, .slice none 0 0, .slice none 0 0] 27)) (w.heap.size + 1) := by simpa using Fz.new (w.alloc (.cells #[.int .i64 x, .int .i64 y, .slice Ag ng cg, .slice Ao no co] 27)) #[.int .i64 0, .int .i64 0, .slice none 0 0, .slice none 0 0] 27
  go_enter Try.func32, Try.ntmps32
  have hq := hx0; obtain ⟨k0, k1, k2, k3⟩ := hq
  go_wp2_with fail
  refine (ciGood_any x y Ag ng cg Ao no co gs os _ (hg.below hB (Nat.le_refl _)) (ho.below hB (Nat.le_refl _)) hng hno).mono ?_
  rintro e v1 ⟨rfl, hb1⟩
  rw [H0.out]
  have hx1 := hx0.below hb1
  clear k0 k1 k2 k3
  obtain ⟨k0, k1, k2, k3⟩ := hx1
  have hr1 := hr0.below hb1
  have f1 := f0.below hb1 (by simp)
  have hq := hr1; obtain ⟨r0, r1, r2, r3⟩ := hq
  have g0 := f1 0; have g1 := f1 1; have g2 := f1 2; have g3 := f1 3
  have hB2 := hB.trans (hb1.mono hB.size)
  go_wp2
  have hq9 := BxC.set4 (hr1) x y Ag ng cg Ao no co
  obtain ⟨q0, q1, q2, q3⟩ := hq9
  refine bodyPost_ret (v := .tuple #[.agg #[.int .i64 x, .int .i64 y, .slice Ag ng cg, .slice Ao no co], .bool true]) (by simp [results, Try.results32, go_sem, q0, q1, q2, q3]) rfl ?_
  exact ⟨rfl, below_set4 hB2 (by omega) _ _ _ _ _ _ _ _⟩

/-- The box b holds this gate. -/
def BxG (w : World) (b : Nat) (k a c : Int) : Prop := w.cell? ⟨b, 0, none⟩ = some (.int .i64 k) ∧ w.cell? ⟨b, 1, none⟩ = some (.int .i64 a) ∧ w.cell? ⟨b, 2, none⟩ = some (.int .i64 c)
section
variable {w w' : World} {b : Nat} {k a c : Int}
theorem BxG.new (w : World) (T : TypeId) : BxG (w.alloc (.cells #[.int .i64 k, .int .i64 a, .int .i64 c] T)) w.heap.size k a c := ⟨box_cell w _ 0 _ rfl, box_cell w _ 1 _ rfl, box_cell w _ 2 _ rfl⟩
theorem BxG.below (h : BxG w b k a c) (hb : Below w.heap.size w w') : BxG w' b k a c := ⟨cell_bel h.1 hb, cell_bel h.2.1 hb, cell_bel h.2.2 hb⟩
theorem BxG.setA (h : BxG w b k a c) (v : Int) : BxG (w.setCell ⟨b, 1, none⟩ (.int .i64 v)) b k v c := ⟨(World.cell?_setCell_other _ _ _ _ (by simp)).trans h.1, World.cell?_setCell_same _ _ _ h.2.1, (World.cell?_setCell_other _ _ _ _ (by simp)).trans h.2.2⟩
theorem BxG.setB (h : BxG w b k a c) (v : Int) : BxG (w.setCell ⟨b, 2, none⟩ (.int .i64 v)) b k a v := ⟨(World.cell?_setCell_other _ _ _ _ (by simp)).trans h.1, (World.cell?_setCell_other _ _ _ _ (by simp)).trans h.2.1, World.cell?_setCell_same _ _ _ h.2.2⟩
theorem BxG.far (h : BxG w b k a c) (q : Addr) (v : Value) (hq : q.block ≠ b) : BxG (w.setCell q v) b k a c := by
  have hc : ∀ {r : Nat} {u : Value}, w.cell? ⟨b, r, none⟩ = some u → (w.setCell q v).cell? ⟨b, r, none⟩ = some u := fun {r u} hu => (World.cell?_setCell_other _ _ _ _ (fun he => hq (by rw [he]))).trans hu
  exact ⟨hc h.1, hc h.2.1, hc h.2.2⟩
theorem BxG.set3 {k0 a0 c0 : Int} (h : BxG w b k0 a0 c0) (k a c : Int) : BxG (((w.setCell ⟨b, 0, none⟩ (.int .i64 k)).setCell ⟨b, 1, none⟩ (.int .i64 a)).setCell ⟨b, 2, none⟩ (.int .i64 c)) b k a c := by
  have h1 : BxG (w.setCell ⟨b, 0, none⟩ (.int .i64 k)) b k a0 c0 := ⟨World.cell?_setCell_same _ _ _ h.1, (World.cell?_setCell_other _ _ _ _ (by simp)).trans h.2.1, (World.cell?_setCell_other _ _ _ _ (by simp)).trans h.2.2⟩
  exact (h1.setA a).setB c
theorem below_set3 {B : Nat} {a' : World} (h : Below B a' w) (hB : B ≤ b) (k a c : Int) : Below B a' (((w.setCell ⟨b, 0, none⟩ (.int .i64 k)).setCell ⟨b, 1, none⟩ (.int .i64 a)).setCell ⟨b, 2, none⟩ (.int .i64 c)) :=
  ((h.setCell (p := ⟨b, 0, none⟩) hB _).setCell (p := ⟨b, 1, none⟩) hB _).setCell (p := ⟨b, 2, none⟩) hB _
end

set_option maxRecDepth 100000 in
set_option maxHeartbeats 1600000 in
theorem moved_any (f : FuncId) (hcf : ∀ args w, Sem.run Try.prog (callFunc f args) w = .ok (.enter f args) w) (cap : Array Value) (to : Int → Int) (g : G3) (n : Int) (w : World) (hg : GateIs g n)
    (hf : Hid (∀ z, 0 ≤ z → z < n → ∀ w1, Below w.heap.size w w1 → Calls Try.prog f (#[.int .i64 z] ++ cap) w1 fun e w' => e = .returned (.int .i64 (to z)) ∧ Below w1.heap.size w1 w')) :
    Calls Try.prog 51 #[.agg #[.int .i64 g.k, .int .i64 g.a, .int .i64 g.b], .func (.func f) #[] cap] w fun e w' => e = .returned (.agg #[.int .i64 (mvG to g).k, .int .i64 (mvG to g).a, .int .i64 (mvG to g).b]) ∧ Below w.heap.size w w' := by
  obtain ⟨gk, ga, gb⟩ := g
  have hB1 : Below w.heap.size w (w.alloc (.cells #[.int .i64 gk, .int .i64 ga, .int .i64 gb] 58)) := (Below.refl _ _).alloc (Nat.le_refl _) _
  have hB : Below w.heap.size w ((w.alloc (.cells #[.int .i64 gk, .int .i64 ga, .int .i64 gb] 58)).alloc (.cells #[.int .i64 0, .int .i64 0, .int .i64 0] 58)) := hB1.alloc (by simp) _
  have hx0 : BxG ((w.alloc (.cells #[.int .i64 gk, .int .i64 ga, .int .i64 gb] 58)).alloc (.cells #[.int .i64 0, .int .i64 0, .int .i64 0] 58)) w.heap.size gk ga gb := (BxG.new w _).below ((Below.refl _ _).alloc (Nat.le_refl _) _)
  have hr0 : BxG ((w.alloc (.cells #[.int .i64 gk, .int .i64 ga, .int .i64 gb] 58)).alloc (.cells #[.int .i64 0, .int .i64 0, .int .i64 0] 58)) (w.heap.size + 1) 0 0 0 := by simpa using BxG.new (k := 0) (a := 0) (c := 0) (w.alloc (.cells #[.int .i64 gk, .int .i64 ga, .int .i64 gb] 58)) 58
  have f0 : Fz ((w.alloc (.cells #[.int .i64 gk, .int .i64 ga, .int .i64 gb] 58)).alloc (.cells #[.int .i64 0, .int .i64 0, .int .i64 0] 58)) (w.heap.size + 1) := by simpa using Fz.new (w.alloc (.cells #[.int .i64 gk, .int .i64 ga, .int .i64 gb] 58)) #[.int .i64 0, .int .i64 0, .int .i64 0] 58
  have e0 : Fz ((w.alloc (.cells #[.int .i64 gk, .int .i64 ga, .int .i64 gb] 58)).alloc (.cells #[.int .i64 0, .int .i64 0, .int .i64 0] 58)) w.heap.size := (Fz.new w _ _).below ((Below.refl _ _).alloc (Nat.le_refl _) _) (by simp)
  cases hg with
  | not_ hk a0 a1 b0 =>
    dsimp only at hk a0 a1 b0
    subst hk
    subst b0
    have hR : Hid (mvG to ⟨2, ga, 0⟩ = ⟨2, to ga, 0⟩) := Lib.hid (by simp [mvG])
    have hfa := Lib.hid (hf.out ga a0 a1)
    go_enter Try.func51, Try.ntmps51
    have hq := hx0; obtain ⟨k0, k1, k2⟩ := hq
    go_wp2_with fail
    refine (hfa.out _ hB).mono ?_
    rintro e v1 ⟨rfl, hb1⟩
    have hx1 := hx0.below hb1
    have hr1 := hr0.below hb1
    have f1 := f0.below hb1 (by simp)
    have e1 := e0.below hb1 (by simp; omega)
    have hB2 := hB.trans (hb1.mono hB.size)
    have hz1 := hb1.size
    simp only [World.size_alloc] at hz1
    have hB3 := hB2.setCell (p := ⟨w.heap.size, 1, none⟩) (by show w.heap.size ≤ w.heap.size; omega) (.int .i64 (to ga))
    have hx2 := hx1.setA (to ga)
    have hr2 := hr1.far ⟨w.heap.size, 1, none⟩ (.int .i64 (to ga)) (by simp)
    clear k0 k1 k2
    obtain ⟨k0, k1, k2⟩ := hx1
    obtain ⟨m0, m1, m2⟩ := hx2
    have hq := hr1; obtain ⟨r0, r1, r2⟩ := hq
    have hq := hr2; obtain ⟨s0, s1, s2⟩ := hq
    have g0 := f1 0; have g1 := f1 1; have g2 := f1 2; have g3 := e1 1
    go_wp2
    have hq9 := hr2.set3 2 (to ga) 0
    obtain ⟨q0, q1, q2⟩ := hq9
    refine bodyPost_ret (v := .agg #[.int .i64 2, .int .i64 (to ga), .int .i64 0]) (by simp [results, Try.results51, go_sem, q0, q1, q2]) rfl ?_
    exact ⟨by rw [hR.out], below_set3 hB3 (by omega) _ _ _⟩
  | one_ hk a0 b0 =>
    dsimp only at hk a0 b0
    subst hk
    subst a0
    subst b0
    have hR : Hid (mvG to ⟨3, 0, 0⟩ = ⟨3, 0, 0⟩) := Lib.hid (by simp [mvG])
    go_enter Try.func51, Try.ntmps51
    have hq := hx0; obtain ⟨k0, k1, k2⟩ := hq
    have hq := hr0; obtain ⟨r0, r1, r2⟩ := hq
    have g0 := f0 0; have g1 := f0 1; have g2 := f0 2
    go_wp2
    refine bodyPost_ret (v := .agg #[.int .i64 3, .int .i64 0, .int .i64 0]) (by simp [results, Try.results51, go_sem]) rfl ?_
    exact ⟨by rw [hR.out], hB1.alloc (by simp) _⟩
  | xor_ hk a0 a1 b0 b1 =>
    dsimp only at hk a0 a1 b0 b1
    subst hk
    have hR : Hid (mvG to ⟨0, ga, gb⟩ = ⟨0, to ga, to gb⟩) := Lib.hid (by simp [mvG])
    have hfa := Lib.hid (hf.out ga a0 a1)
    have hfb := Lib.hid (hf.out gb b0 b1)
    have hbd := below_drewN hB 1
    have hbw := below_drewN (Below.refl ((w.alloc (.cells #[.int .i64 0, .int .i64 ga, .int .i64 gb] 58)).alloc (.cells #[.int .i64 0, .int .i64 0, .int .i64 0] 58)).heap.size ((w.alloc (.cells #[.int .i64 0, .int .i64 ga, .int .i64 gb] 58)).alloc (.cells #[.int .i64 0, .int .i64 0, .int .i64 0] 58))) 1
    go_enter Try.func51, Try.ntmps51
    have hq := hx0; obtain ⟨k0, k1, k2⟩ := hq
    go_wp2_with fail
    go_region_law (first | (go_simp; refine (hfa.out _ hbd).mono ?_; rintro e v1 ⟨rfl, hb1⟩; have hx1 := hx0.below (hbw.trans (hb1.mono (Nat.le_refl _))); have hq1 := hx1; obtain ⟨m0, m1, m2⟩ := hq1) | (go_simp; refine (hfb.out _ (hbd.trans (hb1.mono hbd.size))).mono ?_; rintro e v2 ⟨rfl, hb2⟩; have hB2 := (hbd.trans (hb1.mono hbd.size)).trans (hb2.mono (Nat.le_trans hbd.size hb1.size)); have hbv := (hbw.trans (hb1.mono (Nat.le_refl _))).trans (hb2.mono hb1.size); have hx2 := hx0.below hbv; have hq2 := hx2; obtain ⟨n0, n1, n2⟩ := hq2; have e2 := e0.below hbv (by simp; omega); have e21 := e2 1; have e22 := e2 2))
    all_goals
      have hz2 := hB2.size
      have hB3 := (hB2.setCell (p := ⟨w.heap.size, 1, none⟩) (by show w.heap.size ≤ w.heap.size; omega) (.int .i64 (to ga))).setCell (p := ⟨w.heap.size, 2, none⟩) (by show w.heap.size ≤ w.heap.size; omega) (.int .i64 (to gb))
      have hx3 := (hx2.setA (to ga)).setB (to gb)
      have hr2 := ((hr0.below hbv).far ⟨w.heap.size, 1, none⟩ (.int .i64 (to ga)) (by simp)).far ⟨w.heap.size, 2, none⟩ (.int .i64 (to gb)) (by simp)
      have f2 := f0.below hbv (by simp)
      obtain ⟨p0, p1, p2⟩ := hx3
      have hq := hr2; obtain ⟨s0, s1, s2⟩ := hq
      have g0 := f2 0; have g1 := f2 1; have g2 := f2 2
      go_wp2
      have hq9 := hr2.set3 0 (to ga) (to gb)
      obtain ⟨q0, q1, q2⟩ := hq9
      refine bodyPost_ret (v := .agg #[.int .i64 0, .int .i64 (to ga), .int .i64 (to gb)]) (by simp [results, Try.results51, go_sem, q0, q1, q2]) rfl ?_
      exact ⟨by rw [hR.out], below_set3 hB3 (by omega) _ _ _⟩
  | and_ hk a0 a1 b0 b1 =>
    dsimp only at hk a0 a1 b0 b1
    subst hk
    have hR : Hid (mvG to ⟨1, ga, gb⟩ = ⟨1, to ga, to gb⟩) := Lib.hid (by simp [mvG])
    have hfa := Lib.hid (hf.out ga a0 a1)
    have hfb := Lib.hid (hf.out gb b0 b1)
    have hbd := below_drewN hB 1
    have hbw := below_drewN (Below.refl ((w.alloc (.cells #[.int .i64 1, .int .i64 ga, .int .i64 gb] 58)).alloc (.cells #[.int .i64 0, .int .i64 0, .int .i64 0] 58)).heap.size ((w.alloc (.cells #[.int .i64 1, .int .i64 ga, .int .i64 gb] 58)).alloc (.cells #[.int .i64 0, .int .i64 0, .int .i64 0] 58))) 1
    go_enter Try.func51, Try.ntmps51
    have hq := hx0; obtain ⟨k0, k1, k2⟩ := hq
    go_wp2_with fail
    go_region_law (first | (go_simp; refine (hfa.out _ hbd).mono ?_; rintro e v1 ⟨rfl, hb1⟩; have hx1 := hx0.below (hbw.trans (hb1.mono (Nat.le_refl _))); have hq1 := hx1; obtain ⟨m0, m1, m2⟩ := hq1) | (go_simp; refine (hfb.out _ (hbd.trans (hb1.mono hbd.size))).mono ?_; rintro e v2 ⟨rfl, hb2⟩; have hB2 := (hbd.trans (hb1.mono hbd.size)).trans (hb2.mono (Nat.le_trans hbd.size hb1.size)); have hbv := (hbw.trans (hb1.mono (Nat.le_refl _))).trans (hb2.mono hb1.size); have hx2 := hx0.below hbv; have hq2 := hx2; obtain ⟨n0, n1, n2⟩ := hq2; have e2 := e0.below hbv (by simp; omega); have e21 := e2 1; have e22 := e2 2))
    all_goals
      have hz2 := hB2.size
      have hB3 := (hB2.setCell (p := ⟨w.heap.size, 1, none⟩) (by show w.heap.size ≤ w.heap.size; omega) (.int .i64 (to ga))).setCell (p := ⟨w.heap.size, 2, none⟩) (by show w.heap.size ≤ w.heap.size; omega) (.int .i64 (to gb))
      have hx3 := (hx2.setA (to ga)).setB (to gb)
      have hr2 := ((hr0.below hbv).far ⟨w.heap.size, 1, none⟩ (.int .i64 (to ga)) (by simp)).far ⟨w.heap.size, 2, none⟩ (.int .i64 (to gb)) (by simp)
      have f2 := f0.below hbv (by simp)
      obtain ⟨p0, p1, p2⟩ := hx3
      have hq := hr2; obtain ⟨s0, s1, s2⟩ := hq
      have g0 := f2 0; have g1 := f2 1; have g2 := f2 2
      go_wp2
      have hq9 := hr2.set3 1 (to ga) (to gb)
      obtain ⟨q0, q1, q2⟩ := hq9
      refine bodyPost_ret (v := .agg #[.int .i64 1, .int .i64 (to ga), .int .i64 (to gb)]) (by simp [results, Try.results51, go_sem, q0, q1, q2]) rfl ?_
      exact ⟨by rw [hR.out], below_set3 hB3 (by omega) _ _ _⟩

end Go.Proofs.Ytgenehiiakdadaa
