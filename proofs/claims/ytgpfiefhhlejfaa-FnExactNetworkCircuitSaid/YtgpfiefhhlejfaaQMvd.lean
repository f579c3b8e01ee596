/- Contracts: a circuit that is valid or not; gates moved by a closure. -/
import Derived.Test.YtgpfiefhhlejfaaQGd
import Derived.Test.YtgpfiefhhlejfaaQForm
import Derived.Deep.RegionLaw
namespace Go.Proofs.Ytgpfiefhhlejfaa
open Go.RowKit
set_option linter.unusedVariables false
set_option linter.unusedSimpArgs false

theorem valid_f (x y : Int) (Ag : Option Addr) (ng cg : Nat) (Ao : Option Addr) (no co : Nat) (gs : List G3) (os : List Int) (w : World) (hg : RG w Ag ng gs) (ho : RI w Ao no os) (hng : ng ≤ 2097152) (hno : no ≤ 2097152) (hv : circB x y gs os = false) :
    Calls Try.prog 45 #[.agg #[.int .i64 x, .int .i64 y, .slice Ag ng cg, .slice Ao no co]] w fun e w' => e = .returned (.tuple #[.agg #[.int .i64 0, .int .i64 0, .slice none 0 0, .slice none 0 0], .bool false]) ∧ Below w.heap.size w w' := by
  have H0 := Lib.hid hv; clear hv
  have hB1 : Below w.heap.size w (w.alloc (.cells #[.int .i64 x, .int .i64 y, .slice Ag ng cg, .slice Ao no co] 26)) := (Below.refl _ _).alloc (Nat.le_refl _) _
  have hB : Below w.heap.size w ((w.alloc (.cells #[.int .i64 x, .int .i64 y, .slice Ag ng cg, .slice Ao no co] 26)).alloc (.cells #[.int .i64 0, .int .i64 0, .slice none 0 0, .slice none 0 0] 26)) := hB1.alloc (by simp) _
  have hx0 : BxC ((w.alloc (.cells #[.int .i64 x, .int .i64 y, .slice Ag ng cg, .slice Ao no co] 26)).alloc (.cells #[.int .i64 0, .int .i64 0, .slice none 0 0, .slice none 0 0] 26)) w.heap.size x y Ag ng cg Ao no co := (BxC.new w _).below ((Below.refl _ _).alloc (Nat.le_refl _) _)
  have hr0 : BxC ((w.alloc (.cells #[.int .i64 x, .int .i64 y, .slice Ag ng cg, .slice Ao no co] 26)).alloc (.cells #[.int .i64 0, .int .i64 0, .slice none 0 0, .slice none 0 0] 26)) (w.heap.size + 1) 0 0 none 0 0 none 0 0 := by simpa using BxC.new (x := 0) (y := 0) (Ag := none) (ng := 0) (cg := 0) (Ao := none) (no := 0) (co := 0) (w.alloc (.cells #[.int .i64 x, .int .i64 y, .slice Ag ng cg, .slice Ao no co] 26)) 26
  have f0 : Fz ((w.alloc (.cells #[.int .i64 x, .int .i64 y, .slice Ag ng cg, .slice Ao no co] 26)).alloc (.cells #[.int .i64 0, .int .i64 0, .slice none 0 0, .slice none 0 0] 26)) (w.heap.size + 1) := by simpa using Fz.new (w.alloc (.cells #[.int .i64 x, .int .i64 y, .slice Ag ng cg, .slice Ao no co] 26)) #[.int .i64 0, .int .i64 0, .slice none 0 0, .slice none 0 0] 26
  go_enter Try.func45, Try.ntmps45
  have hq := hx0; obtain ⟨k0, k1, k2, k3⟩ := hq
  go_wp2_with fail
  refine (IsCircuit_any x y Ag ng cg Ao no co gs os _ (hg.below hB (Nat.le_refl _)) (ho.below hB (Nat.le_refl _)) hng hno).mono ?_
  rintro e v1 ⟨rfl, hb1⟩
  rw [H0.out]
  have hx1 := hx0.below hb1
  clear k0 k1 k2 k3
  obtain ⟨k0, k1, k2, k3⟩ := hx1
  have hr1 := hr0.below hb1
  have f1 := f0.below hb1 (by simp)
  have hq := hr1; obtain ⟨r0, r1, r2, r3⟩ := hq
  have g0 := f1 0; have g1 := f1 1; have g2 := f1 2; have g3 := f1 3
  have hB2 := hB.trans (hb1.mono hB.size)
  go_wp2
  have hq9 := BxC.set4 (hr1) 0 0 none 0 0 none 0 0
  obtain ⟨q0, q1, q2, q3⟩ := hq9
  refine bodyPost_ret (v := .tuple #[.agg #[.int .i64 0, .int .i64 0, .slice none 0 0, .slice none 0 0], .bool false]) (by simp [results, Try.results45, go_sem, q0, q1, q2, q3]) rfl ?_
  exact ⟨rfl, below_set4 hB2 (by omega) _ _ _ _ _ _ _ _⟩

theorem ciIf_f (x y : Int) (Ag : Option Addr) (ng cg : Nat) (Ao : Option Addr) (no co : Nat) (gs : List G3) (os : List Int) (w : World) (hg : RG w Ag ng gs) (ho : RI w Ao no os) (hng : ng ≤ 2097152) (hno : no ≤ 2097152) (hv : circB x y gs os = false) :
    Calls Try.prog 37 #[.agg #[.int .i64 x, .int .i64 y, .slice Ag ng cg, .slice Ao no co]] w fun e w' => e = .returned (.tuple #[.agg #[.int .i64 0, .int .i64 0, .slice none 0 0, .slice none 0 0], .bool false]) ∧ Below w.heap.size w w' := by
  have H0 := Lib.hid hv; clear hv
  have hB1 : Below w.heap.size w (w.alloc (.cells #[.int .i64 x, .int .i64 y, .slice Ag ng cg, .slice Ao no co] 26)) := (Below.refl _ _).alloc (Nat.le_refl _) _
  have hB : Below w.heap.size w ((w.alloc (.cells #[.int .i64 x, .int .i64 y, .slice Ag ng cg, .slice Ao no co] 26)).alloc (.cells #[.int .i64 0, .int .i64 0, .slice none 0 0, .slice none 0 0] 26)) := hB1.alloc (by simp) _
  have hx0 : BxC ((w.alloc (.cells #[.int .i64 x, .int .i64 y, .slice Ag ng cg, .slice Ao no co] 26)).alloc (.cells #[.int .i64 0, .int .i64 0, .slice none 0 0, .slice none 0 0] 26)) w.heap.size x y Ag ng cg Ao no co := (BxC.new w _).below ((Below.refl _ _).alloc (Nat.le_refl _) _)
  have hr0 : BxC ((w.alloc (.cells #[.int .i64 x, .int .i64 y, .slice Ag ng cg, .slice Ao no co] 26)).alloc (.cells #[.int .i64 0, .int .i64 0, .slice none 0 0, .slice none 0 0] 26)) (w.heap.size + 1) 0 0 none 0 0 none 0 0 := by simpa using BxC.new (x := 0) (y := 0) (Ag := none) (ng := 0) (cg := 0) (Ao := none) (no := 0) (co := 0) (w.alloc (.cells #[.int .i64 x, .int .i64 y, .slice Ag ng cg, .slice Ao no co] 26)) 26
  have f0 : Fz ((w.alloc (.cells #[.int .i64 x, .int .i64 y, .slice Ag ng cg, .slice Ao no co] 26)).alloc (.cells #[.int .i64 0, .int .i64 0, .slice none 0 0, .slice none 0 0] 26)) (w.heap.size + 1) := by simpa using Fz.new (w.alloc (.cells #[.int .i64 x, .int .i64 y, .slice Ag ng cg, .slice Ao no co] 26)) #[.int .i64 0, .int .i64 0, .slice none 0 0, .slice none 0 0] 26
  go_enter Try.func37, Try.ntmps37
  have hq := hx0; obtain ⟨k0, k1, k2, k3⟩ := hq
  go_wp2_with fail
  refine (ciGood_any x y Ag ng cg Ao no co gs os _ (hg.below hB (Nat.le_refl _)) (ho.below hB (Nat.le_refl _)) hng hno).mono ?_
  rintro e v1 ⟨rfl, hb1⟩
  rw [H0.out]
  have hx1 := hx0.below hb1
  clear k0 k1 k2 k3
  obtain ⟨k0, k1, k2, k3⟩ := hx1
  have hr1 := hr0.below hb1
  have f1 := f0.below hb1 (by simp)
  have hq := hr1; obtain ⟨r0, r1, r2, r3⟩ := hq
  have g0 := f1 0; have g1 := f1 1; have g2 := f1 2; have g3 := f1 3
  have hB2 := hB.trans (hb1.mono hB.size)
  go_wp2
  have hq9 := BxC.set4 (hr1) 0 0 none 0 0 none 0 0
  obtain ⟨q0, q1, q2, q3⟩ := hq9
  refine bodyPost_ret (v := .tuple #[.agg #[.int .i64 0, .int .i64 0, .slice none 0 0, .slice none 0 0], .bool false]) (by simp [results, Try.results37, go_sem, q0, q1, q2, q3]) rfl ?_
  exact ⟨rfl, below_set4 hB2 (by omega) _ _ _ _ _ _ _ _⟩

theorem ciIf_t (x y : Int) (Ag : Option Addr) (ng cg : Nat) (Ao : Option Addr) (no co : Nat) (gs : List G3) (os : List Int) (w : World) (hg : RG w Ag ng gs) (ho : RI w Ao no os) (hng : ng ≤ 2097152) (hno : no ≤ 2097152) (hv : circB x y gs os = true) :
    Calls Try.prog 37 #[.agg #[.int .i64 x, .int .i64 y, .slice Ag ng cg, .slice Ao no co]] w fun e w' => e = .returned (.tuple #[.agg #[.int .i64 x, .int .i64 y, .slice Ag ng cg, .slice Ao no co], .bool true]) ∧ Below w.heap.size w w' := by
  have H0 := Lib.hid hv; clear hv
  have hB1 : Below w.heap.size w (w.alloc (.cells #[.int .i64 x, .int .i64 y, .slice Ag ng cg, .slice Ao no co] 26)) := (Below.refl _ _).alloc (Nat.le_refl _) _
  have hB : Below w.heap.size w ((w.alloc (.cells #[.int .i64 x, .int .i64 y, .slice Ag ng cg, .slice Ao no co] 26)).alloc (.cells #[.int .i64 0, .int .i64 0, .slice none 0 0, .slice none 0 0] 26)) := hB1.alloc (by simp) _
  have hx0 : BxC ((w.alloc (.cells #[.int .i64 x, .int .i64 y, .slice Ag ng cg, .slice Ao no co] 26)).alloc (.cells #[.int .i64 0, .int .i64 0, .slice none 0 0, .slice none 0 0] 26)) w.heap.size x y Ag ng cg Ao no co := (BxC.new w _).below ((Below.refl _ _).alloc (Nat.le_refl _) _)
  have hr0 : BxC ((w.alloc (.cells #[.int .i64 x, .int .i64 y, .slice Ag ng cg, .slice Ao no co] 26)).alloc (.cells #[.int .i64 0, .int .i64 0, .slice none 0 0, .slice none 0 0] 26)) (w.heap.size + 1) 0 0 none 0 0 none 0 0 := by simpa using BxC.new (x := 0) (y := 0) (Ag := none) (ng := 0) (cg := 0) (Ao := none) (no := 0) (co := 0) (w.alloc (.cells #[.int .i64 x, .int .i64 y, .slice Ag ng cg, .slice Ao no co] 26)) 26
  have f0 : Fz ((w.alloc (.cells #[.int .i64 x, .int .i64 y, .slice Ag ng cg, .slice Ao no co] 26)).alloc (.cells #[.int .i64 0, .int .i64 0, .slice none 0 0, .slice none 0 0] 26)) (w.heap.size + 1) := by simpa using Fz.new (w.alloc (.cells #[.int .i64 x, .int .i64 y, .slice Ag ng cg, .slice Ao no co] 26)) #[.int .i64 0, .int .i64 0, .slice none 0 0, .slice none 0 0] 26
  go_enter Try.func37, Try.ntmps37
  have hq := hx0; obtain ⟨k0, k1, k2, k3⟩ := hq
  go_wp2_with fail
  refine (ciGood_any x y Ag ng cg Ao no co gs os _ (hg.below hB (Nat.le_refl _)) (ho.below hB (Nat.le_refl _)) hng hno).mono ?_
  rintro e v1 ⟨rfl, hb1⟩
  rw [H0.out]
  have hx1 := hx0.below hb1
  clear k0 k1 k2 k3
  obtain ⟨k0, k1, k2, k3⟩ := hx1
  have hr1 := hr0.below hb1
  have f1 := f0.below hb1 (by simp)
  have hq := hr1; obtain ⟨r0, r1, r2, r3⟩ := hq
  have g0 := f1 0; have g1 := f1 1; have g2 := f1 2; have g3 := f1 3
  have hB2 := hB.trans (hb1.mono hB.size)
  go_wp2
  have hq9 := BxC.set4 (hr1) x y Ag ng cg Ao no co
  obtain ⟨q0, q1, q2, q3⟩ := hq9
  refine bodyPost_ret (v := .tuple #[.agg #[.int .i64 x, .int .i64 y, .slice Ag ng cg, .slice Ao no co], .bool true]) (by simp [results, Try.results37, go_sem, q0, q1, q2, q3]) rfl ?_
  exact ⟨rfl, below_set4 hB2 (by omega) _ _ _ _ _ _ _ _⟩

/-- The box b holds this gate. -/
def BxG (w : World) (b : Nat) (k a c : Int) : Prop := w.cell? ⟨b, 0, none⟩ = some (.int .i64 k) ∧ w.cell? ⟨b, 1, none⟩ = some (.int .i64 a) ∧ w.cell? ⟨b, 2, none⟩ = some (.int .i64 c)
section
variable {w w' : World} {b : Nat} {k a c : Int}
theorem BxG.new (w : World) (T : TypeId) : BxG (w.alloc (.cells #[.int .i64 k, .int .i64 a, .int .i64 c] T)) w.heap.size k a c := ⟨box_cell w _ 0 _ rfl, box_cell w _ 1 _ rfl, box_cell w _ 2 _ rfl⟩
theorem BxG.below (h : BxG w b k a c) (hb : Below w.heap.size w w') : BxG w' b k a c := ⟨cell_bel h.1 hb, cell_bel h.2.1 hb, cell_bel h.2.2 hb⟩
theorem BxG.setA (h : BxG w b k a c) (v : Int) : BxG (w.setCell ⟨b, 1, none⟩ (.int .i64 v)) b k v c := ⟨(World.cell?_setCell_other _ _ _ _ (by simp)).trans h.1, World.cell?_setCell_same _ _ _ h.2.1, (World.cell?_setCell_other _ _ _ _ (by simp)).trans h.2.2⟩
theorem BxG.setB (h : BxG w b k a c) (v : Int) : BxG (w.setCell ⟨b, 2, none⟩ (.int .i64 v)) b k a v := ⟨(World.cell?_setCell_other _ _ _ _ (by simp)).trans h.1, (World.cell?_setCell_other _ _ _ _ (by simp)).trans h.2.1, World.cell?_setCell_same _ _ _ h.2.2⟩
theorem BxG.far (h : BxG w b k a c) (q : Addr) (v : Value) (hq : q.block ≠ b) : BxG (w.setCell q v) b k a c := by
  have hc : ∀ {r : Nat} {u : Value}, w.cell? ⟨b, r, none⟩ = some u → (w.setCell q v).cell? ⟨b, r, none⟩ = some u := fun {r u} hu => (World.cell?_setCell_other _ _ _ _ (fun he => hq (by rw [he]))).trans hu
  exact ⟨hc h.1, hc h.2.1, hc h.2.2⟩
theorem BxG.set3 {k0 a0 c0 : Int} (h : BxG w b k0 a0 c0) (k a c : Int) : BxG (((w.setCell ⟨b, 0, none⟩ (.int .i64 k)).setCell ⟨b, 1, none⟩ (.int .i64 a)).setCell ⟨b, 2, none⟩ (.int .i64 c)) b k a c := by
  have h1 : BxG (w.setCell ⟨b, 0, none⟩ (.int .i64 k)) b k a0 c0 := ⟨World.cell?_setCell_same _ _ _ h.1, (World.cell?_setCell_other _ _ _ _ (by simp)).trans h.2.1, (World.cell?_setCell_other _ _ _ _ (by simp)).trans h.2.2⟩
  exact (h1.setA a).setB c
theorem below_set3 {B : Nat} {a' : World} (h : Below B a' w) (hB : B ≤ b) (k a c : Int) : Below B a' (((w.setCell ⟨b, 0, none⟩ (.int .i64 k)).setCell ⟨b, 1, none⟩ (.int .i64 a)).setCell ⟨b, 2, none⟩ (.int .i64 c)) :=
  ((h.setCell (p := ⟨b, 0, none⟩) hB _).setCell (p := ⟨b, 1, none⟩) hB _).setCell (p := ⟨b, 2, none⟩) hB _
end

end Go.Proofs.Ytgpfiefhhlejfaa
