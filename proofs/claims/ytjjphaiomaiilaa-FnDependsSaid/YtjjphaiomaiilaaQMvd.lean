/- Contracts: a circuit that is valid or not; gates moved by a closure. -/
import Derived.Test.YtjjphaiomaiilaaQGd
import Derived.Test.YtjjphaiomaiilaaQNum
import Derived.Deep.RegionLaw
namespace Go.Proofs.Ytjjphaiomaiilaa
open Go.RowKit
set_option linter.unusedVariables false
set_option linter.unusedSimpArgs false

/-- The box b holds this gate. -/
def BxG (w : World) (b : Nat) (k a c : Int) : Prop := w.cell? ⟨b, 0, none⟩ = some (.int .i64 k) ∧ w.cell? ⟨b, 1, none⟩ = some (.int .i64 a) ∧ w.cell? ⟨b, 2, none⟩ = some (.int .i64 c)
section
variable {w w' : World} {b : Nat} {k a c : Int}
theorem BxG.new (w : World) (T : TypeId) : BxG (w.alloc (.cells #[.int .i64 k, .int .i64 a, .int .i64 c] T)) w.heap.size k a c := ⟨box_cell w _ 0 _ rfl, box_cell w _ 1 _ rfl, box_cell w _ 2 _ rfl⟩
theorem BxG.below (h : BxG w b k a c) (hb : Below w.heap.size w w') : BxG w' b k a c := ⟨cell_bel h.1 hb, cell_bel h.2.1 hb, cell_bel h.2.2 hb⟩
theorem BxG.setA (h : BxG w b k a c) (v : Int) : BxG (w.setCell ⟨b, 1, none⟩ (.int .i64 v)) b k v c := ⟨(World.cell?_setCell_other _ _ _ _ (by simp)).trans h.1, World.cell?_setCell_same _ _ _ h.2.1, (World.cell?_setCell_other _ _ _ _ (by simp)).trans h.2.2⟩
theorem BxG.setB (h : BxG w b k a c) (v : Int) : BxG (w.setCell ⟨b, 2, none⟩ (.int .i64 v)) b k a v := ⟨(World.cell?_setCell_other _ _ _ _ (by simp)).trans h.1, (World.cell?_setCell_other _ _ _ _ (by simp)).trans h.2.1, World.cell?_setCell_same _ _ _ h.2.2⟩
theorem BxG.far (h : BxG w b k a c) (q : Addr) (v : Value) (hq : q.block ≠ b) : BxG (w.setCell q v) b k a c := by
  have hc : ∀ {r : Nat} {u : Value}, w.cell? ⟨b, r, none⟩ = some u → (w.setCell q v).cell? ⟨b, r, none⟩ = some u := fun {r u} hu => (World.cell?_setCell_other _ _ _ _ (fun he => hq (by rw [he]))).trans hu
  exact ⟨hc h.1, hc h.2.1, hc h.2.2⟩
theorem BxG.set3 {k0 a0 c0 : Int} (h : BxG w b k0 a0 c0) (k a c : Int) : BxG (((w.setCell ⟨b, 0, none⟩ (.int .i64 k)).setCell ⟨b, 1, none⟩ (.int .i64 a)).setCell ⟨b, 2, none⟩ (.int .i64 c)) b k a c := by
  have h1 : BxG (w.setCell ⟨b, 0, none⟩ (.int .i64 k)) b k a0 c0 := ⟨World.cell?_setCell_same _ _ _ h.1, (World.cell?_setCell_other _ _ _ _ (by simp)).trans h.2.1, (World.cell?_setCell_other _ _ _ _ (by simp)).trans h.2.2⟩
  exact (h1.setA a).setB c
theorem below_set3 {B : Nat} {a' : World} (h : Below B a' w) (hB : B ≤ b) (k a c : Int) : Below B a' (((w.setCell ⟨b, 0, none⟩ (.int .i64 k)).setCell ⟨b, 1, none⟩ (.int .i64 a)).setCell ⟨b, 2, none⟩ (.int .i64 c)) :=
  ((h.setCell (p := ⟨b, 0, none⟩) hB _).setCell (p := ⟨b, 1, none⟩) hB _).setCell (p := ⟨b, 2, none⟩) hB _
end

end Go.Proofs.Ytjjphaiomaiilaa
