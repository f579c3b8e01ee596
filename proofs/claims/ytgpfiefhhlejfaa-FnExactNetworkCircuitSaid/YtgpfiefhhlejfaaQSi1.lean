/- SimplifyCircuit, the program's small words: a gate, a gate made once, what a wire becomes as a wire, turning. Lengths below 2^17. -/
import Derived.Test.YtgpfiefhhlejfaaQRwT
import Derived.Test.YtgpfiefhhlejfaaQBes
namespace Go.Proofs.Ytgpfiefhhlejfaa
open Go.RowKit
set_option linter.unusedVariables false
set_option linter.unusedSimpArgs false

/-- What a maker's word returns: a value; the maker has grown. -/
def RetVO (lo b : Nat) (x y : Int) (Ao : Option Addr) (no co : Nat) (gs : List G3) (G : Option Nat) (V : Value) (w : World) (e : Ending) (w' : World) : Prop :=
  ∃ G', e = .returned V ∧ MkO w' lo b x y Ao no co gs G' ∧ Mv b G G' w w'
theorem same1_found {gs : List G3} {g : G3} {k : Nat} (hk : k < gs.length) (hno : ∀ j, j < k → sameG (gg gs j) g = false) (h : sameG (gg gs k) g = true) : same1 gs g = k := by
  have h1 := fidx_found (q := fun o => sameG o g) hk h hno
  have h2 := (fidx_same (hs := gs) (g := g) rfl).1 (by rw [h1]; omega)
  rw [h1] at h2; omega
theorem same1_none {gs : List G3} {g : G3} (hno : ∀ j, j < gs.length → sameG (gg gs j) g = false) : same1 gs g = gs.length := by
  have h1 := fidx_none (q := fun o => sameG o g) hno
  exact (fidx_same (hs := gs) (g := g) rfl).2 (by rw [h1]; omega)
theorem once_old {gs : List G3} {g : G3} {S : Nat} (h : same1 gs g = S) (hS : S < gs.length) (X : Nat) : onceG gs g = gs ∧ onceW X gs g = (X : Int) + S := by
  subst h; exact ⟨by unfold onceG; rw [if_pos hS], rfl⟩
theorem once_new {gs : List G3} {g : G3} (h : same1 gs g = gs.length) (X : Nat) : onceG gs g = gs ++ [g] ∧ onceW X gs g = (X : Int) + gs.length := by
  refine ⟨by unfold onceG; rw [if_neg (by omega)], by unfold onceW; rw [h]⟩

set_option maxHeartbeats 800000 in
theorem maker_gateO_any (lo b : Nat) (x y : Int) (Ao : Option Addr) (no co : Nat) (gs : List G3) (G : Option Nat) (k p q : Int) (w : World) (hm : MkO w lo b x y Ao no co gs G) (hx : 0 ≤ x ∧ x ≤ 20) (hy : 0 ≤ y ∧ y ≤ 20) (hn : gs.length ≤ 100000) (hlo : lo ≤ w.heap.size) :
    Calls Try.prog 88 #[.pointer (some ⟨b, 0, none⟩), .int .i64 k, .int .i64 p, .int .i64 q] w (RetVO lo b x y Ao no co (gs ++ [⟨k, p, q⟩]) G (.int .i64 (x + y + gs.length)) w) := by
  obtain ⟨h1, h2, hf, Ag, cg, hbx, hown, rfl⟩ := hm
  have hal : Below w.heap.size w (w.alloc (.cells #[.int .i64 k, .int .i64 p, .int .i64 q] 88)) := (Below.refl _ _).alloc (Nat.le_refl _) _
  have hownA := hown.alloc (.cells #[.int .i64 k, .int .i64 p, .int .i64 q] 88)
  have hbxA := hbx.below hal
  have hbb : b < (w.alloc (.cells #[.int .i64 k, .int .i64 p, .int .i64 q] 88)).heap.size := by simp; omega
  have hfA : ∀ r : Nat, (w.alloc (.cells #[.int .i64 k, .int .i64 p, .int .i64 q] 88)).frozen? ⟨b, r, none⟩ = false := fun r => (hal.frozen (p := ⟨b, r, none⟩) h1).trans (hf r)
  have hq := hbx; obtain ⟨k0, k1, k2, k3⟩ := hq
  go_enter Try.func88, Try.ntmps88
  go_wp2_with (at_builtin; refine wpList_appG _ rfl _ _ rfl rfl hownA rfl (RG_new1 _ _ _ _ _) (by omega) (by simp; omega) ?_; intro A5 c5 w5 hown5 hg5 hat5 hk5; obtain ⟨hmk, hmv⟩ := MkO.made hbb h2 hfA hbxA hown5 hg5 hat5; have hq5 := hbxA.grown hg5 h2; obtain ⟨j0, j1, j2, j3⟩ := hq5; have hq6 := hmk; obtain ⟨_, _, hf6, A6, c6, hx6, _, _⟩ := hq6; have hf5 : w5.frozen? ⟨b, 2, none⟩ = false := (World.frozen?_setCell _ _ _ _).symm.trans (hf6 2); obtain ⟨i0, i1, i2, i3⟩ := hx6)
  have q1 : x + y + ((gs.length : Int) + 1) - 1 = x + y + gs.length := by omega
  clear j0 j1 j2 j3 i0 i1 i2 i3
  refine (Circuit_wires_any x y A6 (gs.length + 1) c6 Ao no co _ hx hy (by omega)).mono ?_
  rintro e w6 ⟨rfl, hb6⟩
  go_wp2
  go_ret
  exact ⟨_, by rw [← q1]; rfl, hmk.below_ hb6 (Nat.le_refl _), (((Mv.refl_ b _ w).alloc_ _).trans_ hmv).below_ hb6 (Nat.le_refl _)⟩

set_option maxHeartbeats 800000 in
theorem ciMaker_gateO_any (lo b : Nat) (x y : Int) (Ao : Option Addr) (no co : Nat) (gs : List G3) (G : Option Nat) (k p q : Int) (w : World) (hm : MkO w lo b x y Ao no co gs G) (hx : 0 ≤ x ∧ x ≤ 20) (hy : 0 ≤ y ∧ y ≤ 20) (hn : gs.length ≤ 100000) (hlo : lo ≤ w.heap.size) :
    Calls Try.prog 58 #[.pointer (some ⟨b, 0, none⟩), .int .i64 k, .int .i64 p, .int .i64 q] w (RetVO lo b x y Ao no co (gs ++ [⟨k, p, q⟩]) G (.int .i64 (x + y + gs.length)) w) := by
  obtain ⟨h1, h2, hf, Ag, cg, hbx, hown, rfl⟩ := hm
  have hal : Below w.heap.size w (w.alloc (.cells #[.int .i64 k, .int .i64 p, .int .i64 q] 88)) := (Below.refl _ _).alloc (Nat.le_refl _) _
  have hownA := hown.alloc (.cells #[.int .i64 k, .int .i64 p, .int .i64 q] 88)
  have hbxA := hbx.below hal
  have hbb : b < (w.alloc (.cells #[.int .i64 k, .int .i64 p, .int .i64 q] 88)).heap.size := by simp; omega
  have hfA : ∀ r : Nat, (w.alloc (.cells #[.int .i64 k, .int .i64 p, .int .i64 q] 88)).frozen? ⟨b, r, none⟩ = false := fun r => (hal.frozen (p := ⟨b, r, none⟩) h1).trans (hf r)
  have hq := hbx; obtain ⟨k0, k1, k2, k3⟩ := hq
  go_enter Try.func58, Try.ntmps58
  go_wp2_with (at_builtin; refine wpList_appG _ rfl _ _ rfl rfl hownA rfl (RG_new1 _ _ _ _ _) (by omega) (by simp; omega) ?_; intro A5 c5 w5 hown5 hg5 hat5 hk5; obtain ⟨hmk, hmv⟩ := MkO.made hbb h2 hfA hbxA hown5 hg5 hat5; have hq5 := hbxA.grown hg5 h2; obtain ⟨j0, j1, j2, j3⟩ := hq5; have hq6 := hmk; obtain ⟨_, _, hf6, A6, c6, hx6, _, _⟩ := hq6; have hf5 : w5.frozen? ⟨b, 2, none⟩ = false := (World.frozen?_setCell _ _ _ _).symm.trans (hf6 2); obtain ⟨i0, i1, i2, i3⟩ := hx6)
  have q1 : x + y + ((gs.length : Int) + 1) - 1 = x + y + gs.length := by omega
  clear j0 j1 j2 j3 i0 i1 i2 i3
  refine (ciWires_any x y A6 (gs.length + 1) c6 Ao no co _ hx hy (by omega)).mono ?_
  rintro e w6 ⟨rfl, hb6⟩
  go_wp2
  go_ret
  exact ⟨_, by rw [← q1]; rfl, hmk.below_ hb6 (Nat.le_refl _), (((Mv.refl_ b _ w).alloc_ _).trans_ hmv).below_ hb6 (Nat.le_refl _)⟩

/-- A box of three cells. -/
def Bx3 (w : World) (b : Nat) (u0 u1 u2 : Value) : Prop := w.cell? ⟨b, 0, none⟩ = some u0 ∧ w.cell? ⟨b, 1, none⟩ = some u1 ∧ w.cell? ⟨b, 2, none⟩ = some u2
theorem Bx3.new (w : World) (u0 u1 u2 : Value) (T : TypeId) : Bx3 (w.alloc (.cells #[u0, u1, u2] T)) w.heap.size u0 u1 u2 := ⟨box_cell w _ 0 _ rfl, box_cell w _ 1 _ rfl, box_cell w _ 2 _ rfl⟩
section
variable {w w' : World} {b : Nat} {u0 u1 u2 v0 v1 v2 : Value} {B : Nat}
theorem Bx3.lt (h : Bx3 w b u0 u1 u2) : b < w.heap.size := World.block_lt_of_cell? w _ h.1
theorem Bx3.bel (h : Bx3 w b u0 u1 u2) (k : Below B w w') (hb : b < B) : Bx3 w' b u0 u1 u2 :=
  have hc : ∀ {q : Nat} {v : Value}, w.cell? ⟨b, q, none⟩ = some v → w'.cell? ⟨b, q, none⟩ = some v := fun {q v} hv => (k.cell (p := ⟨b, q, none⟩) hb).trans hv
  ⟨hc h.1, hc h.2.1, hc h.2.2⟩
theorem Bx3.mv {B : Nat} {G G1 : Option Nat} (h : Bx3 w b u0 u1 u2) (k : Mv B G G1 w w') (ho : OffB B G b) : Bx3 w' b u0 u1 u2 := ⟨k.cellF h.1 ho, k.cellF h.2.1 ho, k.cellF h.2.2 ho⟩
theorem Bx3.set (h : Bx3 w b v0 v1 v2) (u0 u1 u2 : Value) : Bx3 (((w.setCell ⟨b, 0, none⟩ u0).setCell ⟨b, 1, none⟩ u1).setCell ⟨b, 2, none⟩ u2) b u0 u1 u2 := by
  have h1 : Bx3 (w.setCell ⟨b, 0, none⟩ u0) b u0 v1 v2 := ⟨World.cell?_setCell_same _ _ _ h.1, (World.cell?_setCell_other _ _ _ _ (by simp)).trans h.2.1, (World.cell?_setCell_other _ _ _ _ (by simp)).trans h.2.2⟩
  have h2 : Bx3 ((w.setCell ⟨b, 0, none⟩ u0).setCell ⟨b, 1, none⟩ u1) b u0 u1 v2 := ⟨(World.cell?_setCell_other _ _ _ _ (by simp)).trans h1.1, World.cell?_setCell_same _ _ _ h1.2.1, (World.cell?_setCell_other _ _ _ _ (by simp)).trans h1.2.2⟩
  exact ⟨(World.cell?_setCell_other _ _ _ _ (by simp)).trans h2.1, (World.cell?_setCell_other _ _ _ _ (by simp)).trans h2.2.1, World.cell?_setCell_same _ _ _ h2.2.2⟩
theorem Fz.mvO {B : Nat} {G G1 : Option Nat} (h : Fz w b) (k : Mv B G G1 w w') (hb : b < w.heap.size) (ho : OffB B G b) : Fz w' b := fun q => (World.frozen?_of_block (w := w) (a := ⟨b, q, none⟩) (k.block b hb (And.left ho) (And.right ho))).trans (h q)
/-- Stores into a box of the call's own are no change of what was there. -/
theorem Mv.set {B : Nat} {G G1 : Option Nat} {W : World} (h : Mv B G G1 W w) (p : Addr) (v : Value) (hp : W.heap.size ≤ p.block) : Mv B G G1 W (w.setCell p v) :=
  ⟨h.os, h.tape, h.output, by simpa using h.size, fun k hk hkb hkG => by rw [Below.heap_setCell _ _ _ _ (by omega)]; exact h.block k hk hkb hkG, h.own⟩
theorem Mv.set3 {B : Nat} {G G1 : Option Nat} {W : World} (h : Mv B G G1 W w) (hb : W.heap.size ≤ b) (u0 u1 u2 : Value) : Mv B G G1 W (((w.setCell ⟨b, 0, none⟩ u0).setCell ⟨b, 1, none⟩ u1).setCell ⟨b, 2, none⟩ u2) :=
  ((h.set ⟨b, 0, none⟩ u0 hb).set ⟨b, 1, none⟩ u1 hb).set ⟨b, 2, none⟩ u2 hb
theorem MkO.set_ {lo c : Nat} {x y : Int} {Ao : Option Addr} {no co : Nat} {gs : List G3} {G : Option Nat} (h : MkO w lo c x y Ao no co gs G) (p : Addr) (v : Value) (hp : p.block ≠ c) (hG : G ≠ some p.block) : MkO (w.setCell p v) lo c x y Ao no co gs G := by
  obtain ⟨h1, h2, hf, Ag, cg, hx, ho, he⟩ := h
  have k1 : Alt (fun i => i = p.block) w (w.setCell p v) := (Alt.refl_ _ w).set_ _ _ (fun _ => rfl)
  exact ⟨by simpa using h1, h2, fun q => (World.frozen?_setCell _ _ _ _).trans (hf q), Ag, cg, hx.alt k1 (fun hc => hp hc.symm), by simpa using ho.far1 p v (he ▸ hG), he⟩
theorem MkO.set3 {lo c : Nat} {x y : Int} {Ao : Option Addr} {no co : Nat} {gs : List G3} {G : Option Nat} (h : MkO w lo c x y Ao no co gs G) (hp : OffB c G b) (u0 u1 u2 : Value) : MkO (((w.setCell ⟨b, 0, none⟩ u0).setCell ⟨b, 1, none⟩ u1).setCell ⟨b, 2, none⟩ u2) lo c x y Ao no co gs G :=
  ((h.set_ ⟨b, 0, none⟩ u0 (And.left hp) (And.right hp)).set_ ⟨b, 1, none⟩ u1 (And.left hp) (And.right hp)).set_ ⟨b, 2, none⟩ u2 (And.left hp) (And.right hp)
end

end Go.Proofs.Ytgpfiefhhlejfaa
