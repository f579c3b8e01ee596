/- Rows of the call's own and worlds: gates' rows beside numbers' rows; circuits as results. No condition. -/
import Derived.Test.YtgenehiiakdadaaQGate
import Derived.Test.YtgenehiiakdadaaQChg
namespace Go.Proofs.Ytgenehiiakdadaa
open Go.RowKit
set_option linter.unusedVariables false
set_option linter.unusedSimpArgs false

theorem Own.far {w : World} {lo hi n : Nat} {v : Value} {xs : List Int} (h : Own w lo hi v n xs) (p : Addr) (u : Value) (hp : p.block < lo ∨ hi ≤ p.block) : Own (w.setCell p u) lo hi v n xs := by
  refine ⟨⟨h.1.1, ?_⟩, h.2⟩
  rcases h.1.2 with h1 | ⟨g, cap, cur, rfl, hlo, hg, r⟩
  · exact .inl h1
  · refine .inr ⟨g, cap, cur, rfl, hlo, ?_, r⟩
    have := h.lt g (by simp [Value.ownBlock])
    rw [Below.heap_setCell w p u g (by omega)]; exact hg
theorem OwnG.far {w : World} {lo hi n : Nat} {v : Value} {xs : List G3} (h : OwnG w lo hi v n xs) (p : Addr) (u : Value) (hp : p.block < lo ∨ hi ≤ p.block) : OwnG (w.setCell p u) lo hi v n xs := by
  refine ⟨⟨h.1.1, ?_⟩, h.2⟩
  rcases h.1.2 with h1 | ⟨g, cap, cur, rfl, hlo, hg, r⟩
  · exact .inl h1
  · refine .inr ⟨g, cap, cur, rfl, hlo, ?_, r⟩
    have := h.lt g (by simp [Value.ownBlock])
    rw [Below.heap_setCell w p u g (by omega)]; exact hg
theorem OwnG.chg {w w' : World} {lo hi lo' hi' n : Nat} {v : Value} {xs : List G3} (h : OwnG w lo hi v n xs) (k : Chg lo' hi' w w') (hd : hi ≤ lo' ∨ hi' ≤ lo) : OwnG w' lo hi v n xs := by
  refine ⟨⟨h.1.1, ?_⟩, h.2⟩
  rcases h.1.2 with h1 | ⟨g, cap, cur, rfl, hlo, hg, r⟩
  · exact .inl h1
  · have hl := h.lt g (by simp [Value.ownBlock])
    exact .inr ⟨g, cap, cur, rfl, hlo, by rw [k.block g (by omega) (by omega)]; exact hg, r⟩
theorem OwnG.apart {w w' : World} {lo hi n : Nat} {v v1 : Value} {xs : List G3} (h : OwnG w lo hi v n xs) (hg : w.grownBy w' v1.ownBlock) (ha : Apart v v1) : OwnG w' lo hi v n xs := by
  refine h.grown hg ?_
  cases hv : v.ownBlock with
  | none => exact .inl rfl
  | some g => exact .inr (fun he => ha g hv he.symm)
theorem Chg.of_grownG {lo hi n : Nat} {v : Value} {xs : List G3} {a b : World} (h : OwnG a lo hi v n xs) (hg : a.grownBy b v.ownBlock) : Chg lo hi a b :=
  ⟨hg.os, hg.tape, hg.output, hg.size, fun i hi ho => hg.block i hi (fun he => by have := h.lt i he.symm; omega)⟩
theorem Apart.of_lt {w w' : World} {lo hi lo' hi' n n' : Nat} {v v' : Value} {xs : List G3} {ys : List Int} (h : OwnG w lo hi v n xs) (h' : Own w' lo' hi' v' n' ys) (hd : hi ≤ lo' ∨ hi' ≤ lo) : Apart v v' := fun g h1 h2 => by
  have := h.lt g h1
  have := h'.lt g h2
  omega
theorem Apart.noneG (v : Value) (n c : Nat) : Apart (.slice none n c) v := fun g h _ => by simp [Value.ownBlock] at h

/-- The two rows of a circuit lie in blocks of the call's own, from lo on, below hi, one apart from the other. -/
def OwnC (w : World) (lo hi : Nat) (Ag : Option Addr) (ng cg : Nat) (Ao : Option Addr) (no co : Nat) (gs : List G3) (os : List Int) : Prop :=
  OwnG w lo hi (.slice Ag ng cg) ng gs ∧ Own w lo hi (.slice Ao no co) no os ∧ Apart (.slice Ag ng cg) (.slice Ao no co)
section
variable {w w' : World} {lo hi : Nat} {Ag : Option Addr} {ng cg : Nat} {Ao : Option Addr} {no co : Nat} {gs : List G3} {os : List Int}
theorem OwnC.below {B : Nat} (h : OwnC w lo hi Ag ng cg Ao no co gs os) (hb : Below B w w') (hB : w.heap.size ≤ B ∨ hi ≤ B) : OwnC w' lo hi Ag ng cg Ao no co gs os :=
  ⟨h.1.below hb hB, h.2.1.below hb hB, h.2.2⟩
theorem OwnC.chg {lo' hi' : Nat} (h : OwnC w lo hi Ag ng cg Ao no co gs os) (k : Chg lo' hi' w w') (hd : hi ≤ lo' ∨ hi' ≤ lo) : OwnC w' lo hi Ag ng cg Ao no co gs os :=
  ⟨h.1.chg k hd, h.2.1.chg k hd, h.2.2⟩
theorem OwnC.far (h : OwnC w lo hi Ag ng cg Ao no co gs os) (p : Addr) (u : Value) (hp : p.block < lo ∨ hi ≤ p.block) : OwnC (w.setCell p u) lo hi Ag ng cg Ao no co gs os :=
  ⟨h.1.far p u hp, h.2.1.far p u hp, h.2.2⟩
theorem OwnC.reads (h : OwnC w lo hi Ag ng cg Ao no co gs os) : RG w Ag ng gs ∧ RI w Ao no os := ⟨h.1.reads, h.2.1.reads⟩
theorem OwnC.none_ (w : World) (lo hi : Nat) : OwnC w lo hi none 0 0 none 0 0 [] [] := ⟨OwnG.none_ _ _ _, Own.none_ _ _ _, Apart.noneG _ _ _⟩
theorem OwnC.lo_ {lo' : Nat} (h : OwnC w lo hi Ag ng cg Ao no co gs os) (hl : lo' ≤ lo) : OwnC w lo' hi Ag ng cg Ao no co gs os := ⟨h.1.lo_ hl, h.2.1.lo_ hl, h.2.2⟩
theorem OwnC.hi_ {hi' : Nat} (h : OwnC w lo hi Ag ng cg Ao no co gs os) (hl : hi ≤ hi') : OwnC w lo hi' Ag ng cg Ao no co gs os := ⟨h.1.hi_ hl, h.2.1.hi_ hl, h.2.2⟩
theorem OwnC.now (h : OwnC w lo hi Ag ng cg Ao no co gs os) : OwnC w lo w.heap.size Ag ng cg Ao no co gs os := ⟨h.1.now, h.2.1.now, h.2.2⟩
end

/-- An arithmetic circuit. -/
structure Ai where
  p : Int
  i0 : Int
  i1 : Int
  gs : List G3
  os : List Int
/-- A call that began at w returns a new circuit and true; or an empty one and false. -/
def RetC (w : World) (o : Option Ci) (e : Ending) (w' : World) : Prop :=
  ∃ Ag cg Ao co, e = .returned (.tuple #[.agg #[.int .i64 (o.getD ⟨0, 0, [], []⟩).i0, .int .i64 (o.getD ⟨0, 0, [], []⟩).i1, .slice Ag (o.getD ⟨0, 0, [], []⟩).gs.length cg, .slice Ao (o.getD ⟨0, 0, [], []⟩).os.length co], .bool o.isSome]) ∧
    OwnC w' w.heap.size w'.heap.size Ag (o.getD ⟨0, 0, [], []⟩).gs.length cg Ao (o.getD ⟨0, 0, [], []⟩).os.length co (o.getD ⟨0, 0, [], []⟩).gs (o.getD ⟨0, 0, [], []⟩).os ∧ Below w.heap.size w w'
def RetA (w : World) (o : Option Ai) (e : Ending) (w' : World) : Prop :=
  ∃ Ag cg Ao co, e = .returned (.tuple #[.agg #[.int .i64 (o.getD ⟨0, 0, 0, [], []⟩).p, .int .i64 (o.getD ⟨0, 0, 0, [], []⟩).i0, .int .i64 (o.getD ⟨0, 0, 0, [], []⟩).i1, .slice Ag (o.getD ⟨0, 0, 0, [], []⟩).gs.length cg, .slice Ao (o.getD ⟨0, 0, 0, [], []⟩).os.length co], .bool o.isSome]) ∧
    OwnC w' w.heap.size w'.heap.size Ag (o.getD ⟨0, 0, 0, [], []⟩).gs.length cg Ao (o.getD ⟨0, 0, 0, [], []⟩).os.length co (o.getD ⟨0, 0, 0, [], []⟩).gs (o.getD ⟨0, 0, 0, [], []⟩).os ∧ Below w.heap.size w w'
theorem RetC.none_ {w : World} {o : Option Ci} {e : Ending} {w' : World} (hb : Below w.heap.size w w') (ho : o = none) (he : e = .returned (.tuple #[.agg #[.int .i64 0, .int .i64 0, .slice none 0 0, .slice none 0 0], .bool false])) : RetC w o e w' := by
  subst ho; exact ⟨none, 0, none, 0, he, OwnC.none_ _ _ _, hb⟩
theorem RetA.none_ {w : World} {o : Option Ai} {e : Ending} {w' : World} (hb : Below w.heap.size w w') (ho : o = none) (he : e = .returned (.tuple #[.agg #[.int .i64 0, .int .i64 0, .int .i64 0, .slice none 0 0, .slice none 0 0], .bool false])) : RetA w o e w' := by
  subst ho; exact ⟨none, 0, none, 0, he, OwnC.none_ _ _ _, hb⟩
theorem RetC.some_ {w : World} {o : Option Ci} {x y : Int} {gs : List G3} {os : List Int} {ng cg no co : Nat} {Ag Ao : Option Addr} {e : Ending} {w' : World} (hb : Below w.heap.size w w') (ho : o = some ⟨x, y, gs, os⟩) (hng : gs.length = ng) (hno : os.length = no)
    (he : e = .returned (.tuple #[.agg #[.int .i64 x, .int .i64 y, .slice Ag ng cg, .slice Ao no co], .bool true])) (hw : OwnC w' w.heap.size w'.heap.size Ag ng cg Ao no co gs os) : RetC w o e w' := by
  subst ho; subst hng; subst hno; exact ⟨Ag, cg, Ao, co, he, hw, hb⟩
theorem RetA.some_ {w : World} {o : Option Ai} {p x y : Int} {gs : List G3} {os : List Int} {ng cg no co : Nat} {Ag Ao : Option Addr} {e : Ending} {w' : World} (hb : Below w.heap.size w w') (ho : o = some ⟨p, x, y, gs, os⟩) (hng : gs.length = ng) (hno : os.length = no)
    (he : e = .returned (.tuple #[.agg #[.int .i64 p, .int .i64 x, .int .i64 y, .slice Ag ng cg, .slice Ao no co], .bool true])) (hw : OwnC w' w.heap.size w'.heap.size Ag ng cg Ao no co gs os) : RetA w o e w' := by
  subst ho; subst hng; subst hno; exact ⟨Ag, cg, Ao, co, he, hw, hb⟩

/-- The box b holds these values of a circuit, or of an arithmetic circuit. -/
def BxC (w : World) (b : Nat) (x y : Int) (Ag : Option Addr) (ng cg : Nat) (Ao : Option Addr) (no co : Nat) : Prop :=
  w.cell? ⟨b, 0, none⟩ = some (.int .i64 x) ∧ w.cell? ⟨b, 1, none⟩ = some (.int .i64 y) ∧ w.cell? ⟨b, 2, none⟩ = some (.slice Ag ng cg) ∧ w.cell? ⟨b, 3, none⟩ = some (.slice Ao no co)
def BxA (w : World) (b : Nat) (p x y : Int) (Ag : Option Addr) (ng cg : Nat) (Ao : Option Addr) (no co : Nat) : Prop :=
  w.cell? ⟨b, 0, none⟩ = some (.int .i64 p) ∧ w.cell? ⟨b, 1, none⟩ = some (.int .i64 x) ∧ w.cell? ⟨b, 2, none⟩ = some (.int .i64 y) ∧ w.cell? ⟨b, 3, none⟩ = some (.slice Ag ng cg) ∧ w.cell? ⟨b, 4, none⟩ = some (.slice Ao no co)
theorem cell_chg {lo hi : Nat} {w w' : World} {p : Addr} {v : Value} (h : w.cell? p = some v) (k : Chg lo hi w w') (hb : p.block < lo ∨ hi ≤ p.block) : w'.cell? p = some v :=
  (World.cell?_of_block (w := w) (k.block p.block (World.block_lt_of_cell? w _ h) hb)).trans h
theorem cell_bel {w w' : World} {p : Addr} {v : Value} (h : w.cell? p = some v) (hb : Below w.heap.size w w') : w'.cell? p = some v :=
  (hb.cell (World.block_lt_of_cell? w _ h)).trans h
section
variable {w w' : World} {b : Nat} {p x y : Int} {Ag : Option Addr} {ng cg : Nat} {Ao : Option Addr} {no co : Nat}
theorem BxC.below (h : BxC w b x y Ag ng cg Ao no co) (hb : Below w.heap.size w w') : BxC w' b x y Ag ng cg Ao no co :=
  ⟨cell_bel h.1 hb, cell_bel h.2.1 hb, cell_bel h.2.2.1 hb, cell_bel h.2.2.2 hb⟩
theorem BxA.below (h : BxA w b p x y Ag ng cg Ao no co) (hb : Below w.heap.size w w') : BxA w' b p x y Ag ng cg Ao no co :=
  ⟨cell_bel h.1 hb, cell_bel h.2.1 hb, cell_bel h.2.2.1 hb, cell_bel h.2.2.2.1 hb, cell_bel h.2.2.2.2 hb⟩
theorem BxC.chg {lo hi : Nat} (h : BxC w b x y Ag ng cg Ao no co) (k : Chg lo hi w w') (hb : b < lo ∨ hi ≤ b) : BxC w' b x y Ag ng cg Ao no co :=
  ⟨cell_chg h.1 k hb, cell_chg h.2.1 k hb, cell_chg h.2.2.1 k hb, cell_chg h.2.2.2 k hb⟩
theorem BxA.chg {lo hi : Nat} (h : BxA w b p x y Ag ng cg Ao no co) (k : Chg lo hi w w') (hb : b < lo ∨ hi ≤ b) : BxA w' b p x y Ag ng cg Ao no co :=
  ⟨cell_chg h.1 k hb, cell_chg h.2.1 k hb, cell_chg h.2.2.1 k hb, cell_chg h.2.2.2.1 k hb, cell_chg h.2.2.2.2 k hb⟩
theorem BxC.new (w : World) (T : TypeId) : BxC (w.alloc (.cells #[.int .i64 x, .int .i64 y, .slice Ag ng cg, .slice Ao no co] T)) w.heap.size x y Ag ng cg Ao no co :=
  ⟨box_cell w _ 0 _ rfl, box_cell w _ 1 _ rfl, box_cell w _ 2 _ rfl, box_cell w _ 3 _ rfl⟩
theorem BxA.new (w : World) (T : TypeId) : BxA (w.alloc (.cells #[.int .i64 p, .int .i64 x, .int .i64 y, .slice Ag ng cg, .slice Ao no co] T)) w.heap.size p x y Ag ng cg Ao no co :=
  ⟨box_cell w _ 0 _ rfl, box_cell w _ 1 _ rfl, box_cell w _ 2 _ rfl, box_cell w _ 3 _ rfl, box_cell w _ 4 _ rfl⟩
end

end Go.Proofs.Ytgenehiiakdadaa
