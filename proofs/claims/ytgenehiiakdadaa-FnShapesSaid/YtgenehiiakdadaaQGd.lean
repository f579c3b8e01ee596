/- Contracts of gadgets. -/
import Derived.Test.YtgenehiiakdadaaQMk2
namespace Go.Proofs.Ytgenehiiakdadaa
open Go.RowKit
set_option linter.unusedVariables false
set_option linter.unusedSimpArgs false

theorem RM.ofOwn {w : World} {lo hi b n c : Nat} {A : Option Addr} {xs : List Int} (h : Own w lo hi (.slice A n c) n xs) (hb : b < lo) : RM w b none A n xs := by
  refine ⟨h.reads, fun hn k o hA => ⟨?_, by simp⟩⟩
  obtain ⟨g, hg, h1, _⟩ := h.some_ hn
  rw [hA] at hg
  simp only [Option.some.injEq, Addr.mk.injEq, and_true] at hg
  omega
theorem Own.far1 {w : World} {lo hi n : Nat} {v : Value} {xs : List Int} (h : Own w lo hi v n xs) (p : Addr) (u : Value) (hp : v.ownBlock ≠ some p.block) : Own (w.setCell p u) lo hi v n xs := by
  refine ⟨⟨h.1.1, ?_⟩, h.2⟩
  rcases h.1.2 with h1 | ⟨g, cap, cur, rfl, hlo, hg, r⟩
  · exact .inl h1
  · refine .inr ⟨g, cap, cur, rfl, hlo, ?_, r⟩
    have hne : g ≠ p.block := fun hc => hp (by simp [Value.ownBlock, hc])
    rw [Below.heap_setCell w p u g hne]; exact hg
/-- No cell of the block is frozen. -/
def Fz (w : World) (b : Nat) : Prop := ∀ q, w.frozen? ⟨b, q, none⟩ = false
theorem Fz.new (w : World) (c : Array Value) (t : TypeId) : Fz (w.alloc (.cells c t)) w.heap.size := fun q => World.frozen?_alloc_at _ _ _ _ rfl
theorem Fz.below {w w' : World} {b B : Nat} (h : Fz w b) (k : Below B w w') (hb : b < B) : Fz w' b := fun q => (k.frozen (p := ⟨b, q, none⟩) hb).trans (h q)
theorem Fz.mv {w w' : World} {b c : Nat} {G G' : Option Nat} (h : Fz w b) (k : Mv c G G' w w') (hb : b < w.heap.size) (hf : OffB c G b) : Fz w' b := fun q => (World.frozen?_of_block (w := w) (a := ⟨b, q, none⟩) (k.block b hb (And.left hf) (And.right hf))).trans (h q)
theorem Fz.set {w : World} {b : Nat} (h : Fz w b) (p : Addr) (v : Value) : Fz (w.setCell p v) b := fun q => (World.frozen?_setCell _ _ _ _).trans (h q)
/-- A maker's circuit with its outs: what the box holds when the outs are stored. -/
theorem Mk.circuit {w : World} {lo lo2 b m oc : Nat} {x y : Int} {gs : List G3} {os : List Int} {G : Option Nat} {O : Option Addr} (hm : Mk w lo b x y gs G) (ho : OM w b G lo2 (.slice O m oc) m os) (hl : lo ≤ lo2) :
    ∃ Ag cg, BxC w b x y Ag gs.length cg none 0 0 ∧ BxC (w.setCell ⟨b, 3, none⟩ (.slice O m oc)) b x y Ag gs.length cg O m oc ∧ OwnC (w.setCell ⟨b, 3, none⟩ (.slice O m oc)) lo w.heap.size Ag gs.length cg O m oc gs os ∧ w.frozen? ⟨b, 3, none⟩ = false := by
  obtain ⟨h1, h2, hf, Ag, cg, hx, hg, rfl⟩ := hm
  have hne : (Value.slice O m oc).ownBlock ≠ some b := fun hc => (ho.2 b hc).1 rfl
  exact ⟨Ag, cg, hx, hx.setO O m oc, ⟨hg.far1 _ _ h2, (ho.1.lo_ hl).far1 _ _ hne, fun g hg ho' => (ho.2 g ho').2 hg⟩, hf 3⟩
theorem Mk.size {w : World} {lo b : Nat} {x y : Int} {gs : List G3} {G : Option Nat} (hm : Mk w lo b x y gs G) : b < w.heap.size := hm.1
/-- A call that began at w returns a new circuit. -/
def RetCi (w : World) (x y : Int) (gs : List G3) (os : List Int) (e : Ending) (w' : World) : Prop :=
  ∃ Ag cg Ao co, e = .returned (.agg #[.int .i64 x, .int .i64 y, .slice Ag gs.length cg, .slice Ao os.length co]) ∧ OwnC w' w.heap.size w'.heap.size Ag gs.length cg Ao os.length co gs os ∧ Below w.heap.size w w'
theorem RetCi.mk_ {w : World} {x y : Int} {gs : List G3} {os : List Int} {e : Ending} {w' : World} {Ag Ao : Option Addr} {cg m co : Nat} (hm : os.length = m) (he : e = .returned (.agg #[.int .i64 x, .int .i64 y, .slice Ag gs.length cg, .slice Ao m co])) (hw : OwnC w' w.heap.size w'.heap.size Ag gs.length cg Ao m co gs os) (hb : Below w.heap.size w w') : RetCi w x y gs os e w' := by
  subst hm; exact ⟨Ag, cg, Ao, co, he, hw, hb⟩
/-- A row of numbers that is read, in blocks from lo on, below hi. -/
def RIn (w : World) (lo hi : Nat) (A : Option Addr) (n : Nat) (xs : List Int) : Prop := RI w A n xs ∧ (0 < n → ∀ k o, A = some ⟨k, o, none⟩ → lo ≤ k ∧ k < hi)
/-- As OwnC; the outs are read only. -/
def OwnCr (w : World) (lo hi : Nat) (Ag : Option Addr) (ng cg : Nat) (Ao : Option Addr) (no co : Nat) (gs : List G3) (os : List Int) : Prop :=
  OwnG w lo hi (.slice Ag ng cg) ng gs ∧ RIn w lo hi Ao no os
section
variable {w w' : World} {lo hi : Nat} {Ag : Option Addr} {ng cg : Nat} {Ao : Option Addr} {no co : Nat} {gs : List G3} {os : List Int}
theorem RIn.below {B : Nat} (h : RIn w lo hi Ao no os) (hb : Below B w w') (hB : w.heap.size ≤ B ∨ hi ≤ B) : RIn w' lo hi Ao no os := by
  refine ⟨⟨h.1.1, fun hn => ?_⟩, h.2⟩
  obtain ⟨b, o, hA, hlt, hc⟩ := h.1.2 hn
  have hk := h.2 hn b o hA
  exact ⟨b, o, hA, Nat.lt_of_lt_of_le hlt hb.size, fun j hj => (hb.cell (p := ⟨b, o + j, none⟩) (by show b < B; omega)).trans (hc j hj)⟩
theorem RIn.chg {lo' hi' : Nat} (h : RIn w lo hi Ao no os) (k : Chg lo' hi' w w') (hd : hi ≤ lo' ∨ hi' ≤ lo) : RIn w' lo hi Ao no os := by
  refine ⟨⟨h.1.1, fun hn => ?_⟩, h.2⟩
  obtain ⟨b, o, hA, hlt, hc⟩ := h.1.2 hn
  have hk := h.2 hn b o hA
  exact ⟨b, o, hA, Nat.lt_of_lt_of_le hlt k.size, fun j hj => cell_chg (hc j hj) k (by show b < lo' ∨ hi' ≤ b; omega)⟩
theorem OwnCr.below {B : Nat} (h : OwnCr w lo hi Ag ng cg Ao no co gs os) (hb : Below B w w') (hB : w.heap.size ≤ B ∨ hi ≤ B) : OwnCr w' lo hi Ag ng cg Ao no co gs os := ⟨h.1.below hb hB, h.2.below hb hB⟩
theorem OwnCr.chg {lo' hi' : Nat} (h : OwnCr w lo hi Ag ng cg Ao no co gs os) (k : Chg lo' hi' w w') (hd : hi ≤ lo' ∨ hi' ≤ lo) : OwnCr w' lo hi Ag ng cg Ao no co gs os := ⟨h.1.chg k hd, h.2.chg k hd⟩
theorem OwnCr.reads (h : OwnCr w lo hi Ag ng cg Ao no co gs os) : RG w Ag ng gs ∧ RI w Ao no os := ⟨h.1.reads, h.2.1⟩
theorem OwnCr.lo_ {lo' : Nat} (h : OwnCr w lo hi Ag ng cg Ao no co gs os) (hl : lo' ≤ lo) : OwnCr w lo' hi Ag ng cg Ao no co gs os := ⟨h.1.lo_ hl, h.2.1, fun hn k o hA => ⟨Nat.le_trans hl (h.2.2 hn k o hA).1, (h.2.2 hn k o hA).2⟩⟩
theorem OwnC.toR (h : OwnC w lo hi Ag ng cg Ao no co gs os) : OwnCr w lo hi Ag ng cg Ao no co gs os := by
  refine ⟨h.1, h.2.1.reads, fun hn k o hA => ?_⟩
  obtain ⟨g, hg, h1, h2, _⟩ := h.2.1.some_ hn
  rw [hA] at hg
  simp only [Option.some.injEq, Addr.mk.injEq, and_true] at hg
  omega
end

theorem ciNew_any (x y : Int) (w : World) : Calls Try.prog 59 #[.int .i64 x, .int .i64 y] w fun e w' => e = .returned (.pointer (some ⟨w.heap.size, 0, none⟩)) ∧ w.alloc (.cells #[.int .i64 x, .int .i64 y, .slice none 0 0, .slice none 0 0] 78) = w' := by
  go_enter Try.func59, Try.ntmps59
  go_wp2
  go_ret
  exact ⟨rfl, rfl⟩

theorem RIn.far {w : World} {lo hi no : Nat} {Ao : Option Addr} {os : List Int} (h : RIn w lo hi Ao no os) (p : Addr) (u : Value) (hp : p.block < lo ∨ hi ≤ p.block) : RIn (w.setCell p u) lo hi Ao no os := by
  refine ⟨⟨h.1.1, fun hn => ?_⟩, h.2⟩
  obtain ⟨b, o, hA, hlt, hc⟩ := h.1.2 hn
  have hk := h.2 hn b o hA
  exact ⟨b, o, hA, by simpa using hlt, fun j hj => (World.cell?_setCell_other _ _ _ _ (fun he => by have := congrArg Addr.block he; simp at this; omega)).trans (hc j hj)⟩
theorem OwnCr.far {w : World} {lo hi : Nat} {Ag : Option Addr} {ng cg : Nat} {Ao : Option Addr} {no co : Nat} {gs : List G3} {os : List Int} (h : OwnCr w lo hi Ag ng cg Ao no co gs os) (p : Addr) (u : Value) (hp : p.block < lo ∨ hi ≤ p.block) : OwnCr (w.setCell p u) lo hi Ag ng cg Ao no co gs os := ⟨h.1.far p u hp, h.2.far p u hp⟩
theorem OwnCr.hi_ {w : World} {lo hi hi' : Nat} {Ag : Option Addr} {ng cg : Nat} {Ao : Option Addr} {no co : Nat} {gs : List G3} {os : List Int} (h : OwnCr w lo hi Ag ng cg Ao no co gs os) (hl : hi ≤ hi') : OwnCr w lo hi' Ag ng cg Ao no co gs os := ⟨h.1.hi_ hl, h.2.1, fun hn k o hA => ⟨(h.2.2 hn k o hA).1, Nat.lt_of_lt_of_le (h.2.2 hn k o hA).2 hl⟩⟩
theorem OwnCr.set4 {w : World} {b lo hi : Nat} {A1 : Option Addr} {n1 c1 : Nat} {A2 : Option Addr} {n2 c2 : Nat} {gs : List G3} {os : List Int} (h : OwnCr w lo hi A1 n1 c1 A2 n2 c2 gs os) (hb : b < lo ∨ hi ≤ b) (x y : Int) (Ag : Option Addr) (ng cg : Nat) (Ao : Option Addr) (no co : Nat) :
    OwnCr ((((w.setCell ⟨b, 0, none⟩ (.int .i64 x)).setCell ⟨b, 1, none⟩ (.int .i64 y)).setCell ⟨b, 2, none⟩ (.slice Ag ng cg)).setCell ⟨b, 3, none⟩ (.slice Ao no co)) lo hi A1 n1 c1 A2 n2 c2 gs os :=
  (((h.far ⟨b, 0, none⟩ _ hb).far ⟨b, 1, none⟩ _ hb).far ⟨b, 2, none⟩ _ hb).far ⟨b, 3, none⟩ _ hb
/-- As RetCi, RetC; the outs are read only. -/
def RetCir (w : World) (x y : Int) (gs : List G3) (os : List Int) (e : Ending) (w' : World) : Prop :=
  ∃ Ag cg Ao co, e = .returned (.agg #[.int .i64 x, .int .i64 y, .slice Ag gs.length cg, .slice Ao os.length co]) ∧ OwnCr w' w.heap.size w'.heap.size Ag gs.length cg Ao os.length co gs os ∧ Below w.heap.size w w'
theorem RetCir.mk_ {w : World} {x y : Int} {gs : List G3} {os : List Int} {e : Ending} {w' : World} {Ag Ao : Option Addr} {cg m co : Nat} (hm : os.length = m) (he : e = .returned (.agg #[.int .i64 x, .int .i64 y, .slice Ag gs.length cg, .slice Ao m co])) (hw : OwnCr w' w.heap.size w'.heap.size Ag gs.length cg Ao m co gs os) (hb : Below w.heap.size w w') : RetCir w x y gs os e w' := by
  subst hm; exact ⟨Ag, cg, Ao, co, he, hw, hb⟩
def RetCr (w : World) (o : Option Ci) (e : Ending) (w' : World) : Prop :=
  ∃ Ag cg Ao co, e = .returned (.tuple #[.agg #[.int .i64 (o.getD ⟨0, 0, [], []⟩).i0, .int .i64 (o.getD ⟨0, 0, [], []⟩).i1, .slice Ag (o.getD ⟨0, 0, [], []⟩).gs.length cg, .slice Ao (o.getD ⟨0, 0, [], []⟩).os.length co], .bool o.isSome]) ∧
    OwnCr w' w.heap.size w'.heap.size Ag (o.getD ⟨0, 0, [], []⟩).gs.length cg Ao (o.getD ⟨0, 0, [], []⟩).os.length co (o.getD ⟨0, 0, [], []⟩).gs (o.getD ⟨0, 0, [], []⟩).os ∧ Below w.heap.size w w'
theorem RetCr.none_ {w : World} {o : Option Ci} {e : Ending} {w' : World} (hb : Below w.heap.size w w') (ho : o = none) (he : e = .returned (.tuple #[.agg #[.int .i64 0, .int .i64 0, .slice none 0 0, .slice none 0 0], .bool false])) : RetCr w o e w' := by
  subst ho; exact ⟨none, 0, none, 0, he, (OwnC.none_ _ _ _).toR, hb⟩
theorem RetCr.some_ {w : World} {o : Option Ci} {x y : Int} {gs : List G3} {os : List Int} {ng cg no co : Nat} {Ag Ao : Option Addr} {e : Ending} {w' : World} (hb : Below w.heap.size w w') (ho : o = some ⟨x, y, gs, os⟩) (hng : gs.length = ng) (hno : os.length = no)
    (he : e = .returned (.tuple #[.agg #[.int .i64 x, .int .i64 y, .slice Ag ng cg, .slice Ao no co], .bool true])) (hw : OwnCr w' w.heap.size w'.heap.size Ag ng cg Ao no co gs os) : RetCr w o e w' := by
  subst ho; subst hng; subst hno; exact ⟨Ag, cg, Ao, co, he, hw, hb⟩
theorem RetC.of {w : World} {o : Option Ci} {x y : Int} {gs : List G3} {os : List Int} {t : Bool} {cg co : Nat} {Ag Ao : Option Addr} {e : Ending} {w' : World} (hQ : o.getD ⟨0, 0, [], []⟩ = ⟨x, y, gs, os⟩) (ht : o.isSome = t) (he : e = .returned (.tuple #[.agg #[.int .i64 x, .int .i64 y, .slice Ag gs.length cg, .slice Ao os.length co], .bool t])) (hw : OwnC w' w.heap.size w'.heap.size Ag gs.length cg Ao os.length co gs os) (hb : Below w.heap.size w w') : RetC w o e w' := by
  refine ⟨Ag, cg, Ao, co, ?_⟩; rw [hQ, ht]; exact ⟨he, hw, hb⟩
theorem RetCr.of {w : World} {o : Option Ci} {x y : Int} {gs : List G3} {os : List Int} {t : Bool} {cg co : Nat} {Ag Ao : Option Addr} {e : Ending} {w' : World} (hQ : o.getD ⟨0, 0, [], []⟩ = ⟨x, y, gs, os⟩) (ht : o.isSome = t) (he : e = .returned (.tuple #[.agg #[.int .i64 x, .int .i64 y, .slice Ag gs.length cg, .slice Ao os.length co], .bool t])) (hw : OwnCr w' w.heap.size w'.heap.size Ag gs.length cg Ao os.length co gs os) (hb : Below w.heap.size w w') : RetCr w o e w' := by
  refine ⟨Ag, cg, Ao, co, ?_⟩; rw [hQ, ht]; exact ⟨he, hw, hb⟩
theorem RetC.to {w : World} {o : Option Ci} {x y : Int} {gs : List G3} {os : List Int} {t : Bool} {e : Ending} {w' : World} (h : RetC w o e w') (hQ : o.getD ⟨0, 0, [], []⟩ = ⟨x, y, gs, os⟩) (ht : o.isSome = t) :
    ∃ Ag cg Ao co, e = .returned (.tuple #[.agg #[.int .i64 x, .int .i64 y, .slice Ag gs.length cg, .slice Ao os.length co], .bool t]) ∧ OwnC w' w.heap.size w'.heap.size Ag gs.length cg Ao os.length co gs os ∧ Below w.heap.size w w' := by
  obtain ⟨Ag, cg, Ao, co, h⟩ := h; rw [hQ, ht] at h; exact ⟨Ag, cg, Ao, co, h⟩
theorem RetCr.to {w : World} {o : Option Ci} {x y : Int} {gs : List G3} {os : List Int} {t : Bool} {e : Ending} {w' : World} (h : RetCr w o e w') (hQ : o.getD ⟨0, 0, [], []⟩ = ⟨x, y, gs, os⟩) (ht : o.isSome = t) :
    ∃ Ag cg Ao co, e = .returned (.tuple #[.agg #[.int .i64 x, .int .i64 y, .slice Ag gs.length cg, .slice Ao os.length co], .bool t]) ∧ OwnCr w' w.heap.size w'.heap.size Ag gs.length cg Ao os.length co gs os ∧ Below w.heap.size w w' := by
  obtain ⟨Ag, cg, Ao, co, h⟩ := h; rw [hQ, ht] at h; exact ⟨Ag, cg, Ao, co, h⟩

end Go.Proofs.Ytgenehiiakdadaa
