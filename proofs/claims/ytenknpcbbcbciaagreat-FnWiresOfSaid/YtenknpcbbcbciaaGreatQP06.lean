/- Contracts of gadgets. Contracts of ArithValues and EvalArith, of the program and of the reference. Contracts: an arithmetic circuit of one's own; AddOut. Worlds that differ in the blocks of a set alone: what is read or owned outside that set stays. No condition. The reader of choices: a box of a text of bytes, a place and a number. What it answers is any number below the bound; it changes its own box alone. Slices of bytes that came in: what the walks ask of them. No condition. -/
import Derived.Test.YtenknpcbbcbciaaGreatQP05
import Derived.BigQuiet
import Derived.Test.YtenknpcbbcbciaaGreatQP01
namespace Go.Proofs.YtenknpcbbcbciaaGreat
open Go.RowKit
set_option linter.unusedVariables false
set_option linter.unusedSimpArgs false
theorem RM.ofOwn {w : World} {lo hi b n c : Nat} {A : Option Addr} {xs : List Int} (h : Own w lo hi (.slice A n c) n xs) (hb : b < lo) : RM w b none A n xs := by
  refine ⟨h.reads, fun hn k o hA => ⟨?_, by simp⟩⟩
  obtain ⟨g, hg, h1, _⟩ := h.some_ hn
  rw [hA] at hg
  simp only [Option.some.injEq, Addr.mk.injEq, and_true] at hg
  omega
theorem Own.far1 {w : World} {lo hi n : Nat} {v : Value} {xs : List Int} (h : Own w lo hi v n xs) (p : Addr) (u : Value) (hp : v.ownBlock ≠ some p.block) : Own (w.setCell p u) lo hi v n xs := by
  refine ⟨⟨h.1.1, ?_⟩, h.2⟩
  rcases h.1.2 with h1 | ⟨g, cap, cur, rfl, hlo, hg, r⟩
  · exact .inl h1
  · refine .inr ⟨g, cap, cur, rfl, hlo, ?_, r⟩
    have hne : g ≠ p.block := fun hc => hp (by simp [Value.ownBlock, hc])
    rw [Below.heap_setCell w p u g hne]; exact hg
def Fz (w : World) (b : Nat) : Prop := ∀ q, w.frozen? ⟨b, q, none⟩ = false
theorem Fz.new (w : World) (c : Array Value) (t : TypeId) : Fz (w.alloc (.cells c t)) w.heap.size := fun q => World.frozen?_alloc_at _ _ _ _ rfl
theorem Fz.below {w w' : World} {b B : Nat} (h : Fz w b) (k : Below B w w') (hb : b < B) : Fz w' b := fun q => (k.frozen (p := ⟨b, q, none⟩) hb).trans (h q)
theorem Fz.mv {w w' : World} {b c : Nat} {G G' : Option Nat} (h : Fz w b) (k : Mv c G G' w w') (hb : b < w.heap.size) (hf : OffB c G b) : Fz w' b := fun q => (World.frozen?_of_block (w := w) (a := ⟨b, q, none⟩) (k.block b hb (And.left hf) (And.right hf))).trans (h q)
theorem Fz.set {w : World} {b : Nat} (h : Fz w b) (p : Addr) (v : Value) : Fz (w.setCell p v) b := fun q => (World.frozen?_setCell _ _ _ _).trans (h q)
theorem Mk.circuit {w : World} {lo lo2 b m oc : Nat} {x y : Int} {gs : List G3} {os : List Int} {G : Option Nat} {O : Option Addr} (hm : Mk w lo b x y gs G) (ho : OM w b G lo2 (.slice O m oc) m os) (hl : lo ≤ lo2) :
    ∃ Ag cg, BxC w b x y Ag gs.length cg none 0 0 ∧ BxC (w.setCell ⟨b, 3, none⟩ (.slice O m oc)) b x y Ag gs.length cg O m oc ∧ OwnC (w.setCell ⟨b, 3, none⟩ (.slice O m oc)) lo w.heap.size Ag gs.length cg O m oc gs os ∧ w.frozen? ⟨b, 3, none⟩ = false := by
  obtain ⟨h1, h2, hf, Ag, cg, hx, hg, rfl⟩ := hm
  have hne : (Value.slice O m oc).ownBlock ≠ some b := fun hc => (ho.2 b hc).1 rfl
  exact ⟨Ag, cg, hx, hx.setO O m oc, ⟨hg.far1 _ _ h2, (ho.1.lo_ hl).far1 _ _ hne, fun g hg ho' => (ho.2 g ho').2 hg⟩, hf 3⟩
theorem Mk.size {w : World} {lo b : Nat} {x y : Int} {gs : List G3} {G : Option Nat} (hm : Mk w lo b x y gs G) : b < w.heap.size := hm.1
def RetCi (w : World) (x y : Int) (gs : List G3) (os : List Int) (e : Ending) (w' : World) : Prop :=
  ∃ Ag cg Ao co, e = .returned (.agg #[.int .i64 x, .int .i64 y, .slice Ag gs.length cg, .slice Ao os.length co]) ∧ OwnC w' w.heap.size w'.heap.size Ag gs.length cg Ao os.length co gs os ∧ Below w.heap.size w w'
theorem RetCi.mk_ {w : World} {x y : Int} {gs : List G3} {os : List Int} {e : Ending} {w' : World} {Ag Ao : Option Addr} {cg m co : Nat} (hm : os.length = m) (he : e = .returned (.agg #[.int .i64 x, .int .i64 y, .slice Ag gs.length cg, .slice Ao m co])) (hw : OwnC w' w.heap.size w'.heap.size Ag gs.length cg Ao m co gs os) (hb : Below w.heap.size w w') : RetCi w x y gs os e w' := by
  subst hm; exact ⟨Ag, cg, Ao, co, he, hw, hb⟩
def RIn (w : World) (lo hi : Nat) (A : Option Addr) (n : Nat) (xs : List Int) : Prop := RI w A n xs ∧ (0 < n → ∀ k o, A = some ⟨k, o, none⟩ → lo ≤ k ∧ k < hi)
def OwnCr (w : World) (lo hi : Nat) (Ag : Option Addr) (ng cg : Nat) (Ao : Option Addr) (no co : Nat) (gs : List G3) (os : List Int) : Prop :=
  OwnG w lo hi (.slice Ag ng cg) ng gs ∧ RIn w lo hi Ao no os
section
variable {w w' : World} {lo hi : Nat} {Ag : Option Addr} {ng cg : Nat} {Ao : Option Addr} {no co : Nat} {gs : List G3} {os : List Int}
theorem RIn.below {B : Nat} (h : RIn w lo hi Ao no os) (hb : Below B w w') (hB : w.heap.size ≤ B ∨ hi ≤ B) : RIn w' lo hi Ao no os := by
  refine ⟨⟨h.1.1, fun hn => ?_⟩, h.2⟩
  obtain ⟨b, o, hA, hlt, hc⟩ := h.1.2 hn
  have hk := h.2 hn b o hA
  exact ⟨b, o, hA, Nat.lt_of_lt_of_le hlt hb.size, fun j hj => (hb.cell (p := ⟨b, o + j, none⟩) (by show b < B; omega)).trans (hc j hj)⟩
theorem RIn.chg {lo' hi' : Nat} (h : RIn w lo hi Ao no os) (k : Chg lo' hi' w w') (hd : hi ≤ lo' ∨ hi' ≤ lo) : RIn w' lo hi Ao no os := by
  refine ⟨⟨h.1.1, fun hn => ?_⟩, h.2⟩
  obtain ⟨b, o, hA, hlt, hc⟩ := h.1.2 hn
  have hk := h.2 hn b o hA
  exact ⟨b, o, hA, Nat.lt_of_lt_of_le hlt k.size, fun j hj => cell_chg (hc j hj) k (by show b < lo' ∨ hi' ≤ b; omega)⟩
theorem OwnCr.below {B : Nat} (h : OwnCr w lo hi Ag ng cg Ao no co gs os) (hb : Below B w w') (hB : w.heap.size ≤ B ∨ hi ≤ B) : OwnCr w' lo hi Ag ng cg Ao no co gs os := ⟨h.1.below hb hB, h.2.below hb hB⟩
theorem OwnCr.chg {lo' hi' : Nat} (h : OwnCr w lo hi Ag ng cg Ao no co gs os) (k : Chg lo' hi' w w') (hd : hi ≤ lo' ∨ hi' ≤ lo) : OwnCr w' lo hi Ag ng cg Ao no co gs os := ⟨h.1.chg k hd, h.2.chg k hd⟩
theorem OwnCr.reads (h : OwnCr w lo hi Ag ng cg Ao no co gs os) : RG w Ag ng gs ∧ RI w Ao no os := ⟨h.1.reads, h.2.1⟩
theorem OwnCr.lo_ {lo' : Nat} (h : OwnCr w lo hi Ag ng cg Ao no co gs os) (hl : lo' ≤ lo) : OwnCr w lo' hi Ag ng cg Ao no co gs os := ⟨h.1.lo_ hl, h.2.1, fun hn k o hA => ⟨Nat.le_trans hl (h.2.2 hn k o hA).1, (h.2.2 hn k o hA).2⟩⟩
theorem OwnC.toR (h : OwnC w lo hi Ag ng cg Ao no co gs os) : OwnCr w lo hi Ag ng cg Ao no co gs os := by
  refine ⟨h.1, h.2.1.reads, fun hn k o hA => ?_⟩
  obtain ⟨g, hg, h1, h2, _⟩ := h.2.1.some_ hn
  rw [hA] at hg
  simp only [Option.some.injEq, Addr.mk.injEq, and_true] at hg
  omega
end
theorem ciNew_any (x y : Int) (w : World) : Calls Tryz.prog 121 #[.int .i64 x, .int .i64 y] w fun e w' => e = .returned (.pointer (some ⟨w.heap.size, 0, none⟩)) ∧ w.alloc (.cells #[.int .i64 x, .int .i64 y, .slice none 0 0, .slice none 0 0] 106) = w' := by
  go_enter Tryz.func121, Tryz.ntmps121
  go_wp2
  go_ret
  exact ⟨rfl, rfl⟩
theorem RIn.far {w : World} {lo hi no : Nat} {Ao : Option Addr} {os : List Int} (h : RIn w lo hi Ao no os) (p : Addr) (u : Value) (hp : p.block < lo ∨ hi ≤ p.block) : RIn (w.setCell p u) lo hi Ao no os := by
  refine ⟨⟨h.1.1, fun hn => ?_⟩, h.2⟩
  obtain ⟨b, o, hA, hlt, hc⟩ := h.1.2 hn
  have hk := h.2 hn b o hA
  exact ⟨b, o, hA, by simpa using hlt, fun j hj => (World.cell?_setCell_other _ _ _ _ (fun he => by have := congrArg Addr.block he; simp at this; omega)).trans (hc j hj)⟩
theorem OwnCr.far {w : World} {lo hi : Nat} {Ag : Option Addr} {ng cg : Nat} {Ao : Option Addr} {no co : Nat} {gs : List G3} {os : List Int} (h : OwnCr w lo hi Ag ng cg Ao no co gs os) (p : Addr) (u : Value) (hp : p.block < lo ∨ hi ≤ p.block) : OwnCr (w.setCell p u) lo hi Ag ng cg Ao no co gs os := ⟨h.1.far p u hp, h.2.far p u hp⟩
theorem OwnCr.hi_ {w : World} {lo hi hi' : Nat} {Ag : Option Addr} {ng cg : Nat} {Ao : Option Addr} {no co : Nat} {gs : List G3} {os : List Int} (h : OwnCr w lo hi Ag ng cg Ao no co gs os) (hl : hi ≤ hi') : OwnCr w lo hi' Ag ng cg Ao no co gs os := ⟨h.1.hi_ hl, h.2.1, fun hn k o hA => ⟨(h.2.2 hn k o hA).1, Nat.lt_of_lt_of_le (h.2.2 hn k o hA).2 hl⟩⟩
theorem OwnCr.set4 {w : World} {b lo hi : Nat} {A1 : Option Addr} {n1 c1 : Nat} {A2 : Option Addr} {n2 c2 : Nat} {gs : List G3} {os : List Int} (h : OwnCr w lo hi A1 n1 c1 A2 n2 c2 gs os) (hb : b < lo ∨ hi ≤ b) (x y : Int) (Ag : Option Addr) (ng cg : Nat) (Ao : Option Addr) (no co : Nat) :
    OwnCr ((((w.setCell ⟨b, 0, none⟩ (.int .i64 x)).setCell ⟨b, 1, none⟩ (.int .i64 y)).setCell ⟨b, 2, none⟩ (.slice Ag ng cg)).setCell ⟨b, 3, none⟩ (.slice Ao no co)) lo hi A1 n1 c1 A2 n2 c2 gs os :=
  (((h.far ⟨b, 0, none⟩ _ hb).far ⟨b, 1, none⟩ _ hb).far ⟨b, 2, none⟩ _ hb).far ⟨b, 3, none⟩ _ hb
def RetCir (w : World) (x y : Int) (gs : List G3) (os : List Int) (e : Ending) (w' : World) : Prop :=
  ∃ Ag cg Ao co, e = .returned (.agg #[.int .i64 x, .int .i64 y, .slice Ag gs.length cg, .slice Ao os.length co]) ∧ OwnCr w' w.heap.size w'.heap.size Ag gs.length cg Ao os.length co gs os ∧ Below w.heap.size w w'
theorem RetCir.mk_ {w : World} {x y : Int} {gs : List G3} {os : List Int} {e : Ending} {w' : World} {Ag Ao : Option Addr} {cg m co : Nat} (hm : os.length = m) (he : e = .returned (.agg #[.int .i64 x, .int .i64 y, .slice Ag gs.length cg, .slice Ao m co])) (hw : OwnCr w' w.heap.size w'.heap.size Ag gs.length cg Ao m co gs os) (hb : Below w.heap.size w w') : RetCir w x y gs os e w' := by
  subst hm; exact ⟨Ag, cg, Ao, co, he, hw, hb⟩
def RetCr (w : World) (o : Option Ci) (e : Ending) (w' : World) : Prop :=
  ∃ Ag cg Ao co, e = .returned (.tuple #[.agg #[.int .i64 (o.getD ⟨0, 0, [], []⟩).i0, .int .i64 (o.getD ⟨0, 0, [], []⟩).i1, .slice Ag (o.getD ⟨0, 0, [], []⟩).gs.length cg, .slice Ao (o.getD ⟨0, 0, [], []⟩).os.length co], .bool o.isSome]) ∧
    OwnCr w' w.heap.size w'.heap.size Ag (o.getD ⟨0, 0, [], []⟩).gs.length cg Ao (o.getD ⟨0, 0, [], []⟩).os.length co (o.getD ⟨0, 0, [], []⟩).gs (o.getD ⟨0, 0, [], []⟩).os ∧ Below w.heap.size w w'
theorem RetCr.none_ {w : World} {o : Option Ci} {e : Ending} {w' : World} (hb : Below w.heap.size w w') (ho : o = none) (he : e = .returned (.tuple #[.agg #[.int .i64 0, .int .i64 0, .slice none 0 0, .slice none 0 0], .bool false])) : RetCr w o e w' := by
  subst ho; exact ⟨none, 0, none, 0, he, (OwnC.none_ _ _ _).toR, hb⟩
theorem RetCr.some_ {w : World} {o : Option Ci} {x y : Int} {gs : List G3} {os : List Int} {ng cg no co : Nat} {Ag Ao : Option Addr} {e : Ending} {w' : World} (hb : Below w.heap.size w w') (ho : o = some ⟨x, y, gs, os⟩) (hng : gs.length = ng) (hno : os.length = no)
    (he : e = .returned (.tuple #[.agg #[.int .i64 x, .int .i64 y, .slice Ag ng cg, .slice Ao no co], .bool true])) (hw : OwnCr w' w.heap.size w'.heap.size Ag ng cg Ao no co gs os) : RetCr w o e w' := by
  subst ho; subst hng; subst hno; exact ⟨Ag, cg, Ao, co, he, hw, hb⟩
theorem RetC.of {w : World} {o : Option Ci} {x y : Int} {gs : List G3} {os : List Int} {t : Bool} {cg co : Nat} {Ag Ao : Option Addr} {e : Ending} {w' : World} (hQ : o.getD ⟨0, 0, [], []⟩ = ⟨x, y, gs, os⟩) (ht : o.isSome = t) (he : e = .returned (.tuple #[.agg #[.int .i64 x, .int .i64 y, .slice Ag gs.length cg, .slice Ao os.length co], .bool t])) (hw : OwnC w' w.heap.size w'.heap.size Ag gs.length cg Ao os.length co gs os) (hb : Below w.heap.size w w') : RetC w o e w' := by
  refine ⟨Ag, cg, Ao, co, ?_⟩; rw [hQ, ht]; exact ⟨he, hw, hb⟩
theorem RetCr.of {w : World} {o : Option Ci} {x y : Int} {gs : List G3} {os : List Int} {t : Bool} {cg co : Nat} {Ag Ao : Option Addr} {e : Ending} {w' : World} (hQ : o.getD ⟨0, 0, [], []⟩ = ⟨x, y, gs, os⟩) (ht : o.isSome = t) (he : e = .returned (.tuple #[.agg #[.int .i64 x, .int .i64 y, .slice Ag gs.length cg, .slice Ao os.length co], .bool t])) (hw : OwnCr w' w.heap.size w'.heap.size Ag gs.length cg Ao os.length co gs os) (hb : Below w.heap.size w w') : RetCr w o e w' := by
  refine ⟨Ag, cg, Ao, co, ?_⟩; rw [hQ, ht]; exact ⟨he, hw, hb⟩
theorem RetC.to {w : World} {o : Option Ci} {x y : Int} {gs : List G3} {os : List Int} {t : Bool} {e : Ending} {w' : World} (h : RetC w o e w') (hQ : o.getD ⟨0, 0, [], []⟩ = ⟨x, y, gs, os⟩) (ht : o.isSome = t) :
    ∃ Ag cg Ao co, e = .returned (.tuple #[.agg #[.int .i64 x, .int .i64 y, .slice Ag gs.length cg, .slice Ao os.length co], .bool t]) ∧ OwnC w' w.heap.size w'.heap.size Ag gs.length cg Ao os.length co gs os ∧ Below w.heap.size w w' := by
  obtain ⟨Ag, cg, Ao, co, h⟩ := h; rw [hQ, ht] at h; exact ⟨Ag, cg, Ao, co, h⟩
theorem RetCr.to {w : World} {o : Option Ci} {x y : Int} {gs : List G3} {os : List Int} {t : Bool} {e : Ending} {w' : World} (h : RetCr w o e w') (hQ : o.getD ⟨0, 0, [], []⟩ = ⟨x, y, gs, os⟩) (ht : o.isSome = t) :
    ∃ Ag cg Ao co, e = .returned (.tuple #[.agg #[.int .i64 x, .int .i64 y, .slice Ag gs.length cg, .slice Ao os.length co], .bool t]) ∧ OwnCr w' w.heap.size w'.heap.size Ag gs.length cg Ao os.length co gs os ∧ Below w.heap.size w w' := by
  obtain ⟨Ag, cg, Ao, co, h⟩ := h; rw [hQ, ht] at h; exact ⟨Ag, cg, Ao, co, h⟩
theorem ciJoin_any (A B : Option Addr) (n c m d : Nat) (xs ys : List Int) (w : World) (ha : RI w A n xs) (hb : RI w B m ys) (hn : n ≤ 2097152) (hm : m ≤ 2097152) :
    Calls Tryz.prog 52 #[.slice A n c, .slice B m d] w fun e w' => ∃ A' c', e = .returned (.slice A' (n + m) c') ∧ Own w' w.heap.size w'.heap.size (.slice A' (n + m) c') (n + m) (xs ++ ys) ∧ Below w.heap.size w w' := by
  have hl := ha.len
  go_enter Tryz.func52, Tryz.ntmps52
  go_wp2_with fail
  refine (l1Own_any A n c xs _ ha hn).mono ?_
  rintro e w1 ⟨A1, c1, rfl, hown1, hb1⟩
  have hr := hb.below hb1 (Nat.le_refl _)
  have hz := hb1.size
  go_wp2_with (at_builtin; refine wpList_app _ rfl _ _ rfl rfl hown1 rfl hr (by omega) (by first | omega | (simp; done) | (simp; omega)) ?_; intro A5 c5 w5 hown5 hg5 hat5)
  have hb5 := below_app hb1 hown1 hg5 hz (Nat.le_refl _)
  clear hown1 hb1 hr hg5 hat5
  go_wp2
  go_ret
  exact ⟨_, _, rfl, hown5, hb5⟩
section
variable {w w' : World} {b : Nat} {p x y : Int} {Ag A' : Option Addr} {ng cg n' c' : Nat} {Ao : Option Addr} {no co : Nat}
theorem BxA.setG (h : BxA w b p x y Ag ng cg Ao no co) (A' : Option Addr) (n' c' : Nat) : BxA (w.setCell ⟨b, 3, none⟩ (.slice A' n' c')) b p x y A' n' c' Ao no co :=
  ⟨(World.cell?_setCell_other _ _ _ _ (by simp)).trans h.1, (World.cell?_setCell_other _ _ _ _ (by simp)).trans h.2.1, (World.cell?_setCell_other _ _ _ _ (by simp)).trans h.2.2.1, World.cell?_setCell_same _ _ _ h.2.2.2.1, (World.cell?_setCell_other _ _ _ _ (by simp)).trans h.2.2.2.2⟩
theorem BxA.setO (h : BxA w b p x y Ag ng cg Ao no co) (A' : Option Addr) (n' c' : Nat) : BxA (w.setCell ⟨b, 4, none⟩ (.slice A' n' c')) b p x y Ag ng cg A' n' c' :=
  ⟨(World.cell?_setCell_other _ _ _ _ (by simp)).trans h.1, (World.cell?_setCell_other _ _ _ _ (by simp)).trans h.2.1, (World.cell?_setCell_other _ _ _ _ (by simp)).trans h.2.2.1, (World.cell?_setCell_other _ _ _ _ (by simp)).trans h.2.2.2.1, World.cell?_setCell_same _ _ _ h.2.2.2.2⟩
theorem BxA.far (h : BxA w b p x y Ag ng cg Ao no co) (q : Addr) (v : Value) (hq : q.block ≠ b) : BxA (w.setCell q v) b p x y Ag ng cg Ao no co := by
  have hc : ∀ {r : Nat} {u : Value}, w.cell? ⟨b, r, none⟩ = some u → (w.setCell q v).cell? ⟨b, r, none⟩ = some u := fun {r u} hu => (World.cell?_setCell_other _ _ _ _ (fun he => hq (by rw [he]))).trans hu
  exact ⟨hc h.1, hc h.2.1, hc h.2.2.1, hc h.2.2.2.1, hc h.2.2.2.2⟩
theorem BxA.set5 {p0 x0 y0 : Int} {Ag0 : Option Addr} {ng0 cg0 : Nat} {Ao0 : Option Addr} {no0 co0 : Nat} (h : BxA w b p0 x0 y0 Ag0 ng0 cg0 Ao0 no0 co0) (p x y : Int) (Ag : Option Addr) (ng cg : Nat) (Ao : Option Addr) (no co : Nat) :
    BxA (((((w.setCell ⟨b, 0, none⟩ (.int .i64 p)).setCell ⟨b, 1, none⟩ (.int .i64 x)).setCell ⟨b, 2, none⟩ (.int .i64 y)).setCell ⟨b, 3, none⟩ (.slice Ag ng cg)).setCell ⟨b, 4, none⟩ (.slice Ao no co)) b p x y Ag ng cg Ao no co := by
  have h1 : BxA (w.setCell ⟨b, 0, none⟩ (.int .i64 p)) b p x0 y0 Ag0 ng0 cg0 Ao0 no0 co0 := ⟨World.cell?_setCell_same _ _ _ h.1, (World.cell?_setCell_other _ _ _ _ (by simp)).trans h.2.1, (World.cell?_setCell_other _ _ _ _ (by simp)).trans h.2.2.1, (World.cell?_setCell_other _ _ _ _ (by simp)).trans h.2.2.2.1, (World.cell?_setCell_other _ _ _ _ (by simp)).trans h.2.2.2.2⟩
  have h2 : BxA ((w.setCell ⟨b, 0, none⟩ (.int .i64 p)).setCell ⟨b, 1, none⟩ (.int .i64 x)) b p x y0 Ag0 ng0 cg0 Ao0 no0 co0 := ⟨(World.cell?_setCell_other _ _ _ _ (by simp)).trans h1.1, World.cell?_setCell_same _ _ _ h1.2.1, (World.cell?_setCell_other _ _ _ _ (by simp)).trans h1.2.2.1, (World.cell?_setCell_other _ _ _ _ (by simp)).trans h1.2.2.2.1, (World.cell?_setCell_other _ _ _ _ (by simp)).trans h1.2.2.2.2⟩
  have h3 : BxA (((w.setCell ⟨b, 0, none⟩ (.int .i64 p)).setCell ⟨b, 1, none⟩ (.int .i64 x)).setCell ⟨b, 2, none⟩ (.int .i64 y)) b p x y Ag0 ng0 cg0 Ao0 no0 co0 := ⟨(World.cell?_setCell_other _ _ _ _ (by simp)).trans h2.1, (World.cell?_setCell_other _ _ _ _ (by simp)).trans h2.2.1, World.cell?_setCell_same _ _ _ h2.2.2.1, (World.cell?_setCell_other _ _ _ _ (by simp)).trans h2.2.2.2.1, (World.cell?_setCell_other _ _ _ _ (by simp)).trans h2.2.2.2.2⟩
  exact (h3.setG Ag ng cg).setO Ao no co
theorem OwnC.set5 {lo hi : Nat} {A1 : Option Addr} {n1 c1 : Nat} {A2 : Option Addr} {n2 c2 : Nat} {gs : List G3} {os : List Int} (h : OwnC w lo hi A1 n1 c1 A2 n2 c2 gs os) (hb : b < lo ∨ hi ≤ b) (p x y : Int) (Ag : Option Addr) (ng cg : Nat) (Ao : Option Addr) (no co : Nat) :
    OwnC (((((w.setCell ⟨b, 0, none⟩ (.int .i64 p)).setCell ⟨b, 1, none⟩ (.int .i64 x)).setCell ⟨b, 2, none⟩ (.int .i64 y)).setCell ⟨b, 3, none⟩ (.slice Ag ng cg)).setCell ⟨b, 4, none⟩ (.slice Ao no co)) lo hi A1 n1 c1 A2 n2 c2 gs os :=
  ((((h.far ⟨b, 0, none⟩ _ hb).far ⟨b, 1, none⟩ _ hb).far ⟨b, 2, none⟩ _ hb).far ⟨b, 3, none⟩ _ hb).far ⟨b, 4, none⟩ _ hb
end
theorem OwnG_new0 (w : World) (lo : Nat) (hl : lo ≤ w.heap.size) : OwnG (w.alloc (.cells #[] 104)) lo (w.heap.size + 1) (.slice (some ⟨w.heap.size, 0, none⟩) 0 0) 0 [] := by
  refine ⟨?_, fun g hg => by simp [Value.ownBlock] at hg; omega⟩
  have h := World.ownsRow_lit (base := lo) (e := 104) (size := 3) w #[] 0 hl (by unfold maxLen; omega) (by simp)
  simpa [gcells] using h
def RetAi (w : World) (p x y : Int) (gs : List G3) (os : List Int) (e : Ending) (w' : World) : Prop :=
  ∃ Ag cg Ao co, e = .returned (.agg #[.int .i64 p, .int .i64 x, .int .i64 y, .slice Ag gs.length cg, .slice Ao os.length co]) ∧ OwnC w' w.heap.size w'.heap.size Ag gs.length cg Ao os.length co gs os ∧ Below w.heap.size w w'
theorem RetAi.mk_ {w : World} {p x y : Int} {gs : List G3} {os : List Int} {e : Ending} {w' : World} {Ag Ao : Option Addr} {ng cg no co : Nat} (hng : gs.length = ng) (hno : os.length = no) (he : e = .returned (.agg #[.int .i64 p, .int .i64 x, .int .i64 y, .slice Ag ng cg, .slice Ao no co])) (hw : OwnC w' w.heap.size w'.heap.size Ag ng cg Ao no co gs os) (hb : Below w.heap.size w w') : RetAi w p x y gs os e w' := by
  subst hng; subst hno; exact ⟨Ag, cg, Ao, co, he, hw, hb⟩
theorem RetAi.open_ {w : World} {p x y : Int} {gs : List G3} {os : List Int} {e : Ending} {w' : World} {ng no : Nat} (h : RetAi w p x y gs os e w') (hng : gs.length = ng) (hno : os.length = no) : ∃ Ag cg Ao co, e = .returned (.agg #[.int .i64 p, .int .i64 x, .int .i64 y, .slice Ag ng cg, .slice Ao no co]) ∧ OwnC w' w.heap.size w'.heap.size Ag ng cg Ao no co gs os ∧ Below w.heap.size w w' := by
  subst hng; subst hno; exact h
def OwnX (w : World) (lo b : Nat) (Ag : Option Addr) (ng cg : Nat) (Ao : Option Addr) (no co : Nat) (gs : List G3) (os : List Int) : Prop :=
  OwnC w lo w.heap.size Ag ng cg Ao no co gs os ∧ (Value.slice Ag ng cg).ownBlock ≠ some b ∧ (Value.slice Ao no co).ownBlock ≠ some b
section
variable {w w' : World} {lo b : Nat} {Ag Ag' : Option Addr} {ng cg ng' cg' : Nat} {Ao Ao' : Option Addr} {no co no' co' : Nat} {gs gs' : List G3} {os os' : List Int}
theorem OwnX.below_ {B : Nat} (h : OwnX w lo b Ag ng cg Ao no co gs os) (k : Below B w w') (hB : w.heap.size ≤ B) : OwnX w' lo b Ag ng cg Ao no co gs os :=
  ⟨(h.1.below k (.inl hB)).now, h.2⟩
theorem OwnX.store (h : OwnX w lo b Ag ng cg Ao no co gs os) (q : Nat) (u : Value) : OwnX (w.setCell ⟨b, q, none⟩ u) lo b Ag ng cg Ao no co gs os :=
  ⟨⟨by simpa using (h.1.1.far1 ⟨b, q, none⟩ u h.2.1), by simpa using (h.1.2.1.far1 ⟨b, q, none⟩ u h.2.2), h.1.2.2⟩, h.2⟩
theorem OwnX.of {hi : Nat} (h : OwnC w lo hi Ag ng cg Ao no co gs os) (hb : hi ≤ b) : OwnX w lo b Ag ng cg Ao no co gs os :=
  ⟨h.now, fun hc => by have := h.1.lt b hc; omega, fun hc => by have := h.2.1.lt b hc; omega⟩
theorem BxA.grown {p x y : Int} {r : Option Nat} (h : BxA w b p x y Ag ng cg Ao no co) (k : w.grownBy w' r) (hr : r ≠ some b) : BxA w' b p x y Ag ng cg Ao no co := by
  have hc : ∀ {q : Nat} {v : Value}, w.cell? ⟨b, q, none⟩ = some v → w'.cell? ⟨b, q, none⟩ = some v := fun {q v} hv => (World.cell?_of_block (w := w) (k.block b (World.block_lt_of_cell? w _ hv) (fun e => hr e.symm))).trans hv
  exact ⟨hc h.1, hc h.2.1, hc h.2.2.1, hc h.2.2.2.1, hc h.2.2.2.2⟩
theorem Fz.grown {r : Option Nat} (h : Fz w b) (k : w.grownBy w' r) (hb : b < w.heap.size) (hr : r ≠ some b) : Fz w' b := fun q => (World.frozen?_of_block (w := w) (a := ⟨b, q, none⟩) (k.block b hb (fun e => hr e.symm))).trans (h q)
end
structure Alt (S : Nat → Prop) (w w' : World) : Prop where
  os : w'.os = w.os
  tape : w'.tape = w.tape
  output : w'.output = w.output
  size : w.heap.size ≤ w'.heap.size
  block : ∀ k, k < w.heap.size → ¬ S k → w'.heap[k]? = w.heap[k]?
section
variable {S T : Nat → Prop} {a b c w w' : World}
theorem Alt.refl_ (S : Nat → Prop) (w : World) : Alt S w w := ⟨rfl, rfl, rfl, Nat.le_refl _, fun _ _ _ => rfl⟩
theorem Alt.trans_ (h : Alt S a b) (k : Alt T b c) (hs : ∀ i, i < a.heap.size → T i → S i) : Alt S a c :=
  ⟨k.os.trans h.os, k.tape.trans h.tape, k.output.trans h.output, Nat.le_trans h.size k.size, fun i hi hn => (k.block i (Nat.lt_of_lt_of_le hi h.size) (fun ht => hn (hs i hi ht))).trans (h.block i hi hn)⟩
theorem Alt.mono_ (h : Alt S a b) (hs : ∀ i, i < a.heap.size → S i → T i) : Alt T a b := (Alt.refl_ T a).trans_ h hs
theorem Alt.of_below {B : Nat} (h : Below B a b) (hs : ∀ i, i < a.heap.size → B ≤ i → S i) : Alt S a b :=
  ⟨h.os, h.tape, h.output, h.size, fun i hi hn => h.block i (Nat.lt_of_not_le fun hc => hn (hs i hi hc))⟩
theorem Alt.of_new (h : Below a.heap.size a b) : Alt S a b := Alt.of_below h fun i hi hB => by omega
theorem Alt.of_grown {r : Option Nat} (h : a.grownBy b r) (hs : ∀ i, r = some i → S i) : Alt S a b :=
  ⟨h.os, h.tape, h.output, h.size, fun i hi hn => h.block i hi fun he => hn (hs i he.symm)⟩
theorem Alt.new_ (h : Alt S a b) (k : Below b.heap.size b c) : Alt S a c := h.trans_ (T := S) (Alt.of_new k) fun _ _ h => h
theorem Alt.grow_ {r : Option Nat} (h : Alt S a b) (k : b.grownBy c r) (hs : ∀ i, i < a.heap.size → r = some i → S i) : Alt S a c :=
  h.trans_ (T := fun i => r = some i) (Alt.of_grown k fun _ h => h) hs
theorem Alt.set_ (h : Alt S a b) (p : Addr) (v : Value) (hp : p.block < a.heap.size → S p.block) : Alt S a (b.setCell p v) := by
  have k := (Below.refl p.block b).setCell (p := p) (Nat.le_refl _) v
  exact ⟨k.os.trans h.os, k.tape.trans h.tape, k.output.trans h.output, Nat.le_trans h.size k.size, fun i hi hn => (Below.heap_setCell b p v i (fun he => hn (by subst he; exact hp hi))).trans (h.block i hi hn)⟩
theorem Alt.alloc_ (h : Alt S a b) (o : Obj) : Alt S a (b.alloc o) := h.new_ ((Below.refl _ _).alloc (Nat.le_refl _) o)
theorem Alt.drewN_ (h : Alt S a b) (n : Nat) : Alt S a (b.drewN n) := ⟨h.os, h.tape, h.output, h.size, h.block⟩
theorem Alt.below_ {B : Nat} (h : Alt S a b) (hB : B ≤ a.heap.size) (hs : ∀ i, i < B → ¬ S i) : Below B a b :=
  ⟨h.os, h.tape, h.output, h.size, fun i hi => h.block i (by omega) (hs i hi)⟩
theorem Alt.cell_ {p : Addr} {v : Value} (k : Alt S w w') (h : w.cell? p = some v) (hp : ¬ S p.block) : w'.cell? p = some v :=
  (World.cell?_of_block (w := w) (k.block p.block (World.block_lt_of_cell? w _ h) hp)).trans h
end
section
variable {S : Nat → Prop} {w w' : World} {lo hi n b : Nat} {v : Value} {A : Option Addr}
theorem RI.alt {xs : List Int} (h : RI w A n xs) (k : Alt S w w') (hs : 0 < n → ∀ b o, A = some ⟨b, o, none⟩ → ¬ S b) : RI w' A n xs :=
  ⟨h.1, fun hn => by
    obtain ⟨b, o, hA, hlt, hc⟩ := h.2 hn
    exact ⟨b, o, hA, Nat.lt_of_lt_of_le hlt k.size, fun j hj => k.cell_ (hc j hj) (hs hn b o hA)⟩⟩
theorem RG.alt {xs : List G3} (h : RG w A n xs) (k : Alt S w w') (hs : 0 < n → ∀ b o, A = some ⟨b, o, none⟩ → ¬ S b) : RG w' A n xs :=
  ⟨h.1, fun hn => by
    obtain ⟨b, o, hA, hlt, hc⟩ := h.2 hn
    exact ⟨b, o, hA, Nat.lt_of_lt_of_le hlt k.size, fun j hj => ⟨k.cell_ (hc j hj).1 (hs hn b o hA), k.cell_ (hc j hj).2.1 (hs hn b o hA), k.cell_ (hc j hj).2.2 (hs hn b o hA)⟩⟩⟩
theorem Own.alt {xs : List Int} (h : Own w lo hi v n xs) (k : Alt S w w') (hs : ∀ g, v.ownBlock = some g → ¬ S g) : Own w' lo hi v n xs := by
  refine ⟨⟨h.1.1, ?_⟩, h.2⟩
  rcases h.1.2 with h1 | ⟨g, cap, cur, rfl, hlo, hg, r⟩
  · exact .inl h1
  · have hl := h.lt g (by simp [Value.ownBlock])
    exact .inr ⟨g, cap, cur, rfl, hlo, by rw [k.block g hl.2.2 (hs g (by simp [Value.ownBlock]))]; exact hg, r⟩
theorem OwnG.alt {xs : List G3} (h : OwnG w lo hi v n xs) (k : Alt S w w') (hs : ∀ g, v.ownBlock = some g → ¬ S g) : OwnG w' lo hi v n xs := by
  refine ⟨⟨h.1.1, ?_⟩, h.2⟩
  rcases h.1.2 with h1 | ⟨g, cap, cur, rfl, hlo, hg, r⟩
  · exact .inl h1
  · have hl := h.lt g (by simp [Value.ownBlock])
    exact .inr ⟨g, cap, cur, rfl, hlo, by rw [k.block g hl.2.2 (hs g (by simp [Value.ownBlock]))]; exact hg, r⟩
theorem Fz.alt (h : Fz w b) (k : Alt S w w') (hb : b < w.heap.size) (hs : ¬ S b) : Fz w' b := fun q => (World.frozen?_of_block (w := w) (a := ⟨b, q, none⟩) (k.block b hb hs)).trans (h q)
theorem BxC.alt {x y : Int} {Ag : Option Addr} {ng cg : Nat} {Ao : Option Addr} {no co : Nat} (h : BxC w b x y Ag ng cg Ao no co) (k : Alt S w w') (hs : ¬ S b) : BxC w' b x y Ag ng cg Ao no co :=
  ⟨k.cell_ h.1 hs, k.cell_ h.2.1 hs, k.cell_ h.2.2.1 hs, k.cell_ h.2.2.2 hs⟩
theorem BxA.alt {p x y : Int} {Ag : Option Addr} {ng cg : Nat} {Ao : Option Addr} {no co : Nat} (h : BxA w b p x y Ag ng cg Ao no co) (k : Alt S w w') (hs : ¬ S b) : BxA w' b p x y Ag ng cg Ao no co :=
  ⟨k.cell_ h.1 hs, k.cell_ h.2.1 hs, k.cell_ h.2.2.1 hs, k.cell_ h.2.2.2.1 hs, k.cell_ h.2.2.2.2 hs⟩
theorem RI.lt {xs : List Int} (h : RI w A n xs) {B : Nat} (hB : w.heap.size ≤ B) (hn : 0 < n) : ∀ b o, A = some ⟨b, o, none⟩ → b < B := fun b o hA => by
  obtain ⟨b', o', hA', hlt, _⟩ := h.2 hn
  rw [hA] at hA'; injection hA' with hA'; injection hA' with h1 h2; omega
theorem RG.lt {xs : List G3} (h : RG w A n xs) {B : Nat} (hB : w.heap.size ≤ B) (hn : 0 < n) : ∀ b o, A = some ⟨b, o, none⟩ → b < B := fun b o hA => by
  obtain ⟨b', o', hA', hlt, _⟩ := h.2 hn
  rw [hA] at hA'; injection hA' with hA'; injection hA' with h1 h2; omega
theorem BxC.bel {x y : Int} {Ag : Option Addr} {ng cg : Nat} {Ao : Option Addr} {no co : Nat} (h : BxC w b x y Ag ng cg Ao no co) {B : Nat} (k : Below B w w') (hb : b < B) : BxC w' b x y Ag ng cg Ao no co :=
  have hc : ∀ {q : Nat} {v : Value}, w.cell? ⟨b, q, none⟩ = some v → w'.cell? ⟨b, q, none⟩ = some v := fun {q v} hv => (k.cell (p := ⟨b, q, none⟩) hb).trans hv
  ⟨hc h.1, hc h.2.1, hc h.2.2.1, hc h.2.2.2⟩
theorem BxC.lt {x y : Int} {Ag : Option Addr} {ng cg : Nat} {Ao : Option Addr} {no co : Nat} (h : BxC w b x y Ag ng cg Ao no co) : b < w.heap.size := World.block_lt_of_cell? w _ h.1
theorem BxA.lt {p x y : Int} {Ag : Option Addr} {ng cg : Nat} {Ao : Option Addr} {no co : Nat} (h : BxA w b p x y Ag ng cg Ao no co) : b < w.heap.size := World.block_lt_of_cell? w _ h.1
end
def RY (w : World) (A : Option Addr) (n : Nat) : Prop := n ≤ 2097152 ∧ (0 < n → ∃ b o, A = some ⟨b, o, none⟩ ∧ b < w.heap.size ∧ ∀ i, i < n → ∃ x : Nat, x < 256 ∧ w.cell? ⟨b, o + i, none⟩ = some (.int .u8 x))
theorem RY.alt {S : Nat → Prop} {w w' : World} {A : Option Addr} {n : Nat} (h : RY w A n) (k : Alt S w w') (hs : 0 < n → ∀ b o, A = some ⟨b, o, none⟩ → ¬ S b) : RY w' A n :=
  ⟨h.1, fun hn => by
    obtain ⟨b, o, hA, hlt, hc⟩ := h.2 hn
    exact ⟨b, o, hA, Nat.lt_of_lt_of_le hlt k.size, fun j hj => by
      obtain ⟨x, hx, h1⟩ := hc j hj
      exact ⟨x, hx, k.cell_ h1 (hs hn b o hA)⟩⟩⟩
structure Cur (w : World) (b : Nat) (R : Nat → Prop) (T : Nat) : Prop where
  fz : Fz w b
  lt : b < w.heap.size
  got : ∃ (A : Option Addr) (n c p : Nat) (z : Int), w.cell? ⟨b, 0, none⟩ = some (.slice A n c) ∧ w.cell? ⟨b, 1, none⟩ = some (.int .i64 p) ∧ w.cell? ⟨b, 2, none⟩ = some (.int .u64 z) ∧ p ≤ T ∧ RY w A n ∧ (0 < n → ∀ q o, A = some ⟨q, o, none⟩ → R q ∧ q ≠ b)
theorem Cur.alt {S R : Nat → Prop} {w w' : World} {b T : Nat} (h : Cur w b R T) (k : Alt S w w') (hb : ¬ S b) (hs : ∀ i, R i → ¬ S i) : Cur w' b R T := by
  obtain ⟨A, n, c, p, z, c0, c1, c2, hp, hr, hq⟩ := h.got
  exact ⟨h.fz.alt k h.lt hb, Nat.lt_of_lt_of_le h.lt k.size, A, n, c, p, z, k.cell_ c0 hb, k.cell_ c1 hb, k.cell_ c2 hb, hp, hr.alt k (fun hn q o hA => hs q (hq hn q o hA).1), hq⟩
theorem Cur.mono {R : Nat → Prop} {w : World} {b T U : Nat} (h : Cur w b R T) (hT : T ≤ U) : Cur w b R U := by
  obtain ⟨A, n, c, p, z, c0, c1, c2, hp, hr⟩ := h.got
  exact ⟨h.fz, h.lt, A, n, c, p, z, c0, c1, c2, by omega, hr⟩
def RetCur (w : World) (b : Nat) (R : Nat → Prop) (T m : Nat) (e : Ending) (w' : World) : Prop :=
  ∃ v : Nat, v < m ∧ e = .returned (.int .i64 v) ∧ Cur w' b R T ∧ Alt (fun i => i = b) w w' ∧ w'.heap.size = w.heap.size
theorem and255 (x : Int) : ∃ v : Nat, v < 256 ∧ bits .and .u64 x 255 = (v : Int) := by
  refine ⟨(BitVec.ofInt 64 x &&& BitVec.ofInt 64 255).toNat, ?_, ?_⟩
  · have h : (BitVec.ofInt 64 x &&& BitVec.ofInt 64 255).toNat ≤ (BitVec.ofInt 64 255).toNat := by
      rw [BitVec.toNat_and]; exact Nat.and_le_right
    have h2 : (BitVec.ofInt 64 255).toNat = 255 := by decide
    omega
  · show IntKind.u64.wrap ((BitVec.ofInt 64 x &&& BitVec.ofInt 64 255).toNat : Int) = _
    have h : (BitVec.ofInt 64 x &&& BitVec.ofInt 64 255).toNat < 2 ^ 64 := BitVec.isLt _
    rw [IntKind.wrap_u64]; omega
theorem and255w (x : Int) : ∃ v : Nat, v < 256 ∧ wrap64 (bits .and .u64 x 255) = (v : Int) := by
  obtain ⟨v, hv, e⟩ := and255 x
  refine ⟨v, hv, ?_⟩
  rw [e]; unfold wrap64; omega
theorem cur_step {w : World} {b : Nat} {R : Nat → Prop} {T n c p : Nat} {A : Option Addr} {z : Int} (hf : Fz w b) (hb : b < w.heap.size) (c0 : w.cell? ⟨b, 0, none⟩ = some (.slice A n c)) (c1 : w.cell? ⟨b, 1, none⟩ = some (.int .i64 p)) (c2 : w.cell? ⟨b, 2, none⟩ = some (.int .u64 z)) (hp : p ≤ T) (hr : RY w A n) (hq : 0 < n → ∀ q o, A = some ⟨q, o, none⟩ → R q ∧ q ≠ b) (y : Int) (k m : Nat) :
    Cur ((((w.drewN k).setCell ⟨b, 1, none⟩ (.int .i64 ((p : Int) + 1))).setCell ⟨b, 2, none⟩ (.int .u64 y)).drewN m) b R (T + 1)
    ∧ Alt (fun i => i = b) w ((((w.drewN k).setCell ⟨b, 1, none⟩ (.int .i64 ((p : Int) + 1))).setCell ⟨b, 2, none⟩ (.int .u64 y)).drewN m)
    ∧ ((((w.drewN k).setCell ⟨b, 1, none⟩ (.int .i64 ((p : Int) + 1))).setCell ⟨b, 2, none⟩ (.int .u64 y)).drewN m).heap.size = w.heap.size := by
  have hA : Alt (fun i => i = b) w ((((w.drewN k).setCell ⟨b, 1, none⟩ (.int .i64 ((p : Int) + 1))).setCell ⟨b, 2, none⟩ (.int .u64 y)).drewN m) :=
    ((((Alt.refl_ (fun i => i = b) w).drewN_ k).set_ ⟨b, 1, none⟩ _ (fun _ => rfl)).set_ ⟨b, 2, none⟩ _ (fun _ => rfl)).drewN_ m
  refine ⟨⟨fun q => ?_, Nat.lt_of_lt_of_le hb hA.size, A, n, c, p + 1, y, ?_, ?_, ?_, by omega, hr.alt hA (fun hn q o h => (hq hn q o h).2), hq⟩, hA, by simp⟩
  · rw [World.frozen?_drewN, World.frozen?_setCell, World.frozen?_setCell]; exact hf q
  · rw [World.cell?_drewN, World.cell?_setCell_other _ _ _ _ (by simp), World.cell?_setCell_other _ _ _ _ (by simp)]; exact c0
  · rw [World.cell?_drewN, World.cell?_setCell_other _ _ _ _ (by simp), World.cell?_setCell_same (w.drewN k) ⟨b, 1, none⟩ _ c1]; rfl
  · exact World.cell?_setCell_same _ _ _ ((World.cell?_setCell_other _ _ _ _ (by simp)).trans c2)
theorem next_any (b : Nat) (R : Nat → Prop) (T : Nat) (w : World) (h : Cur w b R T) (hT : T < 1000000000) :
    Calls Tryz.prog 111 #[.pointer (some ⟨b, 0, none⟩)] w (RetCur w b R (T + 1) 256) := by
  obtain ⟨A, n, c, p, z, c0, c1, c2, hp, hr, hq⟩ := h.got
  have hb := h.lt
  have f1 := h.fz 1; have f2 := h.fz 2
  have hn := hr.1
  go_enter Tryz.func111, Tryz.ntmps111
  by_cases hlt : p < n
  · obtain ⟨q, o, rfl, hqb, hc⟩ := hr.2 (by omega)
    obtain ⟨x, hx, d⟩ := hc p hlt
    have hqn := (hq (by omega) q o rfl).2
    go_wp2
    go_quiet (fail)
    go_wp2
    go_quiet (fail)
    go_wp2
    go_quiet (fail)
    go_wp2
    go_ret
    exact ⟨x, hx, rfl, cur_step (c := c) h.fz hb c0 c1 c2 hp hr hq _ _ _⟩
  · go_wp2
    go_quiet (fail)
    go_wp2
    go_quiet (fail)
    go_wp2
    obtain ⟨v, hv, e⟩ := and255w (IntKind.u64.wrap (IntKind.u64.wrap (IntKind.u64.wrap (z * 6364136223846793005)) + 1442695040888963407) / 1099511627776)
    rw [e]
    go_ret
    exact ⟨v, hv, rfl, cur_step (c := c) h.fz hb c0 c1 c2 hp hr hq _ _ _⟩
def RetPick (w : World) (b : Nat) (R : Nat → Prop) (T : Nat) (n : Int) (e : Ending) (w' : World) : Prop :=
  ∃ v : Nat, ((v : Int) < n ∨ v = 0) ∧ v ≤ 65535 ∧ e = .returned (.int .i64 v) ∧ Cur w' b R T ∧ Alt (fun i => i = b) w w' ∧ w'.heap.size = w.heap.size
theorem emod_nat {x n : Int} (hx : 0 ≤ x) (h : 1 < n) : ∃ v : Nat, ((v : Int) < n ∨ v = 0) ∧ (v : Int) ≤ x ∧ x % n = (v : Int) := by
  have h1 := Int.emod_lt_of_pos x (show 0 < n by omega)
  have h2 := Int.emod_nonneg x (show n ≠ 0 by omega)
  have h3 : x % n ≤ x := by
    have h4 := Int.mul_ediv_add_emod x n
    have h5 : 0 ≤ n * (x / n) := Int.mul_nonneg (by omega) (Int.ediv_nonneg hx (by omega))
    omega
  exact ⟨(x % n).toNat, by omega, by omega, by omega⟩
theorem pick_any (n : Int) (b : Nat) (R : Nat → Prop) (T : Nat) (w : World) (h : Cur w b R T) (hT : T < 900000000) (hn : n ≤ 2147483648) :
    Calls Tryz.prog 62 #[.pointer (some ⟨b, 0, none⟩), .int .i64 n] w (RetPick w b R (T + 2) n) := by
  go_enter Tryz.func62, Tryz.ntmps62
  by_cases h1 : n ≤ 1
  · go_wp2
    go_ret
    exact ⟨0, .inr rfl, by omega, rfl, h.mono (by omega), Alt.refl_ _ _, rfl⟩
  · have h0 : ¬ n = 0 := by omega
    go_wp2_with fail
    refine (next_any b R T _ h (by omega)).mono ?_
    rintro e w1 ⟨v, hv, rfl, c1, k1, z1⟩
    by_cases h2 : 200 < n
    · go_wp2_with fail
      refine (next_any b R (T + 1) _ c1 (by omega)).mono ?_
      rintro e w2 ⟨u, hu, rfl, c2, k2, z2⟩
      go_wp2
      obtain ⟨r, hr, hr2, hr3⟩ := emod_nat (x := (v : Int) * 256 + u) (n := n) (by omega) (by omega)
      rw [hr3]
      go_ret
      exact ⟨r, hr, by omega, rfl, c2, k1.trans_ k2 (fun _ _ h => h), by omega⟩
    · go_wp2
      obtain ⟨r, hr, hr2, hr3⟩ := emod_nat (x := (v : Int)) (n := n) (by omega) (by omega)
      rw [hr3]
      go_ret
      exact ⟨r, hr, by omega, rfl, c1.mono (by omega), k1, z1⟩
def RetOne (w : World) (b : Nat) (R : Nat → Prop) (T : Nat) (e : Ending) (w' : World) : Prop :=
  ∃ t : Bool, e = .returned (.bool t) ∧ Cur w' b R T ∧ Alt (fun i => i = b) w w' ∧ w'.heap.size = w.heap.size
theorem one_any (n : Int) (b : Nat) (R : Nat → Prop) (T : Nat) (w : World) (h : Cur w b R T) (hT : T < 900000000) (hn : n ≤ 2147483648) :
    Calls Tryz.prog 106 #[.pointer (some ⟨b, 0, none⟩), .int .i64 n] w (RetOne w b R (T + 2)) := by
  go_enter Tryz.func106, Tryz.ntmps106
  go_wp2_with fail
  refine (pick_any n b R T _ h hT hn).mono ?_
  rintro e w1 ⟨v, hv, hv2, rfl, c1, k1, z1⟩
  go_wp2
  go_ret
  exact ⟨_, rfl, c1, k1, z1⟩
def RetAmong (w : World) (b : Nat) (R : Nat → Prop) (T : Nat) (xs : List Int) (e : Ending) (w' : World) : Prop :=
  ∃ x : Int, x ∈ xs ∧ e = .returned (.int .i64 x) ∧ Cur w' b R T ∧ Alt (fun i => i = b) w w' ∧ w'.heap.size = w.heap.size
theorem among_any (A : Option Addr) (n c : Nat) (xs : List Int) (b : Nat) (R : Nat → Prop) (T : Nat) (w : World) (h : Cur w b R T) (hT : T < 900000000) (hr : RI w A n xs) (hn : 0 < n) (hn2 : n ≤ 2147483648) (hq : ∀ q o, A = some ⟨q, o, none⟩ → q ≠ b) :
    Calls Tryz.prog 87 #[.pointer (some ⟨b, 0, none⟩), .slice A n c] w (RetAmong w b R (T + 2) xs) := by
  have hl := hr.1
  obtain ⟨q, o, rfl, hqb, hc⟩ := hr.2 hn
  have hq2 := hq q o rfl
  clear hq
  go_enter Tryz.func87, Tryz.ntmps87
  go_wp2_with fail
  refine (pick_any n b R T _ h hT (by omega)).mono ?_
  rintro e w1 ⟨v, hv, hv2, rfl, c1, k1, z1⟩
  have hvn : v < n := by omega
  have d := k1.cell_ (hc v hvn) hq2
  go_wp2
  go_ret
  exact ⟨_, gi_mem (by omega), rfl, c1, k1, z1⟩
end Go.Proofs.YtenknpcbbcbciaaGreat
namespace Go.Proofs.YtenknpcbbcbciaaGreat
open Go.ChangeShapes Go.WideShapes Go.ChangeAt Go.RowKit
set_option linter.unusedVariables false
set_option linter.unusedSimpArgs false
def RY0 (w : World) (A : Option Addr) (n : Nat) : Prop := 0 < n → ∃ b o, A = some ⟨b, o, none⟩ ∧ b < w.heap.size ∧ ∀ i, i < n → ∃ x : Nat, x < 256 ∧ w.cell? ⟨b, o + i, none⟩ = some (.int .u8 x)
theorem RY0.ry {w : World} {A : Option Addr} {n : Nat} (h : RY0 w A n) (hn : n ≤ 2097152) : RY w A n := ⟨hn, h⟩
set_option maxRecDepth 100000 in
theorem RY_of_trod {H : Type} {enc : TypeId × Value → H} {W : World} {base : Nat} {v : Value} {d : DataW H} {p : List MemPlace} (hval : Value.okWide Tryz.prog W .any base 22 v)
    (h : DataW.Trod enc Tryz.prog W 0 (fun _ => true) true 22 v d p) : ∃ a n c, v = .slice a n c ∧ RY0 W a n ∧ (n = 0 ∨ ∃ es sp, d = .slice es sp ∧ n ≤ es.length) := by
  obtain ⟨a, n, c, rfl⟩ := okWide_slice Tryz.underlying22 hval
  obtain ⟨fuel, hf⟩ := h
  refine ⟨a, n, c, rfl, ?_⟩
  rcases open_ints Tryz.underlying22 Tryz.underlying5 (by kernel_rfl) hf with ⟨hcs, _⟩ | ⟨x, l, c', zs, hcs, _, hl, hm, hz, hx, hcell, hwz⟩
  · simp [Value.cells] at hcs
    obtain ⟨rfl, rfl, rfl⟩ := hcs
    exact ⟨fun h => absurd h (by omega), .inl rfl⟩
  · simp [Value.cells] at hcs
    obtain ⟨rfl, rfl, rfl⟩ := hcs
    simp only [if_true] at hz
    simp only [Prod.mk.injEq] at hx
    refine ⟨fun hn => ?_, .inr ⟨_, _, hx.1, by simp [lits]; omega⟩⟩
    obtain ⟨b, o, spot⟩ := x
    have hc := hcell 0 (by omega)
    have hspot : spot = none := by simpa [Addr.add] using World.cell?_spot hc
    subst hspot
    refine ⟨b, o, rfl, World.block_lt_of_cell? W _ (by simpa [Addr.add] using hc), fun j hj => ?_⟩
    have h1 := hcell j (by omega)
    have h2 : (⟨b, o, none⟩ : Addr).add j = ⟨b, o + j, none⟩ := by
      unfold Addr.add; split
      · rename_i h; subst h; rfl
      · rfl
    rw [h2] at h1
    have hr := range_u8 hwz j
    refine ⟨(zs.getD j 0).toNat, ?_, ?_⟩
    · rw [List.getD_eq_getElem?_getD]; omega
    · rw [h1, List.getD_eq_getElem?_getD, Int.toNat_of_nonneg hr.1]
end Go.Proofs.YtenknpcbbcbciaaGreat
