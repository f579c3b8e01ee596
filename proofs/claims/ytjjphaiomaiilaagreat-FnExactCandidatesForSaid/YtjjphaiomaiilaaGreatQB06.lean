/- Contracts: spans, a circuit that is valid, a gadget. Contracts of gadgets. Contracts of ArithValues and EvalArith, of the program and of the reference. Contracts: an arithmetic circuit of one's own; AddOut. Worlds that differ in the blocks of a set alone: what is read or owned outside that set stays. No condition. A maker whose outs are any slice. Lengths below 2^21. -/
import Derived.Test.YtjjphaiomaiilaaGreatQB05
namespace Go.Proofs.YtjjphaiomaiilaaGreat
open Go.RowKit
set_option linter.unusedVariables false
set_option linter.unusedSimpArgs false
theorem gdRange_any (a : Int) (n : Nat) (w : World) (ha : 0 ≤ a ∧ a ≤ 1000000) (hn : n ≤ 1000000) :
    Calls Tryz.prog 92 #[.int .i64 a, .int .i64 n] w (RetI w (spn a n)) := by
  have HS := Lib.hid (spn_snoc a)
  have hs0 : spn a 0 = [] := rfl
  have HL := Lib.hid (spn_len a)
  obtain ⟨ha0, ha1⟩ := ha
  have hnone : Own w w.heap.size w.heap.size (.slice none 0 0) 0 (spn a 0) ∧ Below w.heap.size w w := ⟨by rw [hs0]; exact Own.none_ _ _ _, Below.refl _ _⟩
  have hsome : Own (w.alloc (.cells #[] 3)) w.heap.size (w.alloc (.cells #[] 3)).heap.size (.slice (some ⟨w.heap.size, 0, none⟩) 0 0) 0 (spn a 0) ∧ Below w.heap.size w (w.alloc (.cells #[] 3)) := ⟨by rw [hs0]; exact (Own_new0 w _ (Nat.le_refl _)).now, (Below.refl _ _).alloc (Nat.le_refl _) _⟩
  go_enter Tryz.func92, Tryz.ntmps92
  go_wp2
  go_loopw [5, 6] (fun o i wr => ∃ (k : Nat) (O : Option Addr) (oc : Nat), k ≤ n ∧ i = .int .i64 k ∧ o = .slice O k oc ∧ Own wr w.heap.size wr.heap.size (.slice O k oc) k (spn a k) ∧ Below w.heap.size w wr) (fun _ i _ => n - (intOf i).toNat)
  case atStart => exact ⟨0, _, _, Nat.zero_le _, rfl, rfl, hnone.1, hnone.2⟩
  case round =>
    obtain ⟨k, O, oc, hk, rfl, rfl, hown, hb⟩ := hrel
    clear hnone hsome
    have hz := hb.size
    by_cases hlt : k < n
    · have hsn := Lib.hid (HS.out k)
      have hoA := hown.alloc (.cells #[.int .i64 (a + k)] 3)
      have hbA := hb.alloc hz (.cells #[.int .i64 (a + k)] 3)
      go_wp2_with (at_builtin; refine wpList_appI _ rfl _ _ rfl rfl hoA rfl (RI_one _ _ _ _ (by simp)) (by omega) (by first | omega | (simp; done) | (simp; omega)) ?_; intro A5 c5 w5 hown5 hg5 hat5 hk5)
      have hb5 := below_app hbA hoA hg5 (by simp; omega) (Nat.le_refl _)
      rw [← hsn.out] at hown5
      clear hoA hbA hg5 hat5 hk5 hown hb hsn
      go_wp2
      go_roundw
      case rel => exact ⟨k + 1, _, _, by omega, by go_num, rfl, hown5, hb5⟩
      case measure => simp [intOf]; omega
    · obtain rfl : n = k := Nat.le_antisymm (Nat.le_of_not_lt hlt) hk
      go_wp2
      go_ret
      exact RetI.mk_ (HL.out n) rfl hown hb
theorem RM.ofOwn {w : World} {lo hi b n c : Nat} {A : Option Addr} {xs : List Int} (h : Own w lo hi (.slice A n c) n xs) (hb : b < lo) : RM w b none A n xs := by
  refine ⟨h.reads, fun hn k o hA => ⟨?_, by simp⟩⟩
  obtain ⟨g, hg, h1, _⟩ := h.some_ hn
  rw [hA] at hg
  simp only [Option.some.injEq, Addr.mk.injEq, and_true] at hg
  omega
theorem Own.far1 {w : World} {lo hi n : Nat} {v : Value} {xs : List Int} (h : Own w lo hi v n xs) (p : Addr) (u : Value) (hp : v.ownBlock ≠ some p.block) : Own (w.setCell p u) lo hi v n xs := by
  refine ⟨⟨h.1.1, ?_⟩, h.2⟩
  rcases h.1.2 with h1 | ⟨g, cap, cur, rfl, hlo, hg, r⟩
  · exact .inl h1
  · refine .inr ⟨g, cap, cur, rfl, hlo, ?_, r⟩
    have hne : g ≠ p.block := fun hc => hp (by simp [Value.ownBlock, hc])
    rw [Below.heap_setCell w p u g hne]; exact hg
def Fz (w : World) (b : Nat) : Prop := ∀ q, w.frozen? ⟨b, q, none⟩ = false
theorem Fz.new (w : World) (c : Array Value) (t : TypeId) : Fz (w.alloc (.cells c t)) w.heap.size := fun q => World.frozen?_alloc_at _ _ _ _ rfl
theorem Fz.below {w w' : World} {b B : Nat} (h : Fz w b) (k : Below B w w') (hb : b < B) : Fz w' b := fun q => (k.frozen (p := ⟨b, q, none⟩) hb).trans (h q)
theorem Fz.mv {w w' : World} {b c : Nat} {G G' : Option Nat} (h : Fz w b) (k : Mv c G G' w w') (hb : b < w.heap.size) (hf : OffB c G b) : Fz w' b := fun q => (World.frozen?_of_block (w := w) (a := ⟨b, q, none⟩) (k.block b hb (And.left hf) (And.right hf))).trans (h q)
theorem Fz.set {w : World} {b : Nat} (h : Fz w b) (p : Addr) (v : Value) : Fz (w.setCell p v) b := fun q => (World.frozen?_setCell _ _ _ _).trans (h q)
theorem Mk.circuit {w : World} {lo lo2 b m oc : Nat} {x y : Int} {gs : List G3} {os : List Int} {G : Option Nat} {O : Option Addr} (hm : Mk w lo b x y gs G) (ho : OM w b G lo2 (.slice O m oc) m os) (hl : lo ≤ lo2) :
    ∃ Ag cg, BxC w b x y Ag gs.length cg none 0 0 ∧ BxC (w.setCell ⟨b, 3, none⟩ (.slice O m oc)) b x y Ag gs.length cg O m oc ∧ OwnC (w.setCell ⟨b, 3, none⟩ (.slice O m oc)) lo w.heap.size Ag gs.length cg O m oc gs os ∧ w.frozen? ⟨b, 3, none⟩ = false := by
  obtain ⟨h1, h2, hf, Ag, cg, hx, hg, rfl⟩ := hm
  have hne : (Value.slice O m oc).ownBlock ≠ some b := fun hc => (ho.2 b hc).1 rfl
  exact ⟨Ag, cg, hx, hx.setO O m oc, ⟨hg.far1 _ _ h2, (ho.1.lo_ hl).far1 _ _ hne, fun g hg ho' => (ho.2 g ho').2 hg⟩, hf 3⟩
theorem Mk.size {w : World} {lo b : Nat} {x y : Int} {gs : List G3} {G : Option Nat} (hm : Mk w lo b x y gs G) : b < w.heap.size := hm.1
def RetCi (w : World) (x y : Int) (gs : List G3) (os : List Int) (e : Ending) (w' : World) : Prop :=
  ∃ Ag cg Ao co, e = .returned (.agg #[.int .i64 x, .int .i64 y, .slice Ag gs.length cg, .slice Ao os.length co]) ∧ OwnC w' w.heap.size w'.heap.size Ag gs.length cg Ao os.length co gs os ∧ Below w.heap.size w w'
theorem RetCi.mk_ {w : World} {x y : Int} {gs : List G3} {os : List Int} {e : Ending} {w' : World} {Ag Ao : Option Addr} {cg m co : Nat} (hm : os.length = m) (he : e = .returned (.agg #[.int .i64 x, .int .i64 y, .slice Ag gs.length cg, .slice Ao m co])) (hw : OwnC w' w.heap.size w'.heap.size Ag gs.length cg Ao m co gs os) (hb : Below w.heap.size w w') : RetCi w x y gs os e w' := by
  subst hm; exact ⟨Ag, cg, Ao, co, he, hw, hb⟩
def RIn (w : World) (lo hi : Nat) (A : Option Addr) (n : Nat) (xs : List Int) : Prop := RI w A n xs ∧ (0 < n → ∀ k o, A = some ⟨k, o, none⟩ → lo ≤ k ∧ k < hi)
def OwnCr (w : World) (lo hi : Nat) (Ag : Option Addr) (ng cg : Nat) (Ao : Option Addr) (no co : Nat) (gs : List G3) (os : List Int) : Prop :=
  OwnG w lo hi (.slice Ag ng cg) ng gs ∧ RIn w lo hi Ao no os
section
variable {w w' : World} {lo hi : Nat} {Ag : Option Addr} {ng cg : Nat} {Ao : Option Addr} {no co : Nat} {gs : List G3} {os : List Int}
theorem RIn.below {B : Nat} (h : RIn w lo hi Ao no os) (hb : Below B w w') (hB : w.heap.size ≤ B ∨ hi ≤ B) : RIn w' lo hi Ao no os := by
  refine ⟨⟨h.1.1, fun hn => ?_⟩, h.2⟩
  obtain ⟨b, o, hA, hlt, hc⟩ := h.1.2 hn
  have hk := h.2 hn b o hA
  exact ⟨b, o, hA, Nat.lt_of_lt_of_le hlt hb.size, fun j hj => (hb.cell (p := ⟨b, o + j, none⟩) (by show b < B; omega)).trans (hc j hj)⟩
theorem RIn.chg {lo' hi' : Nat} (h : RIn w lo hi Ao no os) (k : Chg lo' hi' w w') (hd : hi ≤ lo' ∨ hi' ≤ lo) : RIn w' lo hi Ao no os := by
  refine ⟨⟨h.1.1, fun hn => ?_⟩, h.2⟩
  obtain ⟨b, o, hA, hlt, hc⟩ := h.1.2 hn
  have hk := h.2 hn b o hA
  exact ⟨b, o, hA, Nat.lt_of_lt_of_le hlt k.size, fun j hj => cell_chg (hc j hj) k (by show b < lo' ∨ hi' ≤ b; omega)⟩
theorem OwnCr.below {B : Nat} (h : OwnCr w lo hi Ag ng cg Ao no co gs os) (hb : Below B w w') (hB : w.heap.size ≤ B ∨ hi ≤ B) : OwnCr w' lo hi Ag ng cg Ao no co gs os := ⟨h.1.below hb hB, h.2.below hb hB⟩
theorem OwnCr.chg {lo' hi' : Nat} (h : OwnCr w lo hi Ag ng cg Ao no co gs os) (k : Chg lo' hi' w w') (hd : hi ≤ lo' ∨ hi' ≤ lo) : OwnCr w' lo hi Ag ng cg Ao no co gs os := ⟨h.1.chg k hd, h.2.chg k hd⟩
theorem OwnCr.reads (h : OwnCr w lo hi Ag ng cg Ao no co gs os) : RG w Ag ng gs ∧ RI w Ao no os := ⟨h.1.reads, h.2.1⟩
theorem OwnCr.lo_ {lo' : Nat} (h : OwnCr w lo hi Ag ng cg Ao no co gs os) (hl : lo' ≤ lo) : OwnCr w lo' hi Ag ng cg Ao no co gs os := ⟨h.1.lo_ hl, h.2.1, fun hn k o hA => ⟨Nat.le_trans hl (h.2.2 hn k o hA).1, (h.2.2 hn k o hA).2⟩⟩
theorem OwnC.toR (h : OwnC w lo hi Ag ng cg Ao no co gs os) : OwnCr w lo hi Ag ng cg Ao no co gs os := by
  refine ⟨h.1, h.2.1.reads, fun hn k o hA => ?_⟩
  obtain ⟨g, hg, h1, h2, _⟩ := h.2.1.some_ hn
  rw [hA] at hg
  simp only [Option.some.injEq, Addr.mk.injEq, and_true] at hg
  omega
end
theorem ciNew_any (x y : Int) (w : World) : Calls Tryz.prog 91 #[.int .i64 x, .int .i64 y] w fun e w' => e = .returned (.pointer (some ⟨w.heap.size, 0, none⟩)) ∧ w.alloc (.cells #[.int .i64 x, .int .i64 y, .slice none 0 0, .slice none 0 0] 83) = w' := by
  go_enter Tryz.func91, Tryz.ntmps91
  go_wp2
  go_ret
  exact ⟨rfl, rfl⟩
theorem RIn.far {w : World} {lo hi no : Nat} {Ao : Option Addr} {os : List Int} (h : RIn w lo hi Ao no os) (p : Addr) (u : Value) (hp : p.block < lo ∨ hi ≤ p.block) : RIn (w.setCell p u) lo hi Ao no os := by
  refine ⟨⟨h.1.1, fun hn => ?_⟩, h.2⟩
  obtain ⟨b, o, hA, hlt, hc⟩ := h.1.2 hn
  have hk := h.2 hn b o hA
  exact ⟨b, o, hA, by simpa using hlt, fun j hj => (World.cell?_setCell_other _ _ _ _ (fun he => by have := congrArg Addr.block he; simp at this; omega)).trans (hc j hj)⟩
theorem OwnCr.far {w : World} {lo hi : Nat} {Ag : Option Addr} {ng cg : Nat} {Ao : Option Addr} {no co : Nat} {gs : List G3} {os : List Int} (h : OwnCr w lo hi Ag ng cg Ao no co gs os) (p : Addr) (u : Value) (hp : p.block < lo ∨ hi ≤ p.block) : OwnCr (w.setCell p u) lo hi Ag ng cg Ao no co gs os := ⟨h.1.far p u hp, h.2.far p u hp⟩
theorem OwnCr.hi_ {w : World} {lo hi hi' : Nat} {Ag : Option Addr} {ng cg : Nat} {Ao : Option Addr} {no co : Nat} {gs : List G3} {os : List Int} (h : OwnCr w lo hi Ag ng cg Ao no co gs os) (hl : hi ≤ hi') : OwnCr w lo hi' Ag ng cg Ao no co gs os := ⟨h.1.hi_ hl, h.2.1, fun hn k o hA => ⟨(h.2.2 hn k o hA).1, Nat.lt_of_lt_of_le (h.2.2 hn k o hA).2 hl⟩⟩
theorem OwnCr.set4 {w : World} {b lo hi : Nat} {A1 : Option Addr} {n1 c1 : Nat} {A2 : Option Addr} {n2 c2 : Nat} {gs : List G3} {os : List Int} (h : OwnCr w lo hi A1 n1 c1 A2 n2 c2 gs os) (hb : b < lo ∨ hi ≤ b) (x y : Int) (Ag : Option Addr) (ng cg : Nat) (Ao : Option Addr) (no co : Nat) :
    OwnCr ((((w.setCell ⟨b, 0, none⟩ (.int .i64 x)).setCell ⟨b, 1, none⟩ (.int .i64 y)).setCell ⟨b, 2, none⟩ (.slice Ag ng cg)).setCell ⟨b, 3, none⟩ (.slice Ao no co)) lo hi A1 n1 c1 A2 n2 c2 gs os :=
  (((h.far ⟨b, 0, none⟩ _ hb).far ⟨b, 1, none⟩ _ hb).far ⟨b, 2, none⟩ _ hb).far ⟨b, 3, none⟩ _ hb
def RetCir (w : World) (x y : Int) (gs : List G3) (os : List Int) (e : Ending) (w' : World) : Prop :=
  ∃ Ag cg Ao co, e = .returned (.agg #[.int .i64 x, .int .i64 y, .slice Ag gs.length cg, .slice Ao os.length co]) ∧ OwnCr w' w.heap.size w'.heap.size Ag gs.length cg Ao os.length co gs os ∧ Below w.heap.size w w'
theorem RetCir.mk_ {w : World} {x y : Int} {gs : List G3} {os : List Int} {e : Ending} {w' : World} {Ag Ao : Option Addr} {cg m co : Nat} (hm : os.length = m) (he : e = .returned (.agg #[.int .i64 x, .int .i64 y, .slice Ag gs.length cg, .slice Ao m co])) (hw : OwnCr w' w.heap.size w'.heap.size Ag gs.length cg Ao m co gs os) (hb : Below w.heap.size w w') : RetCir w x y gs os e w' := by
  subst hm; exact ⟨Ag, cg, Ao, co, he, hw, hb⟩
def RetCr (w : World) (o : Option Ci) (e : Ending) (w' : World) : Prop :=
  ∃ Ag cg Ao co, e = .returned (.tuple #[.agg #[.int .i64 (o.getD ⟨0, 0, [], []⟩).i0, .int .i64 (o.getD ⟨0, 0, [], []⟩).i1, .slice Ag (o.getD ⟨0, 0, [], []⟩).gs.length cg, .slice Ao (o.getD ⟨0, 0, [], []⟩).os.length co], .bool o.isSome]) ∧
    OwnCr w' w.heap.size w'.heap.size Ag (o.getD ⟨0, 0, [], []⟩).gs.length cg Ao (o.getD ⟨0, 0, [], []⟩).os.length co (o.getD ⟨0, 0, [], []⟩).gs (o.getD ⟨0, 0, [], []⟩).os ∧ Below w.heap.size w w'
theorem RetCr.none_ {w : World} {o : Option Ci} {e : Ending} {w' : World} (hb : Below w.heap.size w w') (ho : o = none) (he : e = .returned (.tuple #[.agg #[.int .i64 0, .int .i64 0, .slice none 0 0, .slice none 0 0], .bool false])) : RetCr w o e w' := by
  subst ho; exact ⟨none, 0, none, 0, he, (OwnC.none_ _ _ _).toR, hb⟩
theorem RetCr.some_ {w : World} {o : Option Ci} {x y : Int} {gs : List G3} {os : List Int} {ng cg no co : Nat} {Ag Ao : Option Addr} {e : Ending} {w' : World} (hb : Below w.heap.size w w') (ho : o = some ⟨x, y, gs, os⟩) (hng : gs.length = ng) (hno : os.length = no)
    (he : e = .returned (.tuple #[.agg #[.int .i64 x, .int .i64 y, .slice Ag ng cg, .slice Ao no co], .bool true])) (hw : OwnCr w' w.heap.size w'.heap.size Ag ng cg Ao no co gs os) : RetCr w o e w' := by
  subst ho; subst hng; subst hno; exact ⟨Ag, cg, Ao, co, he, hw, hb⟩
theorem RetC.of {w : World} {o : Option Ci} {x y : Int} {gs : List G3} {os : List Int} {t : Bool} {cg co : Nat} {Ag Ao : Option Addr} {e : Ending} {w' : World} (hQ : o.getD ⟨0, 0, [], []⟩ = ⟨x, y, gs, os⟩) (ht : o.isSome = t) (he : e = .returned (.tuple #[.agg #[.int .i64 x, .int .i64 y, .slice Ag gs.length cg, .slice Ao os.length co], .bool t])) (hw : OwnC w' w.heap.size w'.heap.size Ag gs.length cg Ao os.length co gs os) (hb : Below w.heap.size w w') : RetC w o e w' := by
  refine ⟨Ag, cg, Ao, co, ?_⟩; rw [hQ, ht]; exact ⟨he, hw, hb⟩
theorem RetCr.of {w : World} {o : Option Ci} {x y : Int} {gs : List G3} {os : List Int} {t : Bool} {cg co : Nat} {Ag Ao : Option Addr} {e : Ending} {w' : World} (hQ : o.getD ⟨0, 0, [], []⟩ = ⟨x, y, gs, os⟩) (ht : o.isSome = t) (he : e = .returned (.tuple #[.agg #[.int .i64 x, .int .i64 y, .slice Ag gs.length cg, .slice Ao os.length co], .bool t])) (hw : OwnCr w' w.heap.size w'.heap.size Ag gs.length cg Ao os.length co gs os) (hb : Below w.heap.size w w') : RetCr w o e w' := by
  refine ⟨Ag, cg, Ao, co, ?_⟩; rw [hQ, ht]; exact ⟨he, hw, hb⟩
theorem RetC.to {w : World} {o : Option Ci} {x y : Int} {gs : List G3} {os : List Int} {t : Bool} {e : Ending} {w' : World} (h : RetC w o e w') (hQ : o.getD ⟨0, 0, [], []⟩ = ⟨x, y, gs, os⟩) (ht : o.isSome = t) :
    ∃ Ag cg Ao co, e = .returned (.tuple #[.agg #[.int .i64 x, .int .i64 y, .slice Ag gs.length cg, .slice Ao os.length co], .bool t]) ∧ OwnC w' w.heap.size w'.heap.size Ag gs.length cg Ao os.length co gs os ∧ Below w.heap.size w w' := by
  obtain ⟨Ag, cg, Ao, co, h⟩ := h; rw [hQ, ht] at h; exact ⟨Ag, cg, Ao, co, h⟩
theorem RetCr.to {w : World} {o : Option Ci} {x y : Int} {gs : List G3} {os : List Int} {t : Bool} {e : Ending} {w' : World} (h : RetCr w o e w') (hQ : o.getD ⟨0, 0, [], []⟩ = ⟨x, y, gs, os⟩) (ht : o.isSome = t) :
    ∃ Ag cg Ao co, e = .returned (.tuple #[.agg #[.int .i64 x, .int .i64 y, .slice Ag gs.length cg, .slice Ao os.length co], .bool t]) ∧ OwnCr w' w.heap.size w'.heap.size Ag gs.length cg Ao os.length co gs os ∧ Below w.heap.size w w' := by
  obtain ⟨Ag, cg, Ao, co, h⟩ := h; rw [hQ, ht] at h; exact ⟨Ag, cg, Ao, co, h⟩
theorem ciJoin_any (A B : Option Addr) (n c m d : Nat) (xs ys : List Int) (w : World) (ha : RI w A n xs) (hb : RI w B m ys) (hn : n ≤ 2097152) (hm : m ≤ 2097152) :
    Calls Tryz.prog 85 #[.slice A n c, .slice B m d] w fun e w' => ∃ A' c', e = .returned (.slice A' (n + m) c') ∧ Own w' w.heap.size w'.heap.size (.slice A' (n + m) c') (n + m) (xs ++ ys) ∧ Below w.heap.size w w' := by
  have hl := ha.len
  go_enter Tryz.func85, Tryz.ntmps85
  go_wp2_with fail
  refine (l1Own_any A n c xs _ ha hn).mono ?_
  rintro e w1 ⟨A1, c1, rfl, hown1, hb1⟩
  have hr := hb.below hb1 (Nat.le_refl _)
  have hz := hb1.size
  go_wp2_with (at_builtin; refine wpList_app _ rfl _ _ rfl rfl hown1 rfl hr (by omega) (by first | omega | (simp; done) | (simp; omega)) ?_; intro A5 c5 w5 hown5 hg5 hat5)
  have hb5 := below_app hb1 hown1 hg5 hz (Nat.le_refl _)
  clear hown1 hb1 hr hg5 hat5
  go_wp2
  go_ret
  exact ⟨_, _, rfl, hown5, hb5⟩
section
variable {w w' : World} {b : Nat} {p x y : Int} {Ag A' : Option Addr} {ng cg n' c' : Nat} {Ao : Option Addr} {no co : Nat}
theorem BxA.setG (h : BxA w b p x y Ag ng cg Ao no co) (A' : Option Addr) (n' c' : Nat) : BxA (w.setCell ⟨b, 3, none⟩ (.slice A' n' c')) b p x y A' n' c' Ao no co :=
  ⟨(World.cell?_setCell_other _ _ _ _ (by simp)).trans h.1, (World.cell?_setCell_other _ _ _ _ (by simp)).trans h.2.1, (World.cell?_setCell_other _ _ _ _ (by simp)).trans h.2.2.1, World.cell?_setCell_same _ _ _ h.2.2.2.1, (World.cell?_setCell_other _ _ _ _ (by simp)).trans h.2.2.2.2⟩
theorem BxA.setO (h : BxA w b p x y Ag ng cg Ao no co) (A' : Option Addr) (n' c' : Nat) : BxA (w.setCell ⟨b, 4, none⟩ (.slice A' n' c')) b p x y Ag ng cg A' n' c' :=
  ⟨(World.cell?_setCell_other _ _ _ _ (by simp)).trans h.1, (World.cell?_setCell_other _ _ _ _ (by simp)).trans h.2.1, (World.cell?_setCell_other _ _ _ _ (by simp)).trans h.2.2.1, (World.cell?_setCell_other _ _ _ _ (by simp)).trans h.2.2.2.1, World.cell?_setCell_same _ _ _ h.2.2.2.2⟩
theorem BxA.far (h : BxA w b p x y Ag ng cg Ao no co) (q : Addr) (v : Value) (hq : q.block ≠ b) : BxA (w.setCell q v) b p x y Ag ng cg Ao no co := by
  have hc : ∀ {r : Nat} {u : Value}, w.cell? ⟨b, r, none⟩ = some u → (w.setCell q v).cell? ⟨b, r, none⟩ = some u := fun {r u} hu => (World.cell?_setCell_other _ _ _ _ (fun he => hq (by rw [he]))).trans hu
  exact ⟨hc h.1, hc h.2.1, hc h.2.2.1, hc h.2.2.2.1, hc h.2.2.2.2⟩
end
theorem OwnG_new0 (w : World) (lo : Nat) (hl : lo ≤ w.heap.size) : OwnG (w.alloc (.cells #[] 81)) lo (w.heap.size + 1) (.slice (some ⟨w.heap.size, 0, none⟩) 0 0) 0 [] := by
  refine ⟨?_, fun g hg => by simp [Value.ownBlock] at hg; omega⟩
  have h := World.ownsRow_lit (base := lo) (e := 81) (size := 3) w #[] 0 hl (by unfold maxLen; omega) (by simp)
  simpa [gcells] using h
def RetAi (w : World) (p x y : Int) (gs : List G3) (os : List Int) (e : Ending) (w' : World) : Prop :=
  ∃ Ag cg Ao co, e = .returned (.agg #[.int .i64 p, .int .i64 x, .int .i64 y, .slice Ag gs.length cg, .slice Ao os.length co]) ∧ OwnC w' w.heap.size w'.heap.size Ag gs.length cg Ao os.length co gs os ∧ Below w.heap.size w w'
theorem RetAi.mk_ {w : World} {p x y : Int} {gs : List G3} {os : List Int} {e : Ending} {w' : World} {Ag Ao : Option Addr} {ng cg no co : Nat} (hng : gs.length = ng) (hno : os.length = no) (he : e = .returned (.agg #[.int .i64 p, .int .i64 x, .int .i64 y, .slice Ag ng cg, .slice Ao no co])) (hw : OwnC w' w.heap.size w'.heap.size Ag ng cg Ao no co gs os) (hb : Below w.heap.size w w') : RetAi w p x y gs os e w' := by
  subst hng; subst hno; exact ⟨Ag, cg, Ao, co, he, hw, hb⟩
theorem RetAi.open_ {w : World} {p x y : Int} {gs : List G3} {os : List Int} {e : Ending} {w' : World} {ng no : Nat} (h : RetAi w p x y gs os e w') (hng : gs.length = ng) (hno : os.length = no) : ∃ Ag cg Ao co, e = .returned (.agg #[.int .i64 p, .int .i64 x, .int .i64 y, .slice Ag ng cg, .slice Ao no co]) ∧ OwnC w' w.heap.size w'.heap.size Ag ng cg Ao no co gs os ∧ Below w.heap.size w w' := by
  subst hng; subst hno; exact h
def OwnX (w : World) (lo b : Nat) (Ag : Option Addr) (ng cg : Nat) (Ao : Option Addr) (no co : Nat) (gs : List G3) (os : List Int) : Prop :=
  OwnC w lo w.heap.size Ag ng cg Ao no co gs os ∧ (Value.slice Ag ng cg).ownBlock ≠ some b ∧ (Value.slice Ao no co).ownBlock ≠ some b
section
variable {w w' : World} {lo b : Nat} {Ag Ag' : Option Addr} {ng cg ng' cg' : Nat} {Ao Ao' : Option Addr} {no co no' co' : Nat} {gs gs' : List G3} {os os' : List Int}
theorem OwnX.below_ {B : Nat} (h : OwnX w lo b Ag ng cg Ao no co gs os) (k : Below B w w') (hB : w.heap.size ≤ B) : OwnX w' lo b Ag ng cg Ao no co gs os :=
  ⟨(h.1.below k (.inl hB)).now, h.2⟩
theorem OwnX.of {hi : Nat} (h : OwnC w lo hi Ag ng cg Ao no co gs os) (hb : hi ≤ b) : OwnX w lo b Ag ng cg Ao no co gs os :=
  ⟨h.now, fun hc => by have := h.1.lt b hc; omega, fun hc => by have := h.2.1.lt b hc; omega⟩
theorem BxA.grown {p x y : Int} {r : Option Nat} (h : BxA w b p x y Ag ng cg Ao no co) (k : w.grownBy w' r) (hr : r ≠ some b) : BxA w' b p x y Ag ng cg Ao no co := by
  have hc : ∀ {q : Nat} {v : Value}, w.cell? ⟨b, q, none⟩ = some v → w'.cell? ⟨b, q, none⟩ = some v := fun {q v} hv => (World.cell?_of_block (w := w) (k.block b (World.block_lt_of_cell? w _ hv) (fun e => hr e.symm))).trans hv
  exact ⟨hc h.1, hc h.2.1, hc h.2.2.1, hc h.2.2.2.1, hc h.2.2.2.2⟩
theorem Fz.grown {r : Option Nat} (h : Fz w b) (k : w.grownBy w' r) (hb : b < w.heap.size) (hr : r ≠ some b) : Fz w' b := fun q => (World.frozen?_of_block (w := w) (a := ⟨b, q, none⟩) (k.block b hb (fun e => hr e.symm))).trans (h q)
end
structure Alt (S : Nat → Prop) (w w' : World) : Prop where
  os : w'.os = w.os
  tape : w'.tape = w.tape
  output : w'.output = w.output
  size : w.heap.size ≤ w'.heap.size
  block : ∀ k, k < w.heap.size → ¬ S k → w'.heap[k]? = w.heap[k]?
section
variable {S T : Nat → Prop} {a b c w w' : World}
theorem Alt.refl_ (S : Nat → Prop) (w : World) : Alt S w w := ⟨rfl, rfl, rfl, Nat.le_refl _, fun _ _ _ => rfl⟩
theorem Alt.trans_ (h : Alt S a b) (k : Alt T b c) (hs : ∀ i, i < a.heap.size → T i → S i) : Alt S a c :=
  ⟨k.os.trans h.os, k.tape.trans h.tape, k.output.trans h.output, Nat.le_trans h.size k.size, fun i hi hn => (k.block i (Nat.lt_of_lt_of_le hi h.size) (fun ht => hn (hs i hi ht))).trans (h.block i hi hn)⟩
theorem Alt.mono_ (h : Alt S a b) (hs : ∀ i, i < a.heap.size → S i → T i) : Alt T a b := (Alt.refl_ T a).trans_ h hs
theorem Alt.of_below {B : Nat} (h : Below B a b) (hs : ∀ i, i < a.heap.size → B ≤ i → S i) : Alt S a b :=
  ⟨h.os, h.tape, h.output, h.size, fun i hi hn => h.block i (Nat.lt_of_not_le fun hc => hn (hs i hi hc))⟩
theorem Alt.of_new (h : Below a.heap.size a b) : Alt S a b := Alt.of_below h fun i hi hB => by omega
theorem Alt.of_grown {r : Option Nat} (h : a.grownBy b r) (hs : ∀ i, r = some i → S i) : Alt S a b :=
  ⟨h.os, h.tape, h.output, h.size, fun i hi hn => h.block i hi fun he => hn (hs i he.symm)⟩
theorem Alt.new_ (h : Alt S a b) (k : Below b.heap.size b c) : Alt S a c := h.trans_ (T := S) (Alt.of_new k) fun _ _ h => h
theorem Alt.grow_ {r : Option Nat} (h : Alt S a b) (k : b.grownBy c r) (hs : ∀ i, i < a.heap.size → r = some i → S i) : Alt S a c :=
  h.trans_ (T := fun i => r = some i) (Alt.of_grown k fun _ h => h) hs
theorem Alt.set_ (h : Alt S a b) (p : Addr) (v : Value) (hp : p.block < a.heap.size → S p.block) : Alt S a (b.setCell p v) := by
  have k := (Below.refl p.block b).setCell (p := p) (Nat.le_refl _) v
  exact ⟨k.os.trans h.os, k.tape.trans h.tape, k.output.trans h.output, Nat.le_trans h.size k.size, fun i hi hn => (Below.heap_setCell b p v i (fun he => hn (by subst he; exact hp hi))).trans (h.block i hi hn)⟩
theorem Alt.alloc_ (h : Alt S a b) (o : Obj) : Alt S a (b.alloc o) := h.new_ ((Below.refl _ _).alloc (Nat.le_refl _) o)
theorem Alt.drewN_ (h : Alt S a b) (n : Nat) : Alt S a (b.drewN n) := ⟨h.os, h.tape, h.output, h.size, h.block⟩
theorem Alt.below_ {B : Nat} (h : Alt S a b) (hB : B ≤ a.heap.size) (hs : ∀ i, i < B → ¬ S i) : Below B a b :=
  ⟨h.os, h.tape, h.output, h.size, fun i hi => h.block i (by omega) (hs i hi)⟩
theorem Alt.cell_ {p : Addr} {v : Value} (k : Alt S w w') (h : w.cell? p = some v) (hp : ¬ S p.block) : w'.cell? p = some v :=
  (World.cell?_of_block (w := w) (k.block p.block (World.block_lt_of_cell? w _ h) hp)).trans h
end
section
variable {S : Nat → Prop} {w w' : World} {lo hi n b : Nat} {v : Value} {A : Option Addr}
theorem RI.alt {xs : List Int} (h : RI w A n xs) (k : Alt S w w') (hs : 0 < n → ∀ b o, A = some ⟨b, o, none⟩ → ¬ S b) : RI w' A n xs :=
  ⟨h.1, fun hn => by
    obtain ⟨b, o, hA, hlt, hc⟩ := h.2 hn
    exact ⟨b, o, hA, Nat.lt_of_lt_of_le hlt k.size, fun j hj => k.cell_ (hc j hj) (hs hn b o hA)⟩⟩
theorem RG.alt {xs : List G3} (h : RG w A n xs) (k : Alt S w w') (hs : 0 < n → ∀ b o, A = some ⟨b, o, none⟩ → ¬ S b) : RG w' A n xs :=
  ⟨h.1, fun hn => by
    obtain ⟨b, o, hA, hlt, hc⟩ := h.2 hn
    exact ⟨b, o, hA, Nat.lt_of_lt_of_le hlt k.size, fun j hj => ⟨k.cell_ (hc j hj).1 (hs hn b o hA), k.cell_ (hc j hj).2.1 (hs hn b o hA), k.cell_ (hc j hj).2.2 (hs hn b o hA)⟩⟩⟩
theorem Own.alt {xs : List Int} (h : Own w lo hi v n xs) (k : Alt S w w') (hs : ∀ g, v.ownBlock = some g → ¬ S g) : Own w' lo hi v n xs := by
  refine ⟨⟨h.1.1, ?_⟩, h.2⟩
  rcases h.1.2 with h1 | ⟨g, cap, cur, rfl, hlo, hg, r⟩
  · exact .inl h1
  · have hl := h.lt g (by simp [Value.ownBlock])
    exact .inr ⟨g, cap, cur, rfl, hlo, by rw [k.block g hl.2.2 (hs g (by simp [Value.ownBlock]))]; exact hg, r⟩
theorem OwnG.alt {xs : List G3} (h : OwnG w lo hi v n xs) (k : Alt S w w') (hs : ∀ g, v.ownBlock = some g → ¬ S g) : OwnG w' lo hi v n xs := by
  refine ⟨⟨h.1.1, ?_⟩, h.2⟩
  rcases h.1.2 with h1 | ⟨g, cap, cur, rfl, hlo, hg, r⟩
  · exact .inl h1
  · have hl := h.lt g (by simp [Value.ownBlock])
    exact .inr ⟨g, cap, cur, rfl, hlo, by rw [k.block g hl.2.2 (hs g (by simp [Value.ownBlock]))]; exact hg, r⟩
theorem Fz.alt (h : Fz w b) (k : Alt S w w') (hb : b < w.heap.size) (hs : ¬ S b) : Fz w' b := fun q => (World.frozen?_of_block (w := w) (a := ⟨b, q, none⟩) (k.block b hb hs)).trans (h q)
theorem BxC.alt {x y : Int} {Ag : Option Addr} {ng cg : Nat} {Ao : Option Addr} {no co : Nat} (h : BxC w b x y Ag ng cg Ao no co) (k : Alt S w w') (hs : ¬ S b) : BxC w' b x y Ag ng cg Ao no co :=
  ⟨k.cell_ h.1 hs, k.cell_ h.2.1 hs, k.cell_ h.2.2.1 hs, k.cell_ h.2.2.2 hs⟩
theorem BxA.alt {p x y : Int} {Ag : Option Addr} {ng cg : Nat} {Ao : Option Addr} {no co : Nat} (h : BxA w b p x y Ag ng cg Ao no co) (k : Alt S w w') (hs : ¬ S b) : BxA w' b p x y Ag ng cg Ao no co :=
  ⟨k.cell_ h.1 hs, k.cell_ h.2.1 hs, k.cell_ h.2.2.1 hs, k.cell_ h.2.2.2.1 hs, k.cell_ h.2.2.2.2 hs⟩
theorem RI.lt {xs : List Int} (h : RI w A n xs) {B : Nat} (hB : w.heap.size ≤ B) (hn : 0 < n) : ∀ b o, A = some ⟨b, o, none⟩ → b < B := fun b o hA => by
  obtain ⟨b', o', hA', hlt, _⟩ := h.2 hn
  rw [hA] at hA'; injection hA' with hA'; injection hA' with h1 h2; omega
theorem RG.lt {xs : List G3} (h : RG w A n xs) {B : Nat} (hB : w.heap.size ≤ B) (hn : 0 < n) : ∀ b o, A = some ⟨b, o, none⟩ → b < B := fun b o hA => by
  obtain ⟨b', o', hA', hlt, _⟩ := h.2 hn
  rw [hA] at hA'; injection hA' with hA'; injection hA' with h1 h2; omega
theorem BxC.bel {x y : Int} {Ag : Option Addr} {ng cg : Nat} {Ao : Option Addr} {no co : Nat} (h : BxC w b x y Ag ng cg Ao no co) {B : Nat} (k : Below B w w') (hb : b < B) : BxC w' b x y Ag ng cg Ao no co :=
  have hc : ∀ {q : Nat} {v : Value}, w.cell? ⟨b, q, none⟩ = some v → w'.cell? ⟨b, q, none⟩ = some v := fun {q v} hv => (k.cell (p := ⟨b, q, none⟩) hb).trans hv
  ⟨hc h.1, hc h.2.1, hc h.2.2.1, hc h.2.2.2⟩
theorem BxC.lt {x y : Int} {Ag : Option Addr} {ng cg : Nat} {Ao : Option Addr} {no co : Nat} (h : BxC w b x y Ag ng cg Ao no co) : b < w.heap.size := World.block_lt_of_cell? w _ h.1
theorem BxA.lt {p x y : Int} {Ag : Option Addr} {ng cg : Nat} {Ao : Option Addr} {no co : Nat} (h : BxA w b p x y Ag ng cg Ao no co) : b < w.heap.size := World.block_lt_of_cell? w _ h.1
end
def MkO (w : World) (lo b : Nat) (x y : Int) (Ao : Option Addr) (no co : Nat) (gs : List G3) (G : Option Nat) : Prop :=
  b < w.heap.size ∧ G ≠ some b ∧ (∀ q, w.frozen? ⟨b, q, none⟩ = false) ∧ ∃ Ag cg, BxC w b x y Ag gs.length cg Ao no co ∧ OwnG w lo w.heap.size (.slice Ag gs.length cg) gs.length gs ∧ (Value.slice Ag gs.length cg).ownBlock = G
section
variable {w w' : World} {lo b : Nat} {x y : Int} {Ao : Option Addr} {no co : Nat} {gs : List G3} {G : Option Nat}
theorem MkO.lt (h : MkO w lo b x y Ao no co gs G) : ∀ g, G = some g → lo ≤ g ∧ g < w.heap.size := by
  obtain ⟨_, _, _, Ag, cg, _, ho, he⟩ := h
  intro g hg; have := ho.lt g (he.trans hg); omega
theorem MkO.below_ {B : Nat} (h : MkO w lo b x y Ao no co gs G) (k : Below B w w') (hB : w.heap.size ≤ B) : MkO w' lo b x y Ao no co gs G := by
  obtain ⟨h1, h2, hf, Ag, cg, hx, ho, he⟩ := h
  exact ⟨Nat.lt_of_lt_of_le h1 k.size, h2, fun q => (k.frozen (p := ⟨b, q, none⟩) (by show b < B; omega)).trans (hf q), Ag, cg, hx.below (k.mono hB), (ho.below k (.inl hB)).now, he⟩
theorem MkO.alloc_ (h : MkO w lo b x y Ao no co gs G) (o : Obj) : MkO (w.alloc o) lo b x y Ao no co gs G := h.below_ ((Below.refl _ _).alloc (Nat.le_refl _) o) (Nat.le_refl _)
theorem MkO.drewN_ (h : MkO w lo b x y Ao no co gs G) (k : Nat) : MkO (w.drewN k) lo b x y Ao no co gs G := h
theorem MkO.grown_ {r : Option Nat} (h : MkO w lo b x y Ao no co gs G) (k : w.grownBy w' r) (hb : r ≠ some b) (hG : ∀ g, r = some g → G ≠ some g) : MkO w' lo b x y Ao no co gs G := by
  obtain ⟨h1, h2, hf, Ag, cg, hx, ho, he⟩ := h
  have hc : ∀ {q : Nat} {v : Value}, w.cell? ⟨b, q, none⟩ = some v → w'.cell? ⟨b, q, none⟩ = some v := fun {q v} hv => (World.cell?_of_block (w := w) (k.block b h1 (fun e => hb e.symm))).trans hv
  refine ⟨Nat.lt_of_lt_of_le h1 k.size, h2, fun q => (World.frozen?_of_block (w := w) (a := ⟨b, q, none⟩) (k.block b h1 (fun e => hb e.symm))).trans (hf q), Ag, cg, ⟨hc hx.1, hc hx.2.1, hc hx.2.2.1, hc hx.2.2.2⟩, (ho.grown k ?_).now, he⟩
  cases hr : (Value.slice Ag gs.length cg).ownBlock with
  | none => exact .inl rfl
  | some g => exact .inr (fun hq => hG g hq.symm (he ▸ hr))
theorem MkO.new (w : World) (lo : Nat) (x y : Int) (T : TypeId) : MkO (w.alloc (.cells #[.int .i64 x, .int .i64 y, .slice none 0 0, .slice none 0 0] T)) lo w.heap.size x y none 0 0 [] none :=
  ⟨by simp, by simp, fun q => World.frozen?_alloc_at _ _ _ _ rfl, none, 0, BxC.new w T, OwnG.none_ _ _ _, rfl⟩
theorem MkO.made {w5 : World} {gs' : List G3} {Ag A5 : Option Addr} {n cg c5 : Nat} (h1 : b < w.heap.size) (h2 : (Value.slice Ag gs.length cg).ownBlock ≠ some b) (hf : ∀ q, w.frozen? ⟨b, q, none⟩ = false)
    (hbx : BxC w b x y Ag gs.length cg Ao no co) (hown : OwnG w5 lo w5.heap.size (.slice A5 n c5) n gs') (hg : w.grownBy w5 (Value.slice Ag gs.length cg).ownBlock)
    (hat : (Value.slice A5 n c5).ownBlock = (Value.slice Ag gs.length cg).ownBlock ∨ (Value.slice A5 n c5).ownBlock = some w.heap.size) :
    MkO (w5.setCell ⟨b, 2, none⟩ (.slice A5 n c5)) lo b x y Ao no co gs' (Value.slice A5 n c5).ownBlock ∧ Mv b (Value.slice Ag gs.length cg).ownBlock (Value.slice A5 n c5).ownBlock w (w5.setCell ⟨b, 2, none⟩ (.slice A5 n c5)) := by
  have hl := hown.len
  have hne : (Value.slice A5 n c5).ownBlock ≠ some b := by
    rcases hat with h | h
    · rw [h]; exact h2
    · rw [h]; intro hc; injection hc with hc; omega
  have hsz : w.heap.size ≤ w5.heap.size := hg.size
  subst hl
  refine ⟨⟨by simp; omega, hne, fun q => (World.frozen?_setCell _ _ _ _).trans ((World.frozen?_of_block (w := w) (a := ⟨b, q, none⟩) (hg.block b h1 (fun e => h2 e.symm))).trans (hf q)), A5, c5, (hbx.grown hg h2).setG _ _ _, ?_, rfl⟩, ?_⟩
  · simpa using hown.far1 ⟨b, 2, none⟩ (.slice A5 gs'.length c5) hne
  · refine ⟨hg.os, hg.tape, hg.output, by simpa using hsz, fun k hk hkb hkG => ?_, ?_⟩
    · rw [Below.heap_setCell _ _ _ _ hkb]; exact hg.block k hk (fun e => hkG e.symm)
    · rcases hat with h | h
      · exact .inl h
      · exact .inr ⟨_, h, Nat.le_refl _⟩
theorem MkO.outs (h : MkO w lo b x y Ao no co gs G) (A' : Option Addr) (n' c' : Nat) : MkO (w.setCell ⟨b, 3, none⟩ (.slice A' n' c')) lo b x y A' n' c' gs G := by
  obtain ⟨h1, h2, hf, Ag, cg, hx, ho, he⟩ := h
  refine ⟨by simpa using h1, h2, fun q => (World.frozen?_setCell _ _ _ _).trans (hf q), Ag, cg, hx.setO _ _ _, ?_, he⟩
  simpa using ho.far1 ⟨b, 3, none⟩ (.slice A' n' c') (he ▸ h2)
theorem Mv.outs {W : World} {G1 : Option Nat} (h : Mv b G G1 W w) (v : Value) (q : Nat) : Mv b G G1 W (w.setCell ⟨b, q, none⟩ v) :=
  ⟨h.os, h.tape, h.output, by simpa using h.size, fun k hk hkb hkG => by rw [Below.heap_setCell _ _ _ _ hkb]; exact h.block k hk hkb hkG, h.own⟩
end
end Go.Proofs.YtjjphaiomaiilaaGreat
