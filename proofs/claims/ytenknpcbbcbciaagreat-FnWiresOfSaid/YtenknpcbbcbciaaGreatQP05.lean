/- Makers of circuits: a circuit in a box whose gates grow, beside rows of the call's own that grow too. No condition. The gadgets' gates and outs; no program in sight. Plain functions: the values of a circuit's wires, of an arithmetic circuit's wires, places of a list; carrying what is read from world to world. No condition. Contracts of copies of lists and of the keyed digest. Lengths up to 2^21, numbers up to 2^40. Contracts of the values of a circuit's wires, of an arithmetic circuit's wires, and of the elements of a list at places. Contracts of makers' adders. Contracts: spans, a circuit that is valid, a gadget. -/
import Derived.Test.YtenknpcbbcbciaaGreatQP03
import Derived.Test.YtenknpcbbcbciaaGreatQP04
import Derived.Test.YtenknpcbbcbciaaGreatQP01
import Derived.StillTailTactics
namespace Go.Proofs.YtenknpcbbcbciaaGreat
open Go.RowKit
set_option linter.unusedVariables false
set_option linter.unusedSimpArgs false
structure Mv (b : Nat) (G G' : Option Nat) (w w' : World) : Prop where
  os : w'.os = w.os
  tape : w'.tape = w.tape
  output : w'.output = w.output
  size : w.heap.size ≤ w'.heap.size
  block : ∀ k, k < w.heap.size → k ≠ b → G ≠ some k → w'.heap[k]? = w.heap[k]?
  own : G' = G ∨ ∃ k, G' = some k ∧ w.heap.size ≤ k
theorem Mv.refl_ (b : Nat) (G : Option Nat) (w : World) : Mv b G G w w := ⟨rfl, rfl, rfl, Nat.le_refl _, fun _ _ _ _ => rfl, .inl rfl⟩
theorem Mv.off {b : Nat} {G G' : Option Nat} {w w' : World} (h : Mv b G G' w w') {k : Nat} (hk : k < w.heap.size) (hG : G ≠ some k) : G' ≠ some k := by
  rcases h.own with h1 | ⟨j, h1, h2⟩
  · rwa [h1]
  · intro hc; rw [h1] at hc; injection hc with hc; omega
theorem Mv.trans_ {b : Nat} {G G1 G2 : Option Nat} {w w1 w2 : World} (h : Mv b G G1 w w1) (k : Mv b G1 G2 w1 w2) : Mv b G G2 w w2 := by
  refine ⟨k.os.trans h.os, k.tape.trans h.tape, k.output.trans h.output, Nat.le_trans h.size k.size, fun i hi hb hG => ?_, ?_⟩
  · exact (k.block i (Nat.lt_of_lt_of_le hi h.size) hb (h.off hi hG)).trans (h.block i hi hb hG)
  · rcases k.own with h1 | ⟨j, h1, h2⟩
    · rw [h1]; exact h.own
    · exact .inr ⟨j, h1, Nat.le_trans h.size h2⟩
theorem Mv.below_ {b B : Nat} {G G1 : Option Nat} {w w1 w2 : World} (h : Mv b G G1 w w1) (k : Below B w1 w2) (hB : w1.heap.size ≤ B) : Mv b G G1 w w2 :=
  ⟨k.os.trans h.os, k.tape.trans h.tape, k.output.trans h.output, Nat.le_trans h.size k.size, fun i hi hb hG => (k.block i (by have := h.size; omega)).trans (h.block i hi hb hG), h.own⟩
theorem Mv.grown_ {b : Nat} {G G1 : Option Nat} {w w1 w2 : World} {r : Option Nat} (h : Mv b G G1 w w1) (k : w1.grownBy w2 r) (hr : ∀ g, r = some g → w.heap.size ≤ g) : Mv b G G1 w w2 :=
  ⟨k.os.trans h.os, k.tape.trans h.tape, k.output.trans h.output, Nat.le_trans h.size k.size, fun i hi hb hG => (k.block i (Nat.lt_of_lt_of_le hi h.size) (fun he => by have := hr i he.symm; omega)).trans (h.block i hi hb hG), h.own⟩
theorem Mv.alloc_ {b : Nat} {G G1 : Option Nat} {w w1 : World} (h : Mv b G G1 w w1) (o : Obj) : Mv b G G1 w (w1.alloc o) := h.below_ ((Below.refl _ _).alloc (Nat.le_refl _) o) (Nat.le_refl _)
theorem Mv.drewN_ {b : Nat} {G G1 : Option Nat} {w w1 : World} (h : Mv b G G1 w w1) (k : Nat) : Mv b G G1 w (w1.drewN k) := ⟨h.os, h.tape, h.output, h.size, h.block, h.own⟩
theorem Mv.toBelow {b B : Nat} {G G1 : Option Nat} {a w w1 : World} (h : Mv b G G1 w w1) (k : Below B a w) (hb : B ≤ b) (hG : ∀ g, G = some g → B ≤ g) (hB : B ≤ w.heap.size) : Below B a w1 :=
  ⟨h.os.trans k.os, h.tape.trans k.tape, h.output.trans k.output, Nat.le_trans k.size h.size, fun i hi => (h.block i (by omega) (by omega) (fun hc => by have := hG i hc; omega)).trans (k.block i hi)⟩
def Mk (w : World) (lo b : Nat) (x y : Int) (gs : List G3) (G : Option Nat) : Prop :=
  b < w.heap.size ∧ G ≠ some b ∧ (∀ q, w.frozen? ⟨b, q, none⟩ = false) ∧ ∃ Ag cg, BxC w b x y Ag gs.length cg none 0 0 ∧ OwnG w lo w.heap.size (.slice Ag gs.length cg) gs.length gs ∧ (Value.slice Ag gs.length cg).ownBlock = G
theorem Mk.lt {w : World} {lo b : Nat} {x y : Int} {gs : List G3} {G : Option Nat} (h : Mk w lo b x y gs G) : ∀ g, G = some g → lo ≤ g ∧ g < w.heap.size := by
  obtain ⟨_, _, _, Ag, cg, _, ho, he⟩ := h
  intro g hg; have := ho.lt g (he.trans hg); omega
theorem Mk.below_ {w w' : World} {lo b : Nat} {x y : Int} {gs : List G3} {G : Option Nat} {B : Nat} (h : Mk w lo b x y gs G) (k : Below B w w') (hB : w.heap.size ≤ B) : Mk w' lo b x y gs G := by
  obtain ⟨h1, h2, hf, Ag, cg, hx, ho, he⟩ := h
  exact ⟨Nat.lt_of_lt_of_le h1 k.size, h2, fun q => (k.frozen (p := ⟨b, q, none⟩) (by show b < B; omega)).trans (hf q), Ag, cg, hx.below (k.mono hB), (ho.below k (.inl hB)).now, he⟩
theorem Mk.alloc_ {w : World} {lo b : Nat} {x y : Int} {gs : List G3} {G : Option Nat} (h : Mk w lo b x y gs G) (o : Obj) : Mk (w.alloc o) lo b x y gs G := h.below_ ((Below.refl _ _).alloc (Nat.le_refl _) o) (Nat.le_refl _)
theorem Mk.drewN_ {w : World} {lo b : Nat} {x y : Int} {gs : List G3} {G : Option Nat} (h : Mk w lo b x y gs G) (k : Nat) : Mk (w.drewN k) lo b x y gs G := h
theorem Mk.grown_ {w w' : World} {lo b : Nat} {x y : Int} {gs : List G3} {G : Option Nat} {r : Option Nat} (h : Mk w lo b x y gs G) (k : w.grownBy w' r) (hb : r ≠ some b) (hG : ∀ g, r = some g → G ≠ some g) : Mk w' lo b x y gs G := by
  obtain ⟨h1, h2, hf, Ag, cg, hx, ho, he⟩ := h
  have hc : ∀ {q : Nat} {v : Value}, w.cell? ⟨b, q, none⟩ = some v → w'.cell? ⟨b, q, none⟩ = some v := fun {q v} hv => (World.cell?_of_block (w := w) (k.block b h1 (fun e => hb e.symm))).trans hv
  refine ⟨Nat.lt_of_lt_of_le h1 k.size, h2, fun q => (World.frozen?_of_block (w := w) (a := ⟨b, q, none⟩) (k.block b h1 (fun e => hb e.symm))).trans (hf q), Ag, cg, ⟨hc hx.1, hc hx.2.1, hc hx.2.2.1, hc hx.2.2.2⟩, (ho.grown k ?_).now, he⟩
  cases hr : (Value.slice Ag gs.length cg).ownBlock with
  | none => exact .inl rfl
  | some g => exact .inr (fun hq => hG g hq.symm (he ▸ hr))
theorem Mk.lo_ {w : World} {lo lo' b : Nat} {x y : Int} {gs : List G3} {G : Option Nat} (h : Mk w lo b x y gs G) (hl : lo' ≤ lo) : Mk w lo' b x y gs G := by
  obtain ⟨h1, h2, hf, Ag, cg, hx, ho, he⟩ := h
  exact ⟨h1, h2, hf, Ag, cg, hx, ho.lo_ hl, he⟩
theorem Mk.new (w : World) (lo : Nat) (x y : Int) (T : TypeId) : Mk (w.alloc (.cells #[.int .i64 x, .int .i64 y, .slice none 0 0, .slice none 0 0] T)) lo w.heap.size x y [] none :=
  ⟨by simp, by simp, fun q => World.frozen?_alloc_at _ _ _ _ rfl, none, 0, BxC.new w T, OwnG.none_ _ _ _, rfl⟩
def RM (w : World) (b : Nat) (G : Option Nat) (A : Option Addr) (n : Nat) (xs : List Int) : Prop :=
  RI w A n xs ∧ (0 < n → ∀ k o, A = some ⟨k, o, none⟩ → k ≠ b ∧ G ≠ some k)
theorem RM.len {w : World} {b n : Nat} {G : Option Nat} {A : Option Addr} {xs : List Int} (h : RM w b G A n xs) : xs.length = n := h.1.len
theorem RM.mv {w w' : World} {b n : Nat} {G G' : Option Nat} {A : Option Addr} {xs : List Int} (h : RM w b G A n xs) (k : Mv b G G' w w') : RM w' b G' A n xs := by
  refine ⟨⟨h.1.1, fun hn => ?_⟩, fun hn j o hA => ?_⟩
  · obtain ⟨j, o, hA, hlt, hc⟩ := h.1.2 hn
    obtain ⟨n1, n2⟩ := h.2 hn j o hA
    refine ⟨j, o, hA, Nat.lt_of_lt_of_le hlt k.size, fun i hi => ?_⟩
    rw [← hc i hi]
    exact World.cell?_of_block (w := w) (a := ⟨j, o + i, none⟩) (k.block j hlt n1 n2)
  · obtain ⟨n1, n2⟩ := h.2 hn j o hA
    obtain ⟨j', o', hA', hlt, _⟩ := h.1.2 hn
    rw [hA] at hA'
    simp only [Option.some.injEq, Addr.mk.injEq, and_true] at hA'
    exact ⟨n1, k.off (by omega) n2⟩
def OM (w : World) (b : Nat) (G : Option Nat) (lo : Nat) (v : Value) (n : Nat) (xs : List Int) : Prop :=
  Own w lo w.heap.size v n xs ∧ ∀ g, v.ownBlock = some g → g ≠ b ∧ G ≠ some g
theorem OM.len {w : World} {b lo n : Nat} {G : Option Nat} {v : Value} {xs : List Int} (h : OM w b G lo v n xs) : xs.length = n := h.1.len
theorem OM.none_ (w : World) (b : Nat) (G : Option Nat) (lo : Nat) : OM w b G lo (.slice none 0 0) 0 [] := ⟨Own.none_ _ _ _, fun g hg => by simp [Value.ownBlock] at hg⟩
theorem OM.mv {w w' : World} {b lo n : Nat} {G G' : Option Nat} {v : Value} {xs : List Int} (h : OM w b G lo v n xs) (k : Mv b G G' w w') : OM w' b G' lo v n xs := by
  refine ⟨⟨⟨h.1.1.1, ?_⟩, fun g hg => Nat.lt_of_lt_of_le (h.1.lt g hg).2.2 k.size⟩, fun g hg => ⟨(h.2 g hg).1, k.off (h.1.lt g hg).2.2 (h.2 g hg).2⟩⟩
  rcases h.1.1.2 with h1 | ⟨g, cap, cur, rfl, hlo, hg, r⟩
  · exact .inl h1
  · have hgb : (Value.slice (some ⟨g, 0, none⟩) n cap).ownBlock = some g := by simp [Value.ownBlock]
    refine .inr ⟨g, cap, cur, rfl, hlo, ?_, r⟩
    rw [k.block g (h.1.lt g hgb).2.2 (h.2 g hgb).1 (h.2 g hgb).2]; exact hg
theorem OM.below_ {w w' : World} {b lo n B : Nat} {G : Option Nat} {v : Value} {xs : List Int} (h : OM w b G lo v n xs) (k : Below B w w') (hB : w.heap.size ≤ B) : OM w' b G lo v n xs := ⟨(h.1.below k (.inl hB)).now, h.2⟩
theorem OM.alloc_ {w : World} {b lo n : Nat} {G : Option Nat} {v : Value} {xs : List Int} (h : OM w b G lo v n xs) (o : Obj) : OM (w.alloc o) b G lo v n xs := h.below_ ((Below.refl _ _).alloc (Nat.le_refl _) o) (Nat.le_refl _)
theorem OM.drewN_ {w : World} {b lo n : Nat} {G : Option Nat} {v : Value} {xs : List Int} (h : OM w b G lo v n xs) (k : Nat) : OM (w.drewN k) b G lo v n xs := h
theorem OM.lo_ {w : World} {b lo lo' n : Nat} {G : Option Nat} {v : Value} {xs : List Int} (h : OM w b G lo v n xs) (hl : lo' ≤ lo) : OM w b G lo' v n xs := ⟨h.1.lo_ hl, h.2⟩
theorem OM.reads {w : World} {b lo n c : Nat} {G : Option Nat} {A : Option Addr} {xs : List Int} (h : OM w b G lo (.slice A n c) n xs) : RM w b G A n xs := by
  refine ⟨h.1.reads, fun hn k o hA => ?_⟩
  obtain ⟨g, hg, _⟩ := h.1.some_ hn
  rw [hA] at hg
  simp only [Option.some.injEq, Addr.mk.injEq, and_true] at hg
  obtain ⟨rfl, rfl⟩ := hg
  exact h.2 k (by rw [hA]; simp [Value.ownBlock])
theorem OM.app {w w' : World} {lo' b lo n m c c' : Nat} {x y : Int} {gs : List G3} {G : Option Nat} {A A' : Option Addr} {xs ys : List Int} (h : OM w b G lo (.slice A n c) n xs) (hm : Mk w lo' b x y gs G)
    (ho : Own w' lo w'.heap.size (.slice A' m c') m ys) (hat : (Value.slice A' m c').ownBlock = (Value.slice A n c).ownBlock ∨ (Value.slice A' m c').ownBlock = some w.heap.size) : OM w' b G lo (.slice A' m c') m ys := by
  refine ⟨ho, fun g hg => ?_⟩
  rcases hat with h1 | h1
  · exact h.2 g (h1 ▸ hg)
  · rw [h1] at hg; injection hg with hg; subst hg
    exact ⟨by have := hm.1; omega, fun hc => by have := hm.lt _ hc; omega⟩
theorem Mk.app {w w' : World} {lo' b lo n c : Nat} {x y : Int} {gs : List G3} {G : Option Nat} {A : Option Addr} {xs : List Int} (hm : Mk w lo' b x y gs G) (h : OM w b G lo (.slice A n c) n xs) (hg : w.grownBy w' (Value.slice A n c).ownBlock) : Mk w' lo' b x y gs G :=
  hm.grown_ hg (fun hc => (h.2 b hc).1 rfl) (fun g hc => (h.2 g hc).2)
theorem Mv.app {W w w' : World} {b n c : Nat} {G G1 : Option Nat} {A : Option Addr} {xs : List Int} (k : Mv b G G1 W w) (h : OM w b G1 W.heap.size (.slice A n c) n xs) (hg : w.grownBy w' (Value.slice A n c).ownBlock) : Mv b G G1 W w' :=
  k.grown_ hg (fun g hc => (h.1.lt g hc).1)
theorem OM.new {w : World} {lo' b lo : Nat} {x y : Int} {gs : List G3} {G : Option Nat} (hm : Mk w lo' b x y gs G) (ys : List Int) (n : Nat) (hn : ys.length = n) (hl : lo ≤ w.heap.size) (hb : n ≤ 4194304) :
    OM (w.alloc (.cells (ys.map (Value.int .i64)).toArray 3)) b G lo (.slice (some ⟨w.heap.size, 0, none⟩) n n) n ys :=
  ⟨(Own_new w ys n lo hn hl hb).now, fun g hg => by
    have hgg : w.heap.size = g := by simpa [Value.ownBlock] using hg
    subst hgg
    exact ⟨by have := hm.1; omega, fun hc => by have := hm.lt _ hc; omega⟩⟩
theorem OM.new0 {w : World} {lo' b lo : Nat} {x y : Int} {gs : List G3} {G : Option Nat} (hm : Mk w lo' b x y gs G) (hl : lo ≤ w.heap.size) : OM (w.alloc (.cells #[] 3)) b G lo (.slice (some ⟨w.heap.size, 0, none⟩) 0 0) 0 [] := by
  simpa using OM.new hm [] 0 rfl hl (by omega)
theorem OM.new1 {w : World} {lo' b lo : Nat} {x y : Int} {gs : List G3} {G : Option Nat} (hm : Mk w lo' b x y gs G) (v : Int) (hl : lo ≤ w.heap.size) : OM (w.alloc (.cells #[.int .i64 v] 3)) b G lo (.slice (some ⟨w.heap.size, 0, none⟩) 1 1) 1 [v] := by
  simpa using OM.new hm [v] 1 rfl hl (by omega)
def OffB (b : Nat) (G : Option Nat) (k : Nat) : Prop := k ≠ b ∧ G ≠ some k
theorem Mv.cellF {b : Nat} {G G' : Option Nat} {w w' : World} (h : Mv b G G' w w') {p : Addr} {v : Value} (hv : w.cell? p = some v) (hf : OffB b G p.block) : w'.cell? p = some v :=
  (World.cell?_of_block (w := w) (h.block p.block (World.block_lt_of_cell? w _ hv) (And.left hf) (And.right hf))).trans hv
theorem Mv.offF {b k : Nat} {G G' : Option Nat} {w w' : World} (h : Mv b G G' w w') (hk : k < w.heap.size) (hf : OffB b G k) : OffB b G' k := ⟨And.left hf, h.off hk (And.right hf)⟩
theorem RM.cellV {w w' : World} {b n i k o : Nat} {v : Int} {G G' : Option Nat} {xs : List Int} (h : RM w b G (some ⟨k, o, none⟩) n xs) (m : Mv b G G' w w') (hi : i < n) (he : Hid (gi xs i = v)) :
    w'.cell? ⟨k, o + i, none⟩ = some (.int .i64 v) ∧ OffB b G' k ∧ k < w.heap.size := by
  have h' := h.mv m
  obtain ⟨j, q, hA, hlt, hc⟩ := h.1.at_ hi
  obtain ⟨j', q', hA', hlt', hc'⟩ := h'.1.at_ hi
  simp only [Option.some.injEq, Addr.mk.injEq, and_true] at hA hA'
  obtain ⟨rfl, rfl⟩ := hA
  obtain ⟨rfl, rfl⟩ := hA'
  exact ⟨by rw [hc', he.out], h'.2 (by omega) _ _ rfl, hlt⟩
section
variable {w w' : World} {b : Nat} {x y : Int} {Ag A' : Option Addr} {ng cg n' c' : Nat} {Ao : Option Addr} {no co : Nat}
theorem BxC.setG (h : BxC w b x y Ag ng cg Ao no co) (A' : Option Addr) (n' c' : Nat) : BxC (w.setCell ⟨b, 2, none⟩ (.slice A' n' c')) b x y A' n' c' Ao no co :=
  ⟨(World.cell?_setCell_other _ _ _ _ (by simp)).trans h.1, (World.cell?_setCell_other _ _ _ _ (by simp)).trans h.2.1, World.cell?_setCell_same _ _ _ h.2.2.1, (World.cell?_setCell_other _ _ _ _ (by simp)).trans h.2.2.2⟩
theorem BxC.setO (h : BxC w b x y Ag ng cg Ao no co) (A' : Option Addr) (n' c' : Nat) : BxC (w.setCell ⟨b, 3, none⟩ (.slice A' n' c')) b x y Ag ng cg A' n' c' :=
  ⟨(World.cell?_setCell_other _ _ _ _ (by simp)).trans h.1, (World.cell?_setCell_other _ _ _ _ (by simp)).trans h.2.1, (World.cell?_setCell_other _ _ _ _ (by simp)).trans h.2.2.1, World.cell?_setCell_same _ _ _ h.2.2.2⟩
theorem BxC.set4 {x0 y0 : Int} {Ag0 : Option Addr} {ng0 cg0 : Nat} {Ao0 : Option Addr} {no0 co0 : Nat} (h : BxC w b x0 y0 Ag0 ng0 cg0 Ao0 no0 co0) (x y : Int) (Ag : Option Addr) (ng cg : Nat) (Ao : Option Addr) (no co : Nat) :
    BxC ((((w.setCell ⟨b, 0, none⟩ (.int .i64 x)).setCell ⟨b, 1, none⟩ (.int .i64 y)).setCell ⟨b, 2, none⟩ (.slice Ag ng cg)).setCell ⟨b, 3, none⟩ (.slice Ao no co)) b x y Ag ng cg Ao no co := by
  have h1 : BxC (w.setCell ⟨b, 0, none⟩ (.int .i64 x)) b x y0 Ag0 ng0 cg0 Ao0 no0 co0 := ⟨World.cell?_setCell_same _ _ _ h.1, (World.cell?_setCell_other _ _ _ _ (by simp)).trans h.2.1, (World.cell?_setCell_other _ _ _ _ (by simp)).trans h.2.2.1, (World.cell?_setCell_other _ _ _ _ (by simp)).trans h.2.2.2⟩
  have h2 : BxC ((w.setCell ⟨b, 0, none⟩ (.int .i64 x)).setCell ⟨b, 1, none⟩ (.int .i64 y)) b x y Ag0 ng0 cg0 Ao0 no0 co0 := ⟨(World.cell?_setCell_other _ _ _ _ (by simp)).trans h1.1, World.cell?_setCell_same _ _ _ h1.2.1, (World.cell?_setCell_other _ _ _ _ (by simp)).trans h1.2.2.1, (World.cell?_setCell_other _ _ _ _ (by simp)).trans h1.2.2.2⟩
  exact (h2.setG Ag ng cg).setO Ao no co
theorem below_set4 {B : Nat} {a : World} (h : Below B a w) (hB : B ≤ b) (x y : Int) (Ag : Option Addr) (ng cg : Nat) (Ao : Option Addr) (no co : Nat) :
    Below B a ((((w.setCell ⟨b, 0, none⟩ (.int .i64 x)).setCell ⟨b, 1, none⟩ (.int .i64 y)).setCell ⟨b, 2, none⟩ (.slice Ag ng cg)).setCell ⟨b, 3, none⟩ (.slice Ao no co)) :=
  (((h.setCell (p := ⟨b, 0, none⟩) hB _).setCell (p := ⟨b, 1, none⟩) hB _).setCell (p := ⟨b, 2, none⟩) hB _).setCell (p := ⟨b, 3, none⟩) hB _
theorem OwnC.set4 {lo hi : Nat} {A1 : Option Addr} {n1 c1 : Nat} {A2 : Option Addr} {n2 c2 : Nat} {gs : List G3} {os : List Int} (h : OwnC w lo hi A1 n1 c1 A2 n2 c2 gs os) (hb : b < lo ∨ hi ≤ b) (x y : Int) (Ag : Option Addr) (ng cg : Nat) (Ao : Option Addr) (no co : Nat) :
    OwnC ((((w.setCell ⟨b, 0, none⟩ (.int .i64 x)).setCell ⟨b, 1, none⟩ (.int .i64 y)).setCell ⟨b, 2, none⟩ (.slice Ag ng cg)).setCell ⟨b, 3, none⟩ (.slice Ao no co)) lo hi A1 n1 c1 A2 n2 c2 gs os :=
  (((h.far ⟨b, 0, none⟩ _ hb).far ⟨b, 1, none⟩ _ hb).far ⟨b, 2, none⟩ _ hb).far ⟨b, 3, none⟩ _ hb
theorem BxC.grown {r : Option Nat} (h : BxC w b x y Ag ng cg Ao no co) (k : w.grownBy w' r) (hr : r ≠ some b) : BxC w' b x y Ag ng cg Ao no co := by
  have hc : ∀ {q : Nat} {v : Value}, w.cell? ⟨b, q, none⟩ = some v → w'.cell? ⟨b, q, none⟩ = some v := fun {q v} hv => (World.cell?_of_block (w := w) (k.block b (World.block_lt_of_cell? w _ hv) (fun e => hr e.symm))).trans hv
  exact ⟨hc h.1, hc h.2.1, hc h.2.2.1, hc h.2.2.2⟩
end
theorem RG_new1 (w : World) (k a b : Int) (t : TypeId) : RG (w.alloc (.cells #[.int .i64 k, .int .i64 a, .int .i64 b] t)) (some ⟨w.heap.size, 0, none⟩) 1 [⟨k, a, b⟩] := by
  refine ⟨rfl, fun _ => ⟨w.heap.size, 0, rfl, by simp, fun j hj => ?_⟩⟩
  obtain rfl : j = 0 := by omega
  exact ⟨box_cell w _ 0 _ rfl, box_cell w _ 1 _ rfl, box_cell w _ 2 _ rfl⟩
theorem OwnG.far1 {w : World} {lo hi n : Nat} {v : Value} {xs : List G3} (h : OwnG w lo hi v n xs) (p : Addr) (u : Value) (hp : v.ownBlock ≠ some p.block) : OwnG (w.setCell p u) lo hi v n xs := by
  refine ⟨⟨h.1.1, ?_⟩, h.2⟩
  rcases h.1.2 with h1 | ⟨g, cap, cur, rfl, hlo, hg, r⟩
  · exact .inl h1
  · refine .inr ⟨g, cap, cur, rfl, hlo, ?_, r⟩
    have hne : g ≠ p.block := fun hc => hp (by simp [Value.ownBlock, hc])
    rw [Below.heap_setCell w p u g hne]; exact hg
theorem Mk.made {w w5 : World} {lo b n : Nat} {x y : Int} {gs gs' : List G3} {Ag A5 : Option Addr} {cg c5 : Nat} (h1 : b < w.heap.size) (h2 : (Value.slice Ag gs.length cg).ownBlock ≠ some b) (hf : ∀ q, w.frozen? ⟨b, q, none⟩ = false)
    (hbx : BxC w b x y Ag gs.length cg none 0 0) (hown : OwnG w5 lo w5.heap.size (.slice A5 n c5) n gs') (hg : w.grownBy w5 (Value.slice Ag gs.length cg).ownBlock)
    (hat : (Value.slice A5 n c5).ownBlock = (Value.slice Ag gs.length cg).ownBlock ∨ (Value.slice A5 n c5).ownBlock = some w.heap.size) :
    Mk (w5.setCell ⟨b, 2, none⟩ (.slice A5 n c5)) lo b x y gs' (Value.slice A5 n c5).ownBlock ∧ Mv b (Value.slice Ag gs.length cg).ownBlock (Value.slice A5 n c5).ownBlock w (w5.setCell ⟨b, 2, none⟩ (.slice A5 n c5)) := by
  have hl := hown.len
  have hne : (Value.slice A5 n c5).ownBlock ≠ some b := by
    rcases hat with h | h
    · rw [h]; exact h2
    · rw [h]; intro hc; injection hc with hc; omega
  have hsz : w.heap.size ≤ w5.heap.size := hg.size
  subst hl
  refine ⟨⟨by simp; omega, hne, fun q => (World.frozen?_setCell _ _ _ _).trans ((World.frozen?_of_block (w := w) (a := ⟨b, q, none⟩) (hg.block b h1 (fun e => h2 e.symm))).trans (hf q)), A5, c5, (hbx.grown hg h2).setG _ _ _, ?_, rfl⟩, ?_⟩
  · simpa using hown.far1 ⟨b, 2, none⟩ (.slice A5 gs'.length c5) hne
  · refine ⟨hg.os, hg.tape, hg.output, by simpa using hsz, fun k hk hkb hkG => ?_, ?_⟩
    · rw [Below.heap_setCell _ _ _ _ hkb]; exact hg.block k hk (fun e => hkG e.symm)
    · rcases hat with h | h
      · exact .inl h
      · exact .inr ⟨_, h, Nat.le_refl _⟩
theorem OM.far {w : World} {b lo n c : Nat} {G : Option Nat} {O : Option Addr} {xs : List Int} (h : OM w b G lo (.slice O n c) n xs) : ∀ g, O = some ⟨g, 0, none⟩ → lo ≤ g :=
  fun g hg => (h.1.lt g (by rw [hg]; simp [Value.ownBlock])).1
structure Ad where
  g : List G3
  o : List Int
  c : Int
def addStep (n a b : Int) (i : Nat) (s : Ad) : Ad :=
  if i = 0 then ⟨s.g ++ [⟨0, a, b⟩] ++ [⟨1, a, b⟩], s.o ++ [n], n + 1⟩
  else ⟨s.g ++ [⟨0, a, s.c⟩] ++ [⟨0, b, s.c⟩] ++ [⟨0, n, b⟩] ++ [⟨1, n, n + 1⟩] ++ [⟨0, n + 3, s.c⟩], s.o ++ [n + 2], n + 4⟩
def subStep (n a b : Int) (i : Nat) (s : Ad) : Ad :=
  if i = 0 then ⟨s.g ++ [⟨0, a, b⟩] ++ [⟨2, a, 0⟩] ++ [⟨1, n + 1, b⟩], s.o ++ [n], n + 2⟩
  else ⟨s.g ++ [⟨0, a, s.c⟩] ++ [⟨0, b, s.c⟩] ++ [⟨0, n, b⟩] ++ [⟨2, n, 0⟩] ++ [⟨1, n + 3, n + 1⟩] ++ [⟨0, n + 4, s.c⟩], s.o ++ [n + 2], n + 5⟩
def addS (X : Int) (g0 : List G3) (us vs : List Int) : Nat → Ad
  | 0 => ⟨g0, [], -1⟩
  | i + 1 => addStep (X + (addS X g0 us vs i).g.length) (gi us i) (gi vs i) i (addS X g0 us vs i)
def subS (X : Int) (g0 : List G3) (us vs : List Int) : Nat → Ad
  | 0 => ⟨g0, [], -1⟩
  | i + 1 => subStep (X + (subS X g0 us vs i).g.length) (gi us i) (gi vs i) i (subS X g0 us vs i)
theorem addS_o (X : Int) (g0 : List G3) (us vs : List Int) (i : Nat) : (addS X g0 us vs i).o.length = i := by
  induction i with
  | zero => rfl
  | succ i ih => simp only [addS, addStep]; split <;> simp [ih]
theorem subS_o (X : Int) (g0 : List G3) (us vs : List Int) (i : Nat) : (subS X g0 us vs i).o.length = i := by
  induction i with
  | zero => rfl
  | succ i ih => simp only [subS, subStep]; split <;> simp [ih]
theorem addS_g (X : Int) (g0 : List G3) (us vs : List Int) (i : Nat) : (addS X g0 us vs i).g.length ≤ g0.length + 5 * i := by
  induction i with
  | zero => simp [addS]
  | succ i ih => simp only [addS, addStep]; split <;> simp <;> omega
theorem subS_g (X : Int) (g0 : List G3) (us vs : List Int) (i : Nat) : (subS X g0 us vs i).g.length ≤ g0.length + 6 * i := by
  induction i with
  | zero => simp [subS]
  | succ i ih => simp only [subS, subStep]; split <;> simp <;> omega
theorem addS_c {X : Int} (hX : 0 ≤ X) (g0 : List G3) (us vs : List Int) (i : Nat) : 0 ≤ (addS X g0 us vs (i + 1)).c := by
  simp only [addS, addStep]; split <;> simp <;> omega
theorem subS_c {X : Int} (hX : 0 ≤ X) (g0 : List G3) (us vs : List Int) (i : Nat) : 0 ≤ (subS X g0 us vs (i + 1)).c := by
  simp only [subS, subStep]; split <;> simp <;> omega
structure Go2 where
  g : List G3
  o : List Int
def eqs (X : Int) (g0 : List G3) (us vs : List Int) : Nat → Go2
  | 0 => ⟨g0, []⟩
  | i + 1 => ⟨(eqs X g0 us vs i).g ++ [⟨0, gi us i, gi vs i⟩] ++ [⟨2, X + (eqs X g0 us vs i).g.length, 0⟩], (eqs X g0 us vs i).o ++ [X + (eqs X g0 us vs i).g.length + 1]⟩
theorem eqs_o (X : Int) (g0 : List G3) (us vs : List Int) (i : Nat) : (eqs X g0 us vs i).o.length = i := by
  induction i with
  | zero => rfl
  | succ i ih => simp [eqs, ih]
theorem eqs_g (X : Int) (g0 : List G3) (us vs : List Int) (i : Nat) : (eqs X g0 us vs i).g.length = g0.length + 2 * i := by
  induction i with
  | zero => simp [eqs]
  | succ i ih => simp [eqs]; omega
def ands (X : Int) (es : List Int) (g0 : List G3) : Nat → List G3 × Int
  | 0 => (g0, gi es 0)
  | i + 1 => ((ands X es g0 i).1 ++ [⟨1, (ands X es g0 i).2, gi es (i + 1)⟩], X + (ands X es g0 i).1.length)
theorem ands_g (X : Int) (es : List Int) (g0 : List G3) (i : Nat) : (ands X es g0 i).1.length = g0.length + i := by
  induction i with
  | zero => simp [ands]
  | succ i ih => simp [ands]; omega
def chs (X : Int) (g0 : List G3) (s : Int) (us vs : List Int) : Nat → Go2
  | 0 => ⟨g0, []⟩
  | i + 1 => ⟨(chs X g0 s us vs i).g ++ [⟨0, gi us i, gi vs i⟩] ++ [⟨1, s, X + (chs X g0 s us vs i).g.length⟩] ++ [⟨0, X + (chs X g0 s us vs i).g.length + 1, gi vs i⟩], (chs X g0 s us vs i).o ++ [X + (chs X g0 s us vs i).g.length + 2]⟩
theorem chs_o (X : Int) (g0 : List G3) (s : Int) (us vs : List Int) (i : Nat) : (chs X g0 s us vs i).o.length = i := by
  induction i with
  | zero => rfl
  | succ i ih => simp [chs, ih]
theorem chs_g (X : Int) (g0 : List G3) (s : Int) (us vs : List Int) (i : Nat) : (chs X g0 s us vs i).g.length = g0.length + 3 * i := by
  induction i with
  | zero => simp [chs]
  | succ i ih => simp [chs]; omega
def rowG (X : Int) (v : Int) (us : List Int) (g0 : List G3) : Nat → Go2
  | 0 => ⟨g0, []⟩
  | j + 1 => ⟨(rowG X v us g0 j).g ++ [⟨1, gi us j, v⟩], (rowG X v us g0 j).o ++ [X + (rowG X v us g0 j).g.length]⟩
theorem row_o (X : Int) (v : Int) (us : List Int) (g0 : List G3) (i : Nat) : (rowG X v us g0 i).o.length = i := by
  induction i with
  | zero => rfl
  | succ i ih => simp [rowG, ih]
theorem row_g (X : Int) (v : Int) (us : List Int) (g0 : List G3) (i : Nat) : (rowG X v us g0 i).g.length = g0.length + i := by
  induction i with
  | zero => simp [rowG]
  | succ i ih => simp [rowG]; omega
def spn (a : Int) (n : Nat) : List Int := (List.range n).map fun i : Nat => a + (i : Int)
theorem spn_len (a : Int) (n : Nat) : (spn a n).length = n := by simp [spn]
theorem spn_snoc (a : Int) (n : Nat) : spn a (n + 1) = spn a n ++ [a + n] := by simp [spn, List.range_succ]
theorem cell_on {w w' : World} {B : Nat} {p : Addr} {v : Value} (hb : Below B w w') (h : w.cell? p = some v) (hB : w.heap.size ≤ B) : w'.cell? p = some v :=
  (hb.cell (Nat.lt_of_lt_of_le (World.block_lt_of_cell? w _ h) hB)).trans h
theorem cell_below {w w' : World} {p : Addr} {v : Value} (h : w.cell? p = some v) (hb : Below w.heap.size w w') : w'.cell? p = some v := cell_on hb h (Nat.le_refl _)
theorem RI_one (w : World) (x : Int) (t : TypeId) (g : Nat) (hg : w.heap.size = g) : RI (w.alloc (.cells #[.int .i64 x] t)) (some ⟨g, 0, none⟩) 1 [x] := by
  subst hg; exact RI_new1 w x t
def band (a b : Int) : Int := bits .and .i64 a b
inductive GateIs (g : G3) (n : Int) : Prop where
  | xor_ : g.k = 0 → 0 ≤ g.a → g.a < n → 0 ≤ g.b → g.b < n → GateIs g n
  | and_ : g.k = 1 → 0 ≤ g.a → g.a < n → 0 ≤ g.b → g.b < n → GateIs g n
  | not_ : g.k = 2 → 0 ≤ g.a → g.a < n → g.b = 0 → GateIs g n
  | one_ : g.k = 3 → g.a = 0 → g.b = 0 → GateIs g n
theorem gateB_is {g : G3} {n : Int} (h : gateB g n = true) : GateIs g n := by
  unfold gateB at h
  split at h
  · rename_i hk
    simp only [Bool.and_eq_true, inB_iff] at h
    rcases hk with hk | hk
    · exact .xor_ hk (by omega) (by omega) (by omega) (by omega)
    · exact .and_ hk (by omega) (by omega) (by omega) (by omega)
  · split at h
    · rename_i hk
      simp only [Bool.and_eq_true, inB_iff, decide_eq_true_eq] at h
      exact .not_ hk (by omega) (by omega) h.2
    · simp only [Bool.and_eq_true, decide_eq_true_eq] at h
      exact .one_ h.1 h.2.1 h.2.2
theorem gatesB_at {n : Int} {gs : List G3} {k m : Nat} (h : gatesB n gs m = true) (hk : k < m) : GateIs (gg gs k) (n + k) :=
  gateB_is (List.all_eq_true.1 h k (List.mem_range.2 hk))
theorem circB_bd {x y : Int} {gs : List G3} {os : List Int} (h : circB x y gs os = true) :
    (0 ≤ x ∧ x ≤ 20) ∧ (0 ≤ y ∧ y ≤ 20) ∧ gs.length ≤ 300 ∧ os.length ≤ 40 ∧ gatesB (x + y) gs gs.length = true ∧ allB 0 (x + y + gs.length - 1) os = true := by
  simp only [circB, Bool.and_eq_true, inB_iff, decide_eq_true_eq] at h
  exact ⟨h.1, h.2.1, h.2.2.1, h.2.2.2.1, h.2.2.2.2.1, h.2.2.2.2.2⟩
def gval (g : G3) (out : List Int) : Int :=
  if g.k = 0 then bxor (gi out g.a.toNat) (gi out g.b.toNat) else if g.k = 1 then band (gi out g.a.toNat) (gi out g.b.toNat) else if g.k = 2 then 1 - gi out g.a.toNat else 1
def vals (gs : List G3) (inp : List Int) : Nat → List Int
  | 0 => inp
  | k + 1 => vals gs inp k ++ [gval (gg gs k) (vals gs inp k)]
theorem Clone_any (A : Option Addr) (n c : Nat) (xs : List Int) (w : World) (ha : RI w A n xs) (hn : n ≤ 2097152) :
    Calls Tryz.prog 99 #[.slice A n c] w fun e w' => ∃ A' c', e = .returned (.slice A' n c') ∧ Own w' w.heap.size w'.heap.size (.slice A' n c') n xs ∧ Below w.heap.size w w' := by
  have hl := ha.len
  rcases A with _ | ad
  · have h0 : n = 0 := by
      rcases Nat.eq_zero_or_pos n with h | h
      · exact h
      · obtain ⟨b, o, h', _⟩ := ha.2 h
        cases h'
    subst h0
    obtain rfl : xs = [] := List.eq_nil_of_length_eq_zero hl
    have he := fun W => Lib.run_eql_slice_nil (P := Tryz.prog) W (t := 24) (e := 3) none 0 c 0 0 Tryz.underlying24
    go_enter Tryz.func99, Tryz.ntmps99
    go_wp2
    go_ret
    exact ⟨_, _, rfl, Own.none_ _ _ _, Below.refl _ _⟩
  · have he := fun W => Lib.run_eql_slice_nil (P := Tryz.prog) W (t := 24) (e := 3) (some ad) n c 0 0 Tryz.underlying24
    have hB : Below w.heap.size w (w.alloc (.cells #[] 3)) := (Below.refl _ _).alloc (Nat.le_refl _) _
    have h0 := Own_new0 w w.heap.size (Nat.le_refl _)
    go_enter Tryz.func99, Tryz.ntmps99
    go_wp2_with (at_builtin; refine wpList_app _ rfl _ _ rfl rfl h0 rfl (ha.alloc _) (by omega) (by simp) ?_; intro A' c' w1 hown hg hat)
    simp only [Nat.zero_add, List.nil_append] at hown
    go_wp2
    go_ret
    exact ⟨_, _, by simp, hown, below_app hB h0 hg (by simp) (Nat.le_refl _)⟩
theorem l1Own_any (A : Option Addr) (n c : Nat) (xs : List Int) (w : World) (ha : RI w A n xs) (hn : n ≤ 2097152) :
    Calls Tryz.prog 101 #[.slice A n c] w fun e w' => ∃ A' c', e = .returned (.slice A' n c') ∧ Own w' w.heap.size w'.heap.size (.slice A' n c') n xs ∧ Below w.heap.size w w' := by
  have hl := ha.len
  have hB : Below w.heap.size w (w.alloc (.cells #[] 3)) := (Below.refl _ _).alloc (Nat.le_refl _) _
  have h0 := Own_new0 w w.heap.size (Nat.le_refl _)
  go_enter Tryz.func101, Tryz.ntmps101
  go_wp2_with (at_builtin; refine wpList_app _ rfl _ _ rfl rfl h0 rfl (ha.alloc _) (by omega) (by simp) ?_; intro A' c' w1 hown hg hat)
  simp only [Nat.zero_add, List.nil_append] at hown
  go_wp2
  go_ret
  exact ⟨_, _, by simp, hown, below_app hB h0 hg (by simp) (Nat.le_refl _)⟩
theorem with_any (A B : Option Addr) (n c m d : Nat) (xs ys : List Int) (w : World) (ha : RI w A n xs) (hb : RI w B m ys) (hn : n ≤ 2097152) (hm : m ≤ 2097152) :
    Calls Tryz.prog 46 #[.slice A n c, .slice B m d] w fun e w' => ∃ A' c', e = .returned (.slice A' (n + m) c') ∧ Own w' w.heap.size w'.heap.size (.slice A' (n + m) c') (n + m) (xs ++ ys) ∧ Below w.heap.size w w' := by
  have hl := ha.len
  go_enter Tryz.func46, Tryz.ntmps46
  go_wp2_with fail
  refine (Clone_any _ _ _ _ _ ha hn).mono ?_
  rintro e w1 ⟨A1, c1, rfl, hown1, hb1⟩
  have hz := hb1.size
  go_wp2_with (at_builtin; refine wpList_app _ rfl _ _ rfl rfl hown1 rfl (hb.below hb1 (Nat.le_refl _)) (by omega) hz ?_; intro A' c' w2 hown hg hat)
  go_wp2
  go_ret
  exact ⟨_, _, rfl, hown, below_app hb1 hown1 hg hz (Nat.le_refl _)⟩
theorem wp_region_tail {P : Program} {id : Nat} {Q : Exit → Act → World → Prop} {a : Act} {w : World} {l : List Oper} (n : Nat) (hm : P.follows .mixedOrders = true) (hB : Region.lexTailB .any l.toArray n = true)
    (h : wpStill P l.toArray (w.drewN 1) (fun a' => wpList P l.toArray Q (l.drop n) a' (w.drewN 1)) (l.take n) a) : (Code.region id l.toArray true).wp P Q a w :=
  wp_region_still_tail n hm hB h
def RetRow (lo b : Nat) (x y : Int) (gs : List G3) (os : List Int) (G : Option Nat) (w : World) (e : Ending) (w' : World) : Prop :=
  ∃ G' O oc, e = .returned (.slice O os.length oc) ∧ Mk w' lo b x y gs G' ∧ Mv b G G' w w' ∧ OM w' b G' w.heap.size (.slice O os.length oc) os.length os
theorem RetRow.mk_ {lo b n : Nat} {x y : Int} {gs : List G3} {os : List Int} {G G' : Option Nat} {w w' : World} {e : Ending} {O : Option Addr} {oc : Nat} (hn : os.length = n) (he : e = .returned (.slice O n oc)) (hm : Mk w' lo b x y gs G') (hv : Mv b G G' w w') (ho : OM w' b G' w.heap.size (.slice O n oc) n os) : RetRow lo b x y gs os G w e w' := by
  subst hn; exact ⟨G', O, oc, he, hm, hv, ho⟩
theorem RetRow.open_ {lo b n : Nat} {x y : Int} {gs : List G3} {os : List Int} {G : Option Nat} {w w' : World} {e : Ending} (h : RetRow lo b x y gs os G w e w') (hn : os.length = n) :
    ∃ G' O oc, e = .returned (.slice O n oc) ∧ Mk w' lo b x y gs G' ∧ Mv b G G' w w' ∧ OM w' b G' w.heap.size (.slice O n oc) n os := by
  subst hn; exact h
theorem gdRange_any (a : Int) (n : Nat) (w : World) (ha : 0 ≤ a ∧ a ≤ 1000000) (hn : n ≤ 1000000) :
    Calls Tryz.prog 122 #[.int .i64 a, .int .i64 n] w (RetI w (spn a n)) := by
  have HS := Lib.hid (spn_snoc a)
  have hs0 : spn a 0 = [] := rfl
  have HL := Lib.hid (spn_len a)
  obtain ⟨ha0, ha1⟩ := ha
  have hnone : Own w w.heap.size w.heap.size (.slice none 0 0) 0 (spn a 0) ∧ Below w.heap.size w w := ⟨by rw [hs0]; exact Own.none_ _ _ _, Below.refl _ _⟩
  have hsome : Own (w.alloc (.cells #[] 3)) w.heap.size (w.alloc (.cells #[] 3)).heap.size (.slice (some ⟨w.heap.size, 0, none⟩) 0 0) 0 (spn a 0) ∧ Below w.heap.size w (w.alloc (.cells #[] 3)) := ⟨by rw [hs0]; exact (Own_new0 w _ (Nat.le_refl _)).now, (Below.refl _ _).alloc (Nat.le_refl _) _⟩
  go_enter Tryz.func122, Tryz.ntmps122
  go_wp2
  go_loopw [5, 6] (fun o i wr => ∃ (k : Nat) (O : Option Addr) (oc : Nat), k ≤ n ∧ i = .int .i64 k ∧ o = .slice O k oc ∧ Own wr w.heap.size wr.heap.size (.slice O k oc) k (spn a k) ∧ Below w.heap.size w wr) (fun _ i _ => n - (intOf i).toNat)
  case atStart => exact ⟨0, _, _, Nat.zero_le _, rfl, rfl, hnone.1, hnone.2⟩
  case round =>
    obtain ⟨k, O, oc, hk, rfl, rfl, hown, hb⟩ := hrel
    clear hnone hsome
    have hz := hb.size
    by_cases hlt : k < n
    · have hsn := Lib.hid (HS.out k)
      have hoA := hown.alloc (.cells #[.int .i64 (a + k)] 3)
      have hbA := hb.alloc hz (.cells #[.int .i64 (a + k)] 3)
      go_wp2_with (at_builtin; refine wpList_appI _ rfl _ _ rfl rfl hoA rfl (RI_one _ _ _ _ (by simp)) (by omega) (by first | omega | (simp; done) | (simp; omega)) ?_; intro A5 c5 w5 hown5 hg5 hat5 hk5)
      have hb5 := below_app hbA hoA hg5 (by simp; omega) (Nat.le_refl _)
      rw [← hsn.out] at hown5
      clear hoA hbA hg5 hat5 hk5 hown hb hsn
      go_wp2
      go_roundw
      case rel => exact ⟨k + 1, _, _, by omega, by go_num, rfl, hown5, hb5⟩
      case measure => simp [intOf]; omega
    · obtain rfl : n = k := Nat.le_antisymm (Nat.le_of_not_lt hlt) hk
      go_wp2
      go_ret
      exact RetI.mk_ (HL.out n) rfl hown hb
end Go.Proofs.YtenknpcbbcbciaaGreat
