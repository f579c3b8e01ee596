/- Worlds that differ in the blocks of a set alone: what is read or owned outside that set stays. No condition. -/
import Derived.Test.YtgenehiiakdadaaQAo
namespace Go.Proofs.Ytgenehiiakdadaa
open Go.RowKit
set_option linter.unusedVariables false
set_option linter.unusedSimpArgs false

/-- Of the blocks that were there, those outside S are as they were. -/
structure Alt (S : Nat → Prop) (w w' : World) : Prop where
  os : w'.os = w.os
  tape : w'.tape = w.tape
  output : w'.output = w.output
  size : w.heap.size ≤ w'.heap.size
  block : ∀ k, k < w.heap.size → ¬ S k → w'.heap[k]? = w.heap[k]?
section
variable {S T : Nat → Prop} {a b c w w' : World}
theorem Alt.refl_ (S : Nat → Prop) (w : World) : Alt S w w := ⟨rfl, rfl, rfl, Nat.le_refl _, fun _ _ _ => rfl⟩
theorem Alt.trans_ (h : Alt S a b) (k : Alt T b c) (hs : ∀ i, i < a.heap.size → T i → S i) : Alt S a c :=
  ⟨k.os.trans h.os, k.tape.trans h.tape, k.output.trans h.output, Nat.le_trans h.size k.size, fun i hi hn => (k.block i (Nat.lt_of_lt_of_le hi h.size) (fun ht => hn (hs i hi ht))).trans (h.block i hi hn)⟩
theorem Alt.mono_ (h : Alt S a b) (hs : ∀ i, i < a.heap.size → S i → T i) : Alt T a b := (Alt.refl_ T a).trans_ h hs
theorem Alt.of_below {B : Nat} (h : Below B a b) (hs : ∀ i, i < a.heap.size → B ≤ i → S i) : Alt S a b :=
  ⟨h.os, h.tape, h.output, h.size, fun i hi hn => h.block i (Nat.lt_of_not_le fun hc => hn (hs i hi hc))⟩
theorem Alt.of_new (h : Below a.heap.size a b) : Alt S a b := Alt.of_below h fun i hi hB => by omega
theorem Alt.of_grown {r : Option Nat} (h : a.grownBy b r) (hs : ∀ i, r = some i → S i) : Alt S a b :=
  ⟨h.os, h.tape, h.output, h.size, fun i hi hn => h.block i hi fun he => hn (hs i he.symm)⟩
/-- New blocks; behind them nothing that was there. -/
theorem Alt.new_ (h : Alt S a b) (k : Below b.heap.size b c) : Alt S a c := h.trans_ (T := S) (Alt.of_new k) fun _ _ h => h
theorem Alt.from_ {B : Nat} (h : Alt S a b) (k : Below B b c) (hB : ∀ i, i < a.heap.size → B ≤ i → S i) : Alt S a c :=
  h.trans_ (T := fun i => B ≤ i) (Alt.of_below k fun _ _ h => h) hB
theorem Alt.grow_ {r : Option Nat} (h : Alt S a b) (k : b.grownBy c r) (hs : ∀ i, i < a.heap.size → r = some i → S i) : Alt S a c :=
  h.trans_ (T := fun i => r = some i) (Alt.of_grown k fun _ h => h) hs
theorem Alt.set_ (h : Alt S a b) (p : Addr) (v : Value) (hp : p.block < a.heap.size → S p.block) : Alt S a (b.setCell p v) := by
  have k := (Below.refl p.block b).setCell (p := p) (Nat.le_refl _) v
  exact ⟨k.os.trans h.os, k.tape.trans h.tape, k.output.trans h.output, Nat.le_trans h.size k.size, fun i hi hn => (Below.heap_setCell b p v i (fun he => hn (by subst he; exact hp hi))).trans (h.block i hi hn)⟩
theorem Alt.alloc_ (h : Alt S a b) (o : Obj) : Alt S a (b.alloc o) := h.new_ ((Below.refl _ _).alloc (Nat.le_refl _) o)
theorem Alt.drewN_ (h : Alt S a b) (n : Nat) : Alt S a (b.drewN n) := ⟨h.os, h.tape, h.output, h.size, h.block⟩
theorem Alt.grownBy_ {r : Option Nat} (h : Alt S a b) (hs : ∀ i, i < a.heap.size → S i → r = some i) : a.grownBy b r :=
  ⟨h.os, h.tape, h.output, h.size, fun i hi hn => h.block i hi fun hc => hn (hs i hi hc).symm⟩
theorem Alt.below_ {B : Nat} (h : Alt S a b) (hB : B ≤ a.heap.size) (hs : ∀ i, i < B → ¬ S i) : Below B a b :=
  ⟨h.os, h.tape, h.output, h.size, fun i hi => h.block i (by omega) (hs i hi)⟩
theorem Alt.cell_ {p : Addr} {v : Value} (k : Alt S w w') (h : w.cell? p = some v) (hp : ¬ S p.block) : w'.cell? p = some v :=
  (World.cell?_of_block (w := w) (k.block p.block (World.block_lt_of_cell? w _ h) hp)).trans h
end
section
variable {S : Nat → Prop} {w w' : World} {lo hi n b : Nat} {v : Value} {A : Option Addr}
theorem RI.alt {xs : List Int} (h : RI w A n xs) (k : Alt S w w') (hs : 0 < n → ∀ b o, A = some ⟨b, o, none⟩ → ¬ S b) : RI w' A n xs :=
  ⟨h.1, fun hn => by
    obtain ⟨b, o, hA, hlt, hc⟩ := h.2 hn
    exact ⟨b, o, hA, Nat.lt_of_lt_of_le hlt k.size, fun j hj => k.cell_ (hc j hj) (hs hn b o hA)⟩⟩
theorem RG.alt {xs : List G3} (h : RG w A n xs) (k : Alt S w w') (hs : 0 < n → ∀ b o, A = some ⟨b, o, none⟩ → ¬ S b) : RG w' A n xs :=
  ⟨h.1, fun hn => by
    obtain ⟨b, o, hA, hlt, hc⟩ := h.2 hn
    exact ⟨b, o, hA, Nat.lt_of_lt_of_le hlt k.size, fun j hj => ⟨k.cell_ (hc j hj).1 (hs hn b o hA), k.cell_ (hc j hj).2.1 (hs hn b o hA), k.cell_ (hc j hj).2.2 (hs hn b o hA)⟩⟩⟩
theorem Own.alt {xs : List Int} (h : Own w lo hi v n xs) (k : Alt S w w') (hs : ∀ g, v.ownBlock = some g → ¬ S g) : Own w' lo hi v n xs := by
  refine ⟨⟨h.1.1, ?_⟩, h.2⟩
  rcases h.1.2 with h1 | ⟨g, cap, cur, rfl, hlo, hg, r⟩
  · exact .inl h1
  · have hl := h.lt g (by simp [Value.ownBlock])
    exact .inr ⟨g, cap, cur, rfl, hlo, by rw [k.block g hl.2.2 (hs g (by simp [Value.ownBlock]))]; exact hg, r⟩
theorem OwnG.alt {xs : List G3} (h : OwnG w lo hi v n xs) (k : Alt S w w') (hs : ∀ g, v.ownBlock = some g → ¬ S g) : OwnG w' lo hi v n xs := by
  refine ⟨⟨h.1.1, ?_⟩, h.2⟩
  rcases h.1.2 with h1 | ⟨g, cap, cur, rfl, hlo, hg, r⟩
  · exact .inl h1
  · have hl := h.lt g (by simp [Value.ownBlock])
    exact .inr ⟨g, cap, cur, rfl, hlo, by rw [k.block g hl.2.2 (hs g (by simp [Value.ownBlock]))]; exact hg, r⟩
theorem Fz.alt (h : Fz w b) (k : Alt S w w') (hb : b < w.heap.size) (hs : ¬ S b) : Fz w' b := fun q => (World.frozen?_of_block (w := w) (a := ⟨b, q, none⟩) (k.block b hb hs)).trans (h q)
theorem BxC.alt {x y : Int} {Ag : Option Addr} {ng cg : Nat} {Ao : Option Addr} {no co : Nat} (h : BxC w b x y Ag ng cg Ao no co) (k : Alt S w w') (hs : ¬ S b) : BxC w' b x y Ag ng cg Ao no co :=
  ⟨k.cell_ h.1 hs, k.cell_ h.2.1 hs, k.cell_ h.2.2.1 hs, k.cell_ h.2.2.2 hs⟩
theorem BxA.alt {p x y : Int} {Ag : Option Addr} {ng cg : Nat} {Ao : Option Addr} {no co : Nat} (h : BxA w b p x y Ag ng cg Ao no co) (k : Alt S w w') (hs : ¬ S b) : BxA w' b p x y Ag ng cg Ao no co :=
  ⟨k.cell_ h.1 hs, k.cell_ h.2.1 hs, k.cell_ h.2.2.1 hs, k.cell_ h.2.2.2.1 hs, k.cell_ h.2.2.2.2 hs⟩
theorem RI.lt {xs : List Int} (h : RI w A n xs) {B : Nat} (hB : w.heap.size ≤ B) (hn : 0 < n) : ∀ b o, A = some ⟨b, o, none⟩ → b < B := fun b o hA => by
  obtain ⟨b', o', hA', hlt, _⟩ := h.2 hn
  rw [hA] at hA'; injection hA' with hA'; injection hA' with h1 h2; omega
theorem RG.lt {xs : List G3} (h : RG w A n xs) {B : Nat} (hB : w.heap.size ≤ B) (hn : 0 < n) : ∀ b o, A = some ⟨b, o, none⟩ → b < B := fun b o hA => by
  obtain ⟨b', o', hA', hlt, _⟩ := h.2 hn
  rw [hA] at hA'; injection hA' with hA'; injection hA' with h1 h2; omega
theorem BxC.bel {x y : Int} {Ag : Option Addr} {ng cg : Nat} {Ao : Option Addr} {no co : Nat} (h : BxC w b x y Ag ng cg Ao no co) {B : Nat} (k : Below B w w') (hb : b < B) : BxC w' b x y Ag ng cg Ao no co :=
  have hc : ∀ {q : Nat} {v : Value}, w.cell? ⟨b, q, none⟩ = some v → w'.cell? ⟨b, q, none⟩ = some v := fun {q v} hv => (k.cell (p := ⟨b, q, none⟩) hb).trans hv
  ⟨hc h.1, hc h.2.1, hc h.2.2.1, hc h.2.2.2⟩
theorem BxC.lt {x y : Int} {Ag : Option Addr} {ng cg : Nat} {Ao : Option Addr} {no co : Nat} (h : BxC w b x y Ag ng cg Ao no co) : b < w.heap.size := World.block_lt_of_cell? w _ h.1
theorem BxA.lt {p x y : Int} {Ag : Option Addr} {ng cg : Nat} {Ao : Option Addr} {no co : Nat} (h : BxA w b p x y Ag ng cg Ao no co) : b < w.heap.size := World.block_lt_of_cell? w _ h.1
end
theorem alt_set4 {S : Nat → Prop} {a w : World} {b : Nat} (h : Alt S a w) (hb : b < a.heap.size → S b) (x y : Int) (Ag : Option Addr) (ng cg : Nat) (Ao : Option Addr) (no co : Nat) :
    Alt S a ((((w.setCell ⟨b, 0, none⟩ (.int .i64 x)).setCell ⟨b, 1, none⟩ (.int .i64 y)).setCell ⟨b, 2, none⟩ (.slice Ag ng cg)).setCell ⟨b, 3, none⟩ (.slice Ao no co)) :=
  (((h.set_ ⟨b, 0, none⟩ _ hb).set_ ⟨b, 1, none⟩ _ hb).set_ ⟨b, 2, none⟩ _ hb).set_ ⟨b, 3, none⟩ _ hb

end Go.Proofs.Ytgenehiiakdadaa
