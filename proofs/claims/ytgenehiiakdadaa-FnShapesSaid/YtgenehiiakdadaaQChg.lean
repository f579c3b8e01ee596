/- Worlds that differ in some blocks alone; marking as the laws do it. -/
import Derived.Test.YtgenehiiakdadaaQLaw
import Derived.Test.YtgenehiiakdadaaQTab
namespace Go.Proofs.Ytgenehiiakdadaa
open Go.RowKit
set_option linter.unusedVariables false
set_option linter.unusedSimpArgs false

/-- Of the blocks that were there, those outside lo .. hi - 1 are as they were. -/
structure Chg (lo hi : Nat) (w w' : World) : Prop where
  os : w'.os = w.os
  tape : w'.tape = w.tape
  output : w'.output = w.output
  size : w.heap.size ≤ w'.heap.size
  block : ∀ k, k < w.heap.size → k < lo ∨ hi ≤ k → w'.heap[k]? = w.heap[k]?
theorem Chg.refl_ (lo hi : Nat) (w : World) : Chg lo hi w w := ⟨rfl, rfl, rfl, Nat.le_refl _, fun _ _ _ => rfl⟩
theorem Chg.trans_ {lo hi : Nat} {a b c : World} (h : Chg lo hi a b) (k : Chg lo hi b c) : Chg lo hi a c :=
  ⟨k.os.trans h.os, k.tape.trans h.tape, k.output.trans h.output, Nat.le_trans h.size k.size, fun i hi ho => (k.block i (Nat.lt_of_lt_of_le hi h.size) ho).trans (h.block i hi ho)⟩
theorem Chg.of_below {lo hi : Nat} {a b : World} (h : Below a.heap.size a b) : Chg lo hi a b := ⟨h.os, h.tape, h.output, h.size, fun i hi _ => h.block i hi⟩
theorem Chg.of_grown {lo hi n : Nat} {v : Value} {xs : List Int} {a b : World} (h : Own a lo hi v n xs) (hg : a.grownBy b v.ownBlock) : Chg lo hi a b :=
  ⟨hg.os, hg.tape, hg.output, hg.size, fun i hi ho => hg.block i hi (fun he => by have := h.lt i he.symm; omega)⟩
theorem Chg.below_ {lo hi B : Nat} {a b c : World} (h : Below B a b) (k : Chg lo hi b c) (hB : B ≤ lo) (hB2 : B ≤ b.heap.size) : Below B a c :=
  ⟨k.os.trans h.os, k.tape.trans h.tape, k.output.trans h.output, Nat.le_trans h.size k.size, fun i hi => (k.block i (by omega) (.inl (by omega))).trans (h.block i hi)⟩
theorem Own.chg {w w' : World} {lo hi lo' hi' n : Nat} {v : Value} {xs : List Int} (h : Own w lo hi v n xs) (k : Chg lo' hi' w w') (hd : hi ≤ lo' ∨ hi' ≤ lo) : Own w' lo hi v n xs := by
  refine ⟨⟨h.1.1, ?_⟩, h.2⟩
  rcases h.1.2 with h1 | ⟨g, cap, cur, rfl, hlo, hg, r⟩
  · exact .inl h1
  · have hl := h.lt g (by simp [Value.ownBlock])
    exact .inr ⟨g, cap, cur, rfl, hlo, by rw [k.block g (by omega) (by omega)]; exact hg, r⟩
theorem RI.chg {w w' : World} {A : Option Addr} {n B lo hi : Nat} {xs : List Int} (h : RI w A n xs) (k : Chg lo hi w w') (hb : ∀ b o, A = some ⟨b, o, none⟩ → b < lo ∨ hi ≤ b) : RI w' A n xs :=
  ⟨h.1, fun hn => by
    obtain ⟨b, o, hA, hlt, hc⟩ := h.2 hn
    refine ⟨b, o, hA, Nat.lt_of_lt_of_le hlt k.size, fun j hj => ?_⟩
    rw [← hc j hj]
    exact World.cell?_of_block (w := w) (a := ⟨b, o + j, none⟩) (k.block b hlt (hb b o hA))⟩

end Go.Proofs.Ytgenehiiakdadaa
