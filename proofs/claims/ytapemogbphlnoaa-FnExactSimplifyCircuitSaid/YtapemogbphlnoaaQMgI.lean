/- Words for the circuit in the making and the wires' new places, in two boxes with a row each. No condition. -/
import Derived.Test.YtapemogbphlnoaaQMrg
namespace Go.Proofs.Ytapemogbphlnoaa
open Go.RowKit
set_option linter.unusedVariables false
set_option linter.unusedSimpArgs false

theorem OwnG_new1 (w : World) (g : G3) (lo : Nat) (hl : lo ≤ w.heap.size) : OwnG (w.alloc (.cells #[.int .i64 g.k, .int .i64 g.a, .int .i64 g.b] 100)) lo (w.heap.size + 1) (.slice (some ⟨w.heap.size, 0, none⟩) 1 1) 1 [g] := by
  refine ⟨?_, fun q hq => by simp [Value.ownBlock] at hq; omega⟩
  have h := World.ownsRow_lit (base := lo) (e := 100) (size := 3) w #[.int .i64 g.k, .int .i64 g.a, .int .i64 g.b] 1 hl (by unfold maxLen; omega) (by simp)
  simpa [gcells] using h
theorem postRowG.new1 (w : World) (g : G3) : postRowG w 1 [g] (.slice (some ⟨w.heap.size, 0, none⟩) 1 1) (w.alloc (.cells #[.int .i64 g.k, .int .i64 g.a, .int .i64 g.b] 100)) :=
  ⟨_, _, rfl, (OwnG_new1 w g w.heap.size (Nat.le_refl _)).hi_ (by simp), (Below.refl _ _).alloc (Nat.le_refl _) _⟩
structure MgI (w : World) (lo b4 b5 : Nat) (x y : Int) (G : Option Addr) (k cG : Nat) (gs : List G3) (F : Option Addr) (n cF : Nat) (fs : List Int) : Prop where
  bx : BxC w b4 x y G k cG none 0 0
  f4 : Fz w b4
  c5 : w.cell? ⟨b5, 0, none⟩ = some (.slice F n cF)
  f5 : Fz w b5
  g : OwnG w lo w.heap.size (.slice G k cG) k gs
  f : Own w lo w.heap.size (.slice F n cF) n fs
  ap : Apart (.slice G k cG) (.slice F n cF)
  g4 : (Value.slice G k cG).ownBlock ≠ some b4
  g5 : (Value.slice G k cG).ownBlock ≠ some b5
  r4 : (Value.slice F n cF).ownBlock ≠ some b4
  r5 : (Value.slice F n cF).ownBlock ≠ some b5
  ne : b4 ≠ b5
  lo4 : lo ≤ b4
  lo5 : lo ≤ b5
  lt4 : b4 < w.heap.size
  lt5 : b5 < w.heap.size
section
variable {w w' : World} {lo b4 b5 : Nat} {x y : Int} {G : Option Addr} {k cG : Nat} {gs : List G3} {F : Option Addr} {n cF : Nat} {fs : List Int}
theorem MgI.below (h : MgI w lo b4 b5 x y G k cG gs F n cF fs) (hb : Below w.heap.size w w') : MgI w' lo b4 b5 x y G k cG gs F n cF fs :=
  ⟨h.bx.below hb, h.f4.below hb h.lt4, cell_bel h.c5 hb, h.f5.below hb h.lt5, (h.g.below hb (.inl (Nat.le_refl _))).now, (h.f.below hb (.inl (Nat.le_refl _))).now, h.ap, h.g4, h.g5, h.r4, h.r5, h.ne, h.lo4, h.lo5, Nat.lt_of_lt_of_le h.lt4 hb.size, Nat.lt_of_lt_of_le h.lt5 hb.size⟩
/-- Behind the stores of both slices. -/
theorem MgI.stored {G0 : Option Addr} {k0 c0 : Nat} {v : Value} (hx : BxC w b4 x y G0 k0 c0 none 0 0) (f4 : Fz w b4) (h5 : w.cell? ⟨b5, 0, none⟩ = some v) (f5 : Fz w b5) (hg : OwnG w lo w.heap.size (.slice G k cG) k gs) (hf : Own w lo w.heap.size (.slice F n cF) n fs) (ap : Apart (.slice G k cG) (.slice F n cF))
    (g4 : (Value.slice G k cG).ownBlock ≠ some b4) (g5 : (Value.slice G k cG).ownBlock ≠ some b5) (r4 : (Value.slice F n cF).ownBlock ≠ some b4) (r5 : (Value.slice F n cF).ownBlock ≠ some b5) (ne : b4 ≠ b5) (lo4 : lo ≤ b4) (lo5 : lo ≤ b5) (lt4 : b4 < w.heap.size) (lt5 : b5 < w.heap.size) :
    MgI ((w.setCell ⟨b4, 2, none⟩ (.slice G k cG)).setCell ⟨b5, 0, none⟩ (.slice F n cF)) lo b4 b5 x y G k cG gs F n cF fs := by
  have k1 : Alt (fun i => i = b4) w (w.setCell ⟨b4, 2, none⟩ (.slice G k cG)) := (Alt.refl_ _ w).set_ _ _ (fun _ => rfl)
  have k2 : Alt (fun i => i = b5) (w.setCell ⟨b4, 2, none⟩ (.slice G k cG)) ((w.setCell ⟨b4, 2, none⟩ (.slice G k cG)).setCell ⟨b5, 0, none⟩ (.slice F n cF)) := (Alt.refl_ _ _).set_ _ _ (fun _ => rfl)
  have h51 := k1.cell_ h5 (fun h => ne h.symm)
  exact ⟨(hx.setG G k cG).alt k2 ne, (f4.set _ _).set _ _, World.cell?_setCell_same _ _ _ h51, (f5.set _ _).set _ _, ((hg.alt k1 (fun g hg hc => g4 (hc ▸ hg))).alt k2 (fun g hg hc => g5 (hc ▸ hg))).now, ((hf.alt k1 (fun g hg hc => r4 (hc ▸ hg))).alt k2 (fun g hg hc => r5 (hc ▸ hg))).now, ap, g4, g5, r4, r5, ne, lo4, lo5, by simpa using lt4, by simpa using lt5⟩
/-- At the start: new boxes, no gates. -/
theorem MgI.init {fc : Nat} {v : Value} (hx : BxC w b4 0 0 none 0 0 none 0 0) (f4 : Fz w b4) (h5 : w.cell? ⟨b5, 0, none⟩ = some v) (f5 : Fz w b5) (hf : Own w lo w.heap.size (.slice F n fc) n fs) (r4 : (Value.slice F n fc).ownBlock ≠ some b4) (r5 : (Value.slice F n fc).ownBlock ≠ some b5) (ne : b4 ≠ b5) (lo4 : lo ≤ b4) (lo5 : lo ≤ b5) (lt4 : b4 < w.heap.size) (lt5 : b5 < w.heap.size) :
    MgI (((((w.setCell ⟨b4, 0, none⟩ (.int .i64 x)).setCell ⟨b4, 1, none⟩ (.int .i64 y)).setCell ⟨b4, 2, none⟩ (.slice none 0 0)).setCell ⟨b4, 3, none⟩ (.slice none 0 0)).setCell ⟨b5, 0, none⟩ (.slice F n fc)) lo b4 b5 x y none 0 0 [] F n fc fs := by
  have k1 : Alt (fun i => i = b4) w ((((w.setCell ⟨b4, 0, none⟩ (.int .i64 x)).setCell ⟨b4, 1, none⟩ (.int .i64 y)).setCell ⟨b4, 2, none⟩ (.slice none 0 0)).setCell ⟨b4, 3, none⟩ (.slice none 0 0)) := alt_set4 (Alt.refl_ (fun i => i = b4) w) (fun _ => rfl) x y none 0 0 none 0 0
  have k2 : Alt (fun i => i = b5) ((((w.setCell ⟨b4, 0, none⟩ (.int .i64 x)).setCell ⟨b4, 1, none⟩ (.int .i64 y)).setCell ⟨b4, 2, none⟩ (.slice none 0 0)).setCell ⟨b4, 3, none⟩ (.slice none 0 0)) _ := (Alt.refl_ _ _).set_ ⟨b5, 0, none⟩ (.slice F n fc) (fun _ => rfl)
  have h51 := k1.cell_ h5 (fun h => ne h.symm)
  exact ⟨(BxC.set4 hx x y none 0 0 none 0 0).alt k2 ne, ((((f4.set _ _).set _ _).set _ _).set _ _).set _ _, World.cell?_setCell_same _ _ _ h51, ((((f5.set _ _).set _ _).set _ _).set _ _).set _ _, OwnG.none_ _ _ _, ((hf.alt k1 (fun g hg hc => r4 (hc ▸ hg))).alt k2 (fun g hg hc => r5 (hc ▸ hg))).now, Apart.noneG _ _ _, by simp [Value.ownBlock], by simp [Value.ownBlock], r4, r5, ne, lo4, lo5, by simpa using lt4, by simpa using lt5⟩
end

end Go.Proofs.Ytapemogbphlnoaa
