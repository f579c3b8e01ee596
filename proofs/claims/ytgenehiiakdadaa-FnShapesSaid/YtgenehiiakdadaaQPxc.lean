/- A circuit in the making in a box of a call's own: what its stores and appends leave. No condition. -/
import Derived.Test.YtgenehiiakdadaaQSep
namespace Go.Proofs.Ytgenehiiakdadaa
open Go.RowKit
set_option linter.unusedVariables false
set_option linter.unusedSimpArgs false

/-- The box b holds the circuit c, whose rows are the call's own, from block lo on. -/
structure PX (w : World) (lo b : Nat) (c : Ci) (A : Option Addr) (ca : Nat) (O : Option Addr) (co : Nat) : Prop where
  bx : BxC w b c.i0 c.i1 A c.gs.length ca O c.os.length co
  fz : Fz w b
  ox : OwnX w lo b A c.gs.length ca O c.os.length co c.gs c.os
section
variable {w w' : World} {lo b : Nat} {c : Ci} {A : Option Addr} {ca : Nat} {O : Option Addr} {co : Nat}
theorem PX.lt (h : PX w lo b c A ca O co) : b < w.heap.size := h.bx.lt
theorem PX.below {B : Nat} (h : PX w lo b c A ca O co) (k : Below B w w') (hB : w.heap.size ≤ B) : PX w' lo b c A ca O co :=
  ⟨h.bx.below (k.mono hB), h.fz.below k (Nat.lt_of_lt_of_le h.lt hB), h.ox.below_ k hB⟩
theorem PX.new (w : World) (lo : Nat) (T : TypeId) : PX (w.alloc (.cells #[.int .i64 0, .int .i64 0, .slice none 0 0, .slice none 0 0] T)) lo w.heap.size ⟨0, 0, [], []⟩ none 0 none 0 :=
  ⟨BxC.new w T, Fz.new w _ _, OwnC.none_ _ _ _, by simp [Value.ownBlock], by simp [Value.ownBlock]⟩
theorem BxC.set0 {x y x' : Int} {Ag : Option Addr} {ng cg : Nat} {Ao : Option Addr} {no co : Nat} (h : BxC w b x y Ag ng cg Ao no co) : BxC (w.setCell ⟨b, 0, none⟩ (.int .i64 x')) b x' y Ag ng cg Ao no co :=
  ⟨World.cell?_setCell_same _ _ _ h.1, (World.cell?_setCell_other _ _ _ _ (by simp)).trans h.2.1, (World.cell?_setCell_other _ _ _ _ (by simp)).trans h.2.2.1, (World.cell?_setCell_other _ _ _ _ (by simp)).trans h.2.2.2⟩
theorem BxC.set1 {x y y' : Int} {Ag : Option Addr} {ng cg : Nat} {Ao : Option Addr} {no co : Nat} (h : BxC w b x y Ag ng cg Ao no co) : BxC (w.setCell ⟨b, 1, none⟩ (.int .i64 y')) b x y' Ag ng cg Ao no co :=
  ⟨(World.cell?_setCell_other _ _ _ _ (by simp)).trans h.1, World.cell?_setCell_same _ _ _ h.2.1, (World.cell?_setCell_other _ _ _ _ (by simp)).trans h.2.2.1, (World.cell?_setCell_other _ _ _ _ (by simp)).trans h.2.2.2⟩
theorem PX.set0 (h : PX w lo b c A ca O co) (x : Int) : PX (w.setCell ⟨b, 0, none⟩ (.int .i64 x)) lo b { c with i0 := x } A ca O co := ⟨h.bx.set0, h.fz.set _ _, h.ox.store 0 _⟩
theorem PX.set1 (h : PX w lo b c A ca O co) (x : Int) : PX (w.setCell ⟨b, 1, none⟩ (.int .i64 x)) lo b { c with i1 := x } A ca O co := ⟨h.bx.set1, h.fz.set _ _, h.ox.store 1 _⟩
/-- New outs: a row of its own. -/
theorem PX.outs (h : PX w lo b c A ca O co) {O' : Option Addr} {n d lo' : Nat} {os : List Int} (ho : Own w lo' w.heap.size (.slice O' n d) n os) (hlo : lo ≤ lo') (hA : ∀ g, (Value.slice A c.gs.length ca).ownBlock = some g → g < lo') (hb : b < lo') :
    PX (w.setCell ⟨b, 3, none⟩ (.slice O' n d)) lo b { c with os := os } A ca O' d := by
  obtain rfl : os.length = n := ho.len
  have hne : (Value.slice O' os.length d).ownBlock ≠ some b := fun hc => by have := ho.lt b hc; omega
  have hx : OwnX w lo b A c.gs.length ca O' os.length d c.gs os := ⟨⟨h.ox.1.1, (ho.lo_ hlo), fun g h1 h2 => by have := ho.lt g h2; have := hA g h1; omega⟩, h.ox.2.1, hne⟩
  exact ⟨h.bx.setO _ _ _, h.fz.set _ _, hx.store 3 _⟩
/-- A gate was appended in a drawn region. -/
theorem PX.gate {wy : World} {A' : Option Addr} {ca' : Nat} {M : G3} (h : PX w lo b c A ca O co) (k : Alt (okB w (fun i => (Value.slice A c.gs.length ca).ownBlock = some i)) w wy)
    (hG : OwnG wy lo wy.heap.size (.slice A' (c.gs.length + 1) ca') (c.gs.length + 1) (c.gs ++ [M])) (hok : ∀ i, (Value.slice A' (c.gs.length + 1) ca').ownBlock = some i → okB w (fun i => (Value.slice A c.gs.length ca).ownBlock = some i) i) :
    PX (wy.setCell ⟨b, 2, none⟩ (.slice A' (c.gs.length + 1) ca')) lo b { c with gs := c.gs ++ [M] } A' ca' O co := by
  have hbS : ¬ okB w (fun i => (Value.slice A c.gs.length ca).ownBlock = some i) b := fun hc => hc.elim (fun h1 => by have := h.lt; omega) (fun h1 => h.ox.2.1 h1)
  have hOS : ∀ g, (Value.slice O c.os.length co).ownBlock = some g → ¬ okB w (fun i => (Value.slice A c.gs.length ca).ownBlock = some i) g := fun g hg hc => hc.elim (fun h1 => by have := h.ox.1.2.1.lt g hg; omega) (fun h1 => h.ox.1.2.2 g h1 hg)
  have hx : OwnX wy lo b A' (c.gs.length + 1) ca' O c.os.length co (c.gs ++ [M]) c.os := by
    refine ⟨⟨hG, (h.ox.1.2.1.alt k hOS).now, fun g h1 h2 => hOS g h2 (hok g h1)⟩, fun hc => hbS (hok b hc), h.ox.2.2⟩
  have hl : (c.gs ++ [M]).length = c.gs.length + 1 := by simp
  refine ⟨?_, (h.fz.alt k h.lt hbS).set _ _, ?_⟩
  · have := (h.bx.alt k hbS).setG A' (c.gs.length + 1) ca'
    show BxC _ b c.i0 c.i1 A' (c.gs ++ [M]).length ca' O c.os.length co
    rw [hl]; exact this
  · show OwnX _ lo b A' (c.gs ++ [M]).length ca' O c.os.length co (c.gs ++ [M]) c.os
    rw [hl]; exact hx.store 2 _
/-- An out was appended in a drawn region. -/
theorem PX.out {wy : World} {O' : Option Addr} {co' : Nat} {z : Int} (h : PX w lo b c A ca O co) (k : Alt (okB w (fun i => (Value.slice O c.os.length co).ownBlock = some i)) w wy)
    (hG : Own wy lo wy.heap.size (.slice O' (c.os.length + 1) co') (c.os.length + 1) (c.os ++ [z])) (hok : ∀ i, (Value.slice O' (c.os.length + 1) co').ownBlock = some i → okB w (fun i => (Value.slice O c.os.length co).ownBlock = some i) i) :
    PX (wy.setCell ⟨b, 3, none⟩ (.slice O' (c.os.length + 1) co')) lo b { c with os := c.os ++ [z] } A ca O' co' := by
  have hbS : ¬ okB w (fun i => (Value.slice O c.os.length co).ownBlock = some i) b := fun hc => hc.elim (fun h1 => by have := h.lt; omega) (fun h1 => h.ox.2.2 h1)
  have hOS : ∀ g, (Value.slice A c.gs.length ca).ownBlock = some g → ¬ okB w (fun i => (Value.slice O c.os.length co).ownBlock = some i) g := fun g hg hc => hc.elim (fun h1 => by have := h.ox.1.1.lt g hg; omega) (fun h1 => h.ox.1.2.2 g hg h1)
  have hx : OwnX wy lo b A c.gs.length ca O' (c.os.length + 1) co' c.gs (c.os ++ [z]) := by
    refine ⟨⟨(h.ox.1.1.alt k hOS).now, hG, fun g h1 h2 => hOS g h1 (hok g h2)⟩, h.ox.2.1, fun hc => hbS (hok b hc)⟩
  have hl : (c.os ++ [z]).length = c.os.length + 1 := by simp
  refine ⟨?_, (h.fz.alt k h.lt hbS).set _ _, ?_⟩
  · have := (h.bx.alt k hbS).setO O' (c.os.length + 1) co'
    show BxC _ b c.i0 c.i1 A c.gs.length ca O' (c.os ++ [z]).length co'
    rw [hl]; exact this
  · show OwnX _ lo b A c.gs.length ca O' (c.os ++ [z]).length co' c.gs (c.os ++ [z])
    rw [hl]; exact hx.store 3 _
end
section
variable {W : World} {own : Nat → Prop} {cs : List (Addr × Value)} {sk : List (Nat × List Nat × List Nat)} {fi : List Nat} {rs : List (Nat × Res)} {ρ : Nat → Value}
theorem only_apart {j : Nat} : (mkSep W own cs sk [j] fi rs).apart ρ [j] := by
  intro d hd d' hd' hn b hb hb'
  simp only [List.mem_cons, List.not_mem_nil, or_false] at hd hd'
  exact hn (hd.trans hd'.symm)
end
/-- What a region that appends to an own row leaves, seen from an earlier world. -/
theorem Alt.via {S : Nat → Prop} {a w wy : World} {v : Value} (h : Alt S a w) (k : Alt (okB w (fun i => v.ownBlock = some i)) w wy) (hlo : ∀ g, v.ownBlock = some g → a.heap.size ≤ g) : Alt S a wy :=
  h.trans_ k fun i hi hT => hT.elim (fun h1 => by have := h.size; omega) (fun h1 => by have := hlo i h1; omega)

theorem OwnG_one (w : World) (g : G3) (lo : Nat) (hl : lo ≤ w.heap.size) : OwnG (w.alloc (.cells #[.int .i64 g.k, .int .i64 g.a, .int .i64 g.b] 58)) lo (w.heap.size + 1) (.slice (some ⟨w.heap.size, 0, none⟩) 1 1) 1 [g] := by
  refine ⟨?_, fun q hq => by simp [Value.ownBlock] at hq; omega⟩
  have h := World.ownsRow_lit (base := lo) (e := 58) (size := 3) w #[.int .i64 g.k, .int .i64 g.a, .int .i64 g.b] 1 hl (by unfold maxLen; omega) (by simp)
  simpa [gcells] using h
theorem postRowG_one (w : World) (g : G3) : postRowG w 1 [g] (.slice (some ⟨w.heap.size, 0, none⟩) 1 1) (w.alloc (.cells #[.int .i64 g.k, .int .i64 g.a, .int .i64 g.b] 58)) :=
  ⟨_, _, rfl, (OwnG_one w g w.heap.size (Nat.le_refl _)).hi_ (by simp), (Below.refl _ _).alloc (Nat.le_refl _) _⟩

end Go.Proofs.Ytgenehiiakdadaa
