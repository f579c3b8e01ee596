/- An arithmetic circuit in the making in a box of a call's own: what its stores and appends leave. No condition. An arithmetic circuit's text is read back by both readers. Plain Lean: no program. ParseArith of the program: it answers what the plain reader answers. Texts below 2^21 bytes. -/
import Derived.Test.YtgpfiefhhlejfaaDoorQPx
import Derived.Test.YtgpfiefhhlejfaaDoorQPrs
import Derived.Test.YtgpfiefhhlejfaaDoorQAtx
import Derived.Test.YtgpfiefhhlejfaaDoorQPci
import Derived.Test.YtgpfiefhhlejfaaDoorQCts
namespace Go.Proofs.YtgpfiefhhlejfaaDoor
open Go.RowKit
set_option linter.unusedVariables false
set_option linter.unusedSimpArgs false

/-- The box b holds the circuit c, whose rows are the call's own, from block lo on. -/
structure PA (w : World) (lo b : Nat) (c : Ai) (A : Option Addr) (ca : Nat) (O : Option Addr) (co : Nat) : Prop where
  bx : BxA w b c.p c.i0 c.i1 A c.gs.length ca O c.os.length co
  fz : Fz w b
  ox : OwnX w lo b A c.gs.length ca O c.os.length co c.gs c.os
section
variable {w w' : World} {lo b : Nat} {c : Ai} {A : Option Addr} {ca : Nat} {O : Option Addr} {co : Nat}
theorem PA.lt (h : PA w lo b c A ca O co) : b < w.heap.size := h.bx.lt
theorem PA.below {B : Nat} (h : PA w lo b c A ca O co) (k : Below B w w') (hB : w.heap.size ≤ B) : PA w' lo b c A ca O co :=
  ⟨h.bx.below (k.mono hB), h.fz.below k (Nat.lt_of_lt_of_le h.lt hB), h.ox.below_ k hB⟩
theorem PA.new (w : World) (lo : Nat) (T : TypeId) : PA (w.alloc (.cells #[.int .i64 0, .int .i64 0, .int .i64 0, .slice none 0 0, .slice none 0 0] T)) lo w.heap.size ⟨0, 0, 0, [], []⟩ none 0 none 0 :=
  ⟨BxA.new w T, Fz.new w _ _, OwnC.none_ _ _ _, by simp [Value.ownBlock], by simp [Value.ownBlock]⟩
theorem BxA.setP {p x y p' : Int} {Ag : Option Addr} {ng cg : Nat} {Ao : Option Addr} {no co : Nat} (h : BxA w b p x y Ag ng cg Ao no co) : BxA (w.setCell ⟨b, 0, none⟩ (.int .i64 p')) b p' x y Ag ng cg Ao no co :=
  ⟨World.cell?_setCell_same _ _ _ h.1, (World.cell?_setCell_other _ _ _ _ (by simp)).trans h.2.1, (World.cell?_setCell_other _ _ _ _ (by simp)).trans h.2.2.1, (World.cell?_setCell_other _ _ _ _ (by simp)).trans h.2.2.2.1, (World.cell?_setCell_other _ _ _ _ (by simp)).trans h.2.2.2.2⟩
theorem BxA.setX {p x y x' : Int} {Ag : Option Addr} {ng cg : Nat} {Ao : Option Addr} {no co : Nat} (h : BxA w b p x y Ag ng cg Ao no co) : BxA (w.setCell ⟨b, 1, none⟩ (.int .i64 x')) b p x' y Ag ng cg Ao no co :=
  ⟨(World.cell?_setCell_other _ _ _ _ (by simp)).trans h.1, World.cell?_setCell_same _ _ _ h.2.1, (World.cell?_setCell_other _ _ _ _ (by simp)).trans h.2.2.1, (World.cell?_setCell_other _ _ _ _ (by simp)).trans h.2.2.2.1, (World.cell?_setCell_other _ _ _ _ (by simp)).trans h.2.2.2.2⟩
theorem BxA.setY {p x y y' : Int} {Ag : Option Addr} {ng cg : Nat} {Ao : Option Addr} {no co : Nat} (h : BxA w b p x y Ag ng cg Ao no co) : BxA (w.setCell ⟨b, 2, none⟩ (.int .i64 y')) b p x y' Ag ng cg Ao no co :=
  ⟨(World.cell?_setCell_other _ _ _ _ (by simp)).trans h.1, (World.cell?_setCell_other _ _ _ _ (by simp)).trans h.2.1, World.cell?_setCell_same _ _ _ h.2.2.1, (World.cell?_setCell_other _ _ _ _ (by simp)).trans h.2.2.2.1, (World.cell?_setCell_other _ _ _ _ (by simp)).trans h.2.2.2.2⟩
theorem PA.setP (h : PA w lo b c A ca O co) (x : Int) : PA (w.setCell ⟨b, 0, none⟩ (.int .i64 x)) lo b { c with p := x } A ca O co := ⟨h.bx.setP, h.fz.set _ _, h.ox.store 0 _⟩
theorem PA.setX (h : PA w lo b c A ca O co) (x : Int) : PA (w.setCell ⟨b, 1, none⟩ (.int .i64 x)) lo b { c with i0 := x } A ca O co := ⟨h.bx.setX, h.fz.set _ _, h.ox.store 1 _⟩
theorem PA.setY (h : PA w lo b c A ca O co) (x : Int) : PA (w.setCell ⟨b, 2, none⟩ (.int .i64 x)) lo b { c with i1 := x } A ca O co := ⟨h.bx.setY, h.fz.set _ _, h.ox.store 2 _⟩
/-- New outs: a row of its own. -/
theorem PA.outs (h : PA w lo b c A ca O co) {O' : Option Addr} {n d lo' : Nat} {os : List Int} (ho : Own w lo' w.heap.size (.slice O' n d) n os) (hlo : lo ≤ lo') (hA : ∀ g, (Value.slice A c.gs.length ca).ownBlock = some g → g < lo') (hb : b < lo') :
    PA (w.setCell ⟨b, 4, none⟩ (.slice O' n d)) lo b { c with os := os } A ca O' d := by
  obtain rfl : os.length = n := ho.len
  have hne : (Value.slice O' os.length d).ownBlock ≠ some b := fun hc => by have := ho.lt b hc; omega
  have hx : OwnX w lo b A c.gs.length ca O' os.length d c.gs os := ⟨⟨h.ox.1.1, (ho.lo_ hlo), fun g h1 h2 => by have := ho.lt g h2; have := hA g h1; omega⟩, h.ox.2.1, hne⟩
  exact ⟨h.bx.setO _ _ _, h.fz.set _ _, hx.store 4 _⟩
/-- A gate was appended in a drawn region. -/
theorem PA.gate {wy : World} {A' : Option Addr} {ca' : Nat} {M : G3} (h : PA w lo b c A ca O co) (k : Alt (okB w (fun i => (Value.slice A c.gs.length ca).ownBlock = some i)) w wy)
    (hG : OwnG wy lo wy.heap.size (.slice A' (c.gs.length + 1) ca') (c.gs.length + 1) (c.gs ++ [M])) (hok : ∀ i, (Value.slice A' (c.gs.length + 1) ca').ownBlock = some i → okB w (fun i => (Value.slice A c.gs.length ca).ownBlock = some i) i) :
    PA (wy.setCell ⟨b, 3, none⟩ (.slice A' (c.gs.length + 1) ca')) lo b { c with gs := c.gs ++ [M] } A' ca' O co := by
  have hbS : ¬ okB w (fun i => (Value.slice A c.gs.length ca).ownBlock = some i) b := fun hc => hc.elim (fun h1 => by have := h.lt; omega) (fun h1 => h.ox.2.1 h1)
  have hOS : ∀ g, (Value.slice O c.os.length co).ownBlock = some g → ¬ okB w (fun i => (Value.slice A c.gs.length ca).ownBlock = some i) g := fun g hg hc => hc.elim (fun h1 => by have := h.ox.1.2.1.lt g hg; omega) (fun h1 => h.ox.1.2.2 g h1 hg)
  have hx : OwnX wy lo b A' (c.gs.length + 1) ca' O c.os.length co (c.gs ++ [M]) c.os := by
    refine ⟨⟨hG, (h.ox.1.2.1.alt k hOS).now, fun g h1 h2 => hOS g h2 (hok g h1)⟩, fun hc => hbS (hok b hc), h.ox.2.2⟩
  have hl : (c.gs ++ [M]).length = c.gs.length + 1 := by simp
  refine ⟨?_, (h.fz.alt k h.lt hbS).set _ _, ?_⟩
  · have := (h.bx.alt k hbS).setG A' (c.gs.length + 1) ca'
    show BxA _ b c.p c.i0 c.i1 A' (c.gs ++ [M]).length ca' O c.os.length co
    rw [hl]; exact this
  · show OwnX _ lo b A' (c.gs ++ [M]).length ca' O c.os.length co (c.gs ++ [M]) c.os
    rw [hl]; exact hx.store 3 _
/-- An out was appended in a drawn region. -/
theorem PA.out {wy : World} {O' : Option Addr} {co' : Nat} {z : Int} (h : PA w lo b c A ca O co) (k : Alt (okB w (fun i => (Value.slice O c.os.length co).ownBlock = some i)) w wy)
    (hG : Own wy lo wy.heap.size (.slice O' (c.os.length + 1) co') (c.os.length + 1) (c.os ++ [z])) (hok : ∀ i, (Value.slice O' (c.os.length + 1) co').ownBlock = some i → okB w (fun i => (Value.slice O c.os.length co).ownBlock = some i) i) :
    PA (wy.setCell ⟨b, 4, none⟩ (.slice O' (c.os.length + 1) co')) lo b { c with os := c.os ++ [z] } A ca O' co' := by
  have hbS : ¬ okB w (fun i => (Value.slice O c.os.length co).ownBlock = some i) b := fun hc => hc.elim (fun h1 => by have := h.lt; omega) (fun h1 => h.ox.2.2 h1)
  have hOS : ∀ g, (Value.slice A c.gs.length ca).ownBlock = some g → ¬ okB w (fun i => (Value.slice O c.os.length co).ownBlock = some i) g := fun g hg hc => hc.elim (fun h1 => by have := h.ox.1.1.lt g hg; omega) (fun h1 => h.ox.1.2.2 g hg h1)
  have hx : OwnX wy lo b A c.gs.length ca O' (c.os.length + 1) co' c.gs (c.os ++ [z]) := by
    refine ⟨⟨(h.ox.1.1.alt k hOS).now, hG, fun g h1 h2 => hOS g h1 (hok g h2)⟩, h.ox.2.1, fun hc => hbS (hok b hc)⟩
  have hl : (c.os ++ [z]).length = c.os.length + 1 := by simp
  refine ⟨?_, (h.fz.alt k h.lt hbS).set _ _, ?_⟩
  · have := (h.bx.alt k hbS).setO O' (c.os.length + 1) co'
    show BxA _ b c.p c.i0 c.i1 A c.gs.length ca O' (c.os ++ [z]).length co'
    rw [hl]; exact this
  · show OwnX _ lo b A c.gs.length ca O' (c.os ++ [z]).length co' c.gs (c.os ++ [z])
    rw [hl]; exact hx.store 4 _
end

end Go.Proofs.YtgpfiefhhlejfaaDoor

namespace Go.Proofs.YtgpfiefhhlejfaaDoor
open Go.RowKit
set_option linter.unusedVariables false
set_option linter.unusedSimpArgs false

/-- A gate's kind by its word; -1 for other words. -/
def kindA (wd : List UInt8) : Int := if wd = awL 0 then 0 else if wd = awL 1 then 1 else if wd = awL 2 then 2 else if wd = awL 3 then 3 else -1
def ariW : List UInt8 := [97, 114, 105, 116, 104]
/-- What the program makes of a line's words. -/
def stepAI (c : Ai) (ws : List (List UInt8)) : Ai :=
  if ws.headD [] = ariW then { c with p := gi (ws.tail.map atoiV ++ [0, 0, 0]) 0, i0 := gi (ws.tail.map atoiV ++ [0, 0, 0]) 1, i1 := gi (ws.tail.map atoiV ++ [0, 0, 0]) 2 }
  else if ws.headD [] = outW then { c with os := ws.tail.map atoiV }
  else if 0 ≤ kindA (ws.headD []) then { c with gs := c.gs ++ [⟨kindA (ws.headD []), gi (ws.tail.map atoiV ++ [0, 0, 0]) 0, gi (ws.tail.map atoiV ++ [0, 0, 0]) 1⟩] }
  else c
/-- What the reference makes of a line's words. -/
def stepAS (c : Ai) (ws : List (List UInt8)) : Ai :=
  if ws.headD [] = ariW ∧ ws.length = 4 then { c with p := gi (ws.tail.map readS) 0, i0 := gi (ws.tail.map readS) 1, i1 := gi (ws.tail.map readS) 2 }
  else if ws.headD [] = outW then { c with os := ws.tail.map readS }
  else if ws.headD [] = awL 3 ∧ ws.length = 2 then { c with gs := c.gs ++ [⟨3, gi (ws.tail.map readS) 0, 0⟩] }
  else if ws.length = 3 ∧ (0 ≤ kindA (ws.headD []) ∧ kindA (ws.headD []) ≤ 2) then { c with gs := c.gs ++ [⟨kindA (ws.headD []), gi (ws.tail.map readS) 0, gi (ws.tail.map readS) 1⟩] }
  else c
def parseAI (s : List UInt8) : Ai := (pcs 104 10 s).foldl (fun c l => stepAI c (pcs 23 32 l)) ⟨0, 0, 0, [], []⟩
def parseAS (s : List UInt8) : Ai := (splitS 10 s).foldl (fun c l => stepAS c (splitS 32 l)) ⟨0, 0, 0, [], []⟩
/-- A reader's answer: what it has made, if that is valid and its text is the one that was read. -/
def ansA (c : Ai) (s : List UInt8) : Option Ai := if arB c.p c.i0 c.i1 c.gs c.os = true ∧ arithT c.p c.i0 c.i1 c.gs c.os = s then some c else none
theorem words_back23 {wd : List UInt8} {ns : List Int} (h32 : (32 : UInt8) ∉ wd) (hs : smallK ns) (hl : ns.length ≤ 22) : pcs 23 32 (wd ++ numsL ns) = wd :: ns.map Lib.itoa := by
  have h : ∀ l ∈ ns.map Lib.itoa, (32 : UInt8) ∉ l := fun l hl => by
    obtain ⟨n, hn, rfl⟩ := List.mem_map.1 hl
    exact (num_back (hs n hn).1 (hs n hn).2).2.2.2
  rw [numsL_words]
  refine splitK_words _ ?_ h32 h
  have := wordsL_len 32 wd (ns.map Lib.itoa)
  rw [List.length_map] at this ⊢
  omega
/-- The lines of an arithmetic circuit's text, without their ends. -/
def arithL (c : Ai) : List (List UInt8) := (ariW ++ numsL [c.p, c.i0, c.i1]) :: (c.gs.map fun g => awL g.k.toNat ++ numsL (prtA g)) ++ [outW ++ numsL c.os]
theorem arithT_lines (c : Ai) : arithT c.p c.i0 c.i1 c.gs c.os = joinL 10 (arithL c) := by
  have h : ∀ gs : List G3, agatesT gs = joinL 10 (gs.map fun g => awL g.k.toNat ++ numsL (prtA g)) := fun gs => by
    induction gs with
    | nil => rfl
    | cons g gs ih =>
      have e : agatesT (g :: gs) = agateT g ++ agatesT gs := by simp [agatesT]
      rw [e, ih]; simp [joinL, agateT, lineL]
  simp only [arithT, h, arithL, ariW, outW]
  simp [joinL, lineL]
theorem aw_no (k : Nat) : (10 : UInt8) ∉ awL k ∧ (32 : UInt8) ∉ awL k := by unfold awL; split <;> decide
/-- A gate as a valid arithmetic circuit has it. -/
structure AK (g : G3) : Prop where
  k : 0 ≤ g.k ∧ g.k ≤ 3
  a : 0 ≤ g.a ∧ g.a < 1000
  b : 0 ≤ g.b ∧ g.b < 1000
  o : g.k = 3 → g.b = 0
theorem AK.of_is {p : Int} {g : G3} {n : Int} (h : AGateIs p g n) (hn : n ≤ 1000) (hp : p ≤ 1000) : AK g := by
  cases h with
  | add_ hk a0 a1 b0 b1 => exact ⟨by omega, by omega, by omega, fun h => by omega⟩
  | mul_ hk a0 a1 b0 b1 => exact ⟨by omega, by omega, by omega, fun h => by omega⟩
  | scale_ hk a0 a1 b0 b1 => exact ⟨by omega, by omega, by omega, fun h => by omega⟩
  | const_ hk a0 a1 b0 => exact ⟨by omega, by omega, by omega, fun h => b0⟩
theorem AK.prt {g : G3} (h : AK g) : smallK (prtA g) := by
  intro n hn
  have := h.a; have := h.b
  unfold prtA at hn
  split at hn
  · simp only [List.mem_cons, List.not_mem_nil, or_false] at hn; subst hn; omega
  · simp only [List.mem_cons, List.not_mem_nil, or_false] at hn; rcases hn with rfl | rfl <;> omega
/-- What both readers make of a gate's line. -/
theorem agate_back {g : G3} (h : AK g) (c : Ai) : stepAI c (pcs 23 32 (awL g.k.toNat ++ numsL (prtA g))) = { c with gs := c.gs ++ [g] } ∧ stepAS c (splitS 32 (awL g.k.toNat ++ numsL (prtA g))) = { c with gs := c.gs ++ [g] } := by
  have hb := words_back (aw_no g.k.toNat).2 h.prt
  have hl : (prtA g).length ≤ 22 := by have := prtA_len g; omega
  rw [hb.1, words_back23 (aw_no g.k.toNat).2 h.prt hl]
  have ra := num_back h.a.1 h.a.2
  have rb := num_back h.b.1 h.b.2
  obtain ⟨gk, ga, gb⟩ := g
  have hk := h.k
  have ho := h.o
  dsimp only at hk ho ra rb
  have hk4 : gk = 0 ∨ gk = 1 ∨ gk = 2 ∨ gk = 3 := by omega
  have e0 : kindA (awL 0) = 0 := by decide
  have e1 : kindA (awL 1) = 1 := by decide
  have e2 : kindA (awL 2) = 2 := by decide
  have e3 : kindA (awL 3) = 3 := by decide
  have f0 : ¬ awL 0 = ariW := by decide
  have f1 : ¬ awL 1 = ariW := by decide
  have f2 : ¬ awL 2 = ariW := by decide
  have f3 : ¬ awL 3 = ariW := by decide
  have k0 : ¬ awL 0 = outW := by decide
  have k1 : ¬ awL 1 = outW := by decide
  have k2 : ¬ awL 2 = outW := by decide
  have k3 : ¬ awL 3 = outW := by decide
  have c0 : ¬ awL 0 = awL 3 := by decide
  have c1 : ¬ awL 1 = awL 3 := by decide
  have c2 : ¬ awL 2 = awL 3 := by decide
  rcases hk4 with rfl | rfl | rfl | rfl
  · simp [stepAI, stepAS, prtA, e0, f0, k0, c0, ra.1, rb.1, ra.2.1, rb.2.1, gi]
  · simp [stepAI, stepAS, prtA, e1, f1, k1, c1, ra.1, rb.1, ra.2.1, rb.2.1, gi]
  · simp [stepAI, stepAS, prtA, e2, f2, k2, c2, ra.1, rb.1, ra.2.1, rb.2.1, gi]
  · have := ho rfl; subst this
    simp [stepAI, stepAS, prtA, e3, f3, k3, ra.1, ra.2.1, gi]
theorem agates_back {gs : List G3} (h : ∀ g ∈ gs, AK g) : ∀ c : Ai, (gs.map fun g => awL g.k.toNat ++ numsL (prtA g)).foldl (fun c l => stepAI c (pcs 23 32 l)) c = { c with gs := c.gs ++ gs } ∧ (gs.map fun g => awL g.k.toNat ++ numsL (prtA g)).foldl (fun c l => stepAS c (splitS 32 l)) c = { c with gs := c.gs ++ gs } := by
  induction gs with
  | nil => intro c; simp
  | cons g gs ih =>
    intro c
    have h1 := agate_back (h g (List.mem_cons_self ..)) c
    have h2 := ih (fun x hx => h x (List.mem_cons_of_mem _ hx)) { c with gs := c.gs ++ [g] }
    simp only [List.map_cons, List.foldl_cons]
    rw [h1.1, h1.2, h2.1, h2.2]
    simp
theorem arB_ak {c : Ai} (h : arB c.p c.i0 c.i1 c.gs c.os = true) : ∀ g ∈ c.gs, AK g := fun g hg => by
  have hb := arB_bd h
  have hp := arB_p h
  obtain ⟨k, hk, rfl⟩ := List.mem_iff_getElem.1 hg
  have := agatesB_at hb.2.2.2.2.2.1 hk
  have e : gg c.gs k = c.gs[k] := by simp [gg, List.getElem?_eq_getElem hk]
  rw [e] at this
  exact .of_is this (by omega) (by omega)
theorem aread_back {c : Ai} (h : arB c.p c.i0 c.i1 c.gs c.os = true) : parseAI (arithT c.p c.i0 c.i1 c.gs c.os) = c ∧ parseAS (arithT c.p c.i0 c.i1 c.gs c.os) = c := by
  have hb := arB_bd h
  have hp := arB_p h
  have hgk := arB_ak h
  have hos : smallK c.os := fun n hn => by
    have := allB_iff.1 hb.2.2.2.2.2.2 n hn
    omega
  have hxy : smallK [c.p, c.i0, c.i1] := fun n hn => by
    simp only [List.mem_cons, List.not_mem_nil, or_false] at hn
    rcases hn with rfl | rfl | rfl <;> omega
  have hno : ∀ l ∈ arithL c, (10 : UInt8) ∉ l := fun l hl => by
    simp only [arithL, List.mem_append, List.mem_cons, List.mem_map, List.not_mem_nil, or_false] at hl
    rcases hl with (rfl | ⟨g, hg, rfl⟩) | rfl
    · exact no10 (by decide) hxy
    · exact no10 (aw_no _).1 (hgk g hg).prt
    · exact no10 (by decide) hos
  have hlen : (arithL c).length ≤ 103 := by simp [arithL]; omega
  have w1 := words_back (wd := ariW) (by decide) hxy
  have w2 := words_back (wd := outW) (by decide) hos
  have e1 : pcs 104 10 (arithT c.p c.i0 c.i1 c.gs c.os) = arithL c ++ [[]] := by
    rw [arithT_lines]
    have := joinL_len 10 (arithL c)
    exact splitK_join hno _ (by omega)
  have e2 : splitS 10 (arithT c.p c.i0 c.i1 c.gs c.os) = arithL c ++ [[]] := by
    rw [arithT_lines]; exact splitS_join hno
  have rp := num_back (n := c.p) (by omega) (by omega)
  have ra := num_back (n := c.i0) (by omega) (by omega)
  have rb := num_back (n := c.i1) (by omega) (by omega)
  have fo : ¬ outW = ariW := by decide
  have n0 : ¬ ([] : List UInt8) = ariW := by decide
  have n1 : ¬ ([] : List UInt8) = outW := by decide
  have n2 : kindA [] = -1 := by decide
  have n3 : ¬ ([] : List UInt8) = awL 3 := by decide
  have s1 : ∀ c : Ai, stepAI c (pcs 23 32 []) = c := fun c => by
    have : pcs 23 32 [] = [[]] := by decide
    rw [this]; simp [stepAI, n0, n1, n2]
  have s2 : ∀ c : Ai, stepAS c (splitS 32 []) = c := fun c => by
    have : splitS 32 [] = [[]] := rfl
    rw [this]; simp [stepAS, n0, n1]
  have a1 : ∀ c0 : Ai, stepAI c0 (pcs 23 32 (ariW ++ numsL [c.p, c.i0, c.i1])) = { c0 with p := c.p, i0 := c.i0, i1 := c.i1 } := fun c0 => by
    rw [words_back23 (by decide) hxy (by simp)]; simp [stepAI, rp.1, ra.1, rb.1, gi]
  have a2 : ∀ c0 : Ai, stepAS c0 (splitS 32 (ariW ++ numsL [c.p, c.i0, c.i1])) = { c0 with p := c.p, i0 := c.i0, i1 := c.i1 } := fun c0 => by
    rw [w1.1]; simp [stepAS, rp.2.1, ra.2.1, rb.2.1, gi]
  have b1 : ∀ c0 : Ai, stepAI c0 (pcs 23 32 (outW ++ numsL c.os)) = { c0 with os := c.os } := fun c0 => by
    rw [words_back23 (by decide) hos (by omega)]; simp only [stepAI, List.headD_cons, List.tail_cons, fo, if_false, if_true, map_atoi hos]
  have b2 : ∀ c0 : Ai, stepAS c0 (splitS 32 (outW ++ numsL c.os)) = { c0 with os := c.os } := fun c0 => by
    rw [w2.1]; simp only [stepAS, List.headD_cons, List.tail_cons, fo, false_and, if_false, if_true, map_read hos]
  unfold parseAI parseAS
  rw [e1, e2]
  simp only [arithL, List.cons_append, List.append_assoc, List.foldl_cons, List.foldl_append, List.foldl_nil, List.nil_append]
  rw [a1, a2, (agates_back hgk _).1, (agates_back hgk _).2, b1, b2, s1, s2]
  simp
/-- Both readers answer alike. -/
theorem aans_same (s : List UInt8) : ansA (parseAI s) s = ansA (parseAS s) s := by
  by_cases h : arB (parseAI s).p (parseAI s).i0 (parseAI s).i1 (parseAI s).gs (parseAI s).os = true ∧ arithT (parseAI s).p (parseAI s).i0 (parseAI s).i1 (parseAI s).gs (parseAI s).os = s
  · have hr := aread_back h.1
    rw [h.2] at hr
    rw [hr.2]
  · by_cases k : arB (parseAS s).p (parseAS s).i0 (parseAS s).i1 (parseAS s).gs (parseAS s).os = true ∧ arithT (parseAS s).p (parseAS s).i0 (parseAS s).i1 (parseAS s).gs (parseAS s).os = s
    · have hr := aread_back k.1
      rw [k.2] at hr
      rw [hr.1]
    · simp only [ansA, if_neg h, if_neg k]
theorem ansA_some {c : Ai} {s : List UInt8} {d : Ai} (h : ansA c s = some d) : arB d.p d.i0 d.i1 d.gs d.os = true := by
  unfold ansA at h
  split at h
  · rename_i h1; cases h; exact h1.1
  · cases h
theorem ansA_len (c : Ai) (s : List UInt8) : ((ansA c s).getD ⟨0, 0, 0, [], []⟩).gs.length ≤ 300 ∧ ((ansA c s).getD ⟨0, 0, 0, [], []⟩).os.length ≤ 40 := by
  cases h : ansA c s with
  | none => simp
  | some d =>
    have := arB_bd (ansA_some h)
    simp only [Option.getD_some]; omega

end Go.Proofs.YtgpfiefhhlejfaaDoor

namespace Go.Proofs.YtgpfiefhhlejfaaDoor
open Go.RowKit
set_option linter.unusedVariables false
set_option linter.unusedSimpArgs false
attribute [local go_sem] sepAt sepUpon pureAt pureUpon

theorem idx_kindA (x : List UInt8) : Lib.idxOfS [bs (awL 0), bs (awL 1), bs (awL 2), bs (awL 3)] (bs x) = kindA x := by
  have h : ∀ y : List UInt8, (bs y = bs x) ↔ (x = y) := fun y => by
    constructor
    · intro h
      have := congrArg (fun z : ByteArray => z.data.toList) h
      simpa [bs] using this.symm
    · intro h; rw [h]
  simp only [Lib.idxOfS, Lib.idxFromS, kindA, h]
  by_cases h0 : x = awL 0
  · simp [h0]
  · by_cases h1 : x = awL 1
    · simp [h1, show ¬ awL 1 = awL 0 by decide]
    · by_cases h2 : x = awL 2
      · simp [h2, show ¬ awL 2 = awL 0 by decide, show ¬ awL 2 = awL 1 by decide]
      · by_cases h3 : x = awL 3
        · simp [h3, show ¬ awL 3 = awL 0 by decide, show ¬ awL 3 = awL 1 by decide, show ¬ awL 3 = awL 2 by decide]
        · simp [h0, h1, h2, h3]
theorem IndexA_any (x : List UInt8) (w : World) (hg : AWs w) :
    Calls Tryd.prog 42 #[.slice (some ⟨0, 0, none⟩) 4 4, .string (bs x)] w fun e w' => e = .returned (.int .i64 (kindA x)) ∧ w' = w := by
  have h := Any.slices_Index_string Tryd.lays109 0 0 4 4 [bs (awL 0), bs (awL 1), bs (awL 2), bs (awL 3)] (bs x) w (by simp) (by omega) (fun j hj => by
    have h : j = 0 ∨ j = 1 ∨ j = 2 ∨ j = 3 := by simp at hj; omega
    rcases h with rfl | rfl | rfl | rfl
    · exact hg.at_ 0 (by omega)
    · exact hg.at_ 1 (by omega)
    · exact hg.at_ 2 (by omega)
    · exact hg.at_ 3 (by omega))
  rw [List.take_of_length_le (by simp), idx_kindA] at h
  exact h

/-- The circuit after so many lines. -/
def partAI (L : List (List UInt8)) (j : Nat) : Ai := (L.take j).foldl (fun c l => stepAI c (pcs 23 32 l)) ⟨0, 0, 0, [], []⟩
theorem partAI_succ {L : List (List UInt8)} {j : Nat} (h : j < L.length) : partAI L (j + 1) = stepAI (partAI L j) (pcs 23 32 (sx L j)) := by
  have e : sx L j = L[j] := by simp [sx, List.getD, List.getElem?_eq_getElem h]
  rw [partAI, partAI, List.take_succ_eq_append_getElem h, List.foldl_append, e]; rfl
theorem stepAI_len (c : Ai) (ws : List (List UInt8)) : (stepAI c ws).gs.length ≤ c.gs.length + 1 ∧ ((stepAI c ws).os.length ≤ c.os.length ∨ (stepAI c ws).os.length ≤ ws.length) := by
  unfold stepAI
  split
  · exact ⟨Nat.le_succ _, .inl (Nat.le_refl _)⟩
  · split
    · exact ⟨Nat.le_succ _, .inr (by simp)⟩
    · split
      · exact ⟨by simp, .inl (Nat.le_refl _)⟩
      · exact ⟨Nat.le_succ _, .inl (Nat.le_refl _)⟩
theorem partAI_len (L : List (List UInt8)) : ∀ j, j ≤ L.length → (partAI L j).gs.length ≤ j ∧ (partAI L j).os.length ≤ 23 := by
  intro j
  induction j with
  | zero => intro _; simp [partAI]
  | succ j ih =>
    intro hj
    have h1 := ih (by omega)
    have h2 := stepAI_len (partAI L j) (pcs 23 32 (sx L j))
    have h3 := pcs_len 23 32 (sx L j) (by omega)
    rw [partAI_succ (by omega)]
    omega

set_option maxRecDepth 100000 in
set_option maxHeartbeats 4000000 in
theorem ParseArith_any (s : List UInt8) (w : World) (hs : s.length ≤ 2097152) (hG : AWs w) (hT : PT w) (hM : ML w) (hE : EV w) :
    Calls Tryd.prog 22 #[.string (bs s)] w (RetA w (ansA (parseAI s) s)) := by
  have hA1 : Below w.heap.size w (w.alloc (.cells #[.int .i64 0, .int .i64 0, .int .i64 0, .slice none 0 0, .slice none 0 0] 40)) := (Below.refl _ _).alloc (Nat.le_refl _) _
  have hr0 : BxA (w.alloc (.cells #[.int .i64 0, .int .i64 0, .int .i64 0, .slice none 0 0, .slice none 0 0] 40)) w.heap.size 0 0 0 none 0 0 none 0 0 := BxA.new w _
  have hA2 : Below (w.heap.size + 1) (w.alloc (.cells #[.int .i64 0, .int .i64 0, .int .i64 0, .slice none 0 0, .slice none 0 0] 40)) ((w.alloc (.cells #[.int .i64 0, .int .i64 0, .int .i64 0, .slice none 0 0, .slice none 0 0] 40)).alloc (.cells #[.int .i64 0, .int .i64 0, .int .i64 0, .slice none 0 0, .slice none 0 0] 40)) := (Below.refl _ _).alloc (by simp) _
  have hx0 : PA ((w.alloc (.cells #[.int .i64 0, .int .i64 0, .int .i64 0, .slice none 0 0, .slice none 0 0] 40)).alloc (.cells #[.int .i64 0, .int .i64 0, .int .i64 0, .slice none 0 0, .slice none 0 0] 40)) (w.heap.size + 2) (w.heap.size + 1) ⟨0, 0, 0, [], []⟩ none 0 none 0 := by simpa using PA.new (w.alloc (.cells #[.int .i64 0, .int .i64 0, .int .i64 0, .slice none 0 0, .slice none 0 0] 40)) (w.heap.size + 2) 40
  have hB2 : Below w.heap.size w ((w.alloc (.cells #[.int .i64 0, .int .i64 0, .int .i64 0, .slice none 0 0, .slice none 0 0] 40)).alloc (.cells #[.int .i64 0, .int .i64 0, .int .i64 0, .slice none 0 0, .slice none 0 0] 40)) := hA1.trans (hA2.mono (by omega))
  have hsz2 : ((w.alloc (.cells #[.int .i64 0, .int .i64 0, .int .i64 0, .slice none 0 0, .slice none 0 0] 40)).alloc (.cells #[.int .i64 0, .int .i64 0, .int .i64 0, .slice none 0 0, .slice none 0 0] 40)).heap.size = w.heap.size + 2 := by simp
  have hrz : BxA ((w.alloc (.cells #[.int .i64 0, .int .i64 0, .int .i64 0, .slice none 0 0, .slice none 0 0] 40)).alloc (.cells #[.int .i64 0, .int .i64 0, .int .i64 0, .slice none 0 0, .slice none 0 0] 40)) w.heap.size 0 0 0 none 0 0 none 0 0 := hr0.below (hA2.mono (by simp))
  have fz0 : Fz ((w.alloc (.cells #[.int .i64 0, .int .i64 0, .int .i64 0, .slice none 0 0, .slice none 0 0] 40)).alloc (.cells #[.int .i64 0, .int .i64 0, .int .i64 0, .slice none 0 0, .slice none 0 0] 40)) w.heap.size := (Fz.new w _ _).below hA2 (by omega)
  obtain ⟨L, hL⟩ : ∃ L, Hid (pcs 104 10 s = L) := ⟨_, Lib.hid rfl⟩
  have hLl := pcs_len 104 10 s (by omega)
  have hLs : ∀ x ∈ pcs 104 10 s, x.length ≤ s.length := fun x hx => pcs_small hx
  have hsp := fun w' h => SplitN_any s 10 104 w' hs (by omega) (by omega) h
  rw [hL.out] at hLl hLs
  rw [hL.out] at hsp
  have hpI : Hid (partAI L L.length = parseAI s) := Lib.hid (by rw [parseAI, hL.out, partAI, List.take_length])
  clear hr0 hA2
  go_enter Tryd.func22, Tryd.ntmps22
  go_wp2_with fail
  refine (hsp _ (hM.below hB2 (Nat.le_refl _))).mono ?_
  rintro e v2 ⟨q, cq, rfl, hcq, hq, hX, hb2⟩
  clear hsp
  have hq2 : q < v2.heap.size := by
    obtain ⟨b', o', h1, h2, _⟩ := hX.2 (by omega)
    simp only [Option.some.injEq, Addr.mk.injEq, and_true] at h1
    rw [h1.1]; exact h2
  rw [hsz2] at hq
  have hz2 := hb2.size
  rw [hsz2] at hz2
  have hx2 := hx0.below hb2 (Nat.le_refl _)
  have hr2 := hrz.below hb2
  have fz2 := fz0.below hb2 (by rw [hsz2]; omega)
  have hB3 := hB2.trans (hb2.mono (by rw [hsz2]; omega))
  clear hx0 hrz fz0 hb2 hB2 hA1 hsz2
  go_wp2
  go_loopw [17] (fun i wr => ∃ (j : Nat) (A : Option Addr) (ca : Nat) (O : Option Addr) (co : Nat), j ≤ L.length ∧ i = .int .i64 j ∧ PA wr (w.heap.size + 2) (w.heap.size + 1) (partAI L j) A ca O co ∧ (∀ g, (Value.slice A (partAI L j).gs.length ca).ownBlock = some g → v2.heap.size ≤ g) ∧ (∀ g, (Value.slice O (partAI L j).os.length co).ownBlock = some g → v2.heap.size ≤ g) ∧ Alt (fun i => i = w.heap.size + 1) v2 wr) (fun i _ => L.length - (intOf i).toNat)
  case atStart => exact ⟨0, none, 0, none, 0, Nat.zero_le _, rfl, hx2, by simp [Value.ownBlock], by simp [Value.ownBlock], Alt.refl_ _ _⟩
  case round =>
    clear hx2
    obtain ⟨j, A, ca, O, co, hj, rfl, hp, hgA, hgO, hk⟩ := hrel
    have hXr := hX.alt hk (fun b o hbo => by simp only [Option.some.injEq, Addr.mk.injEq, and_true] at hbo; omega)
    have hBr : Below w.heap.size w wr := hB3.trans (hk.below_ (by omega) (fun i hi hc => by omega))
    by_cases hlt : j < L.length
    · have hpn := partAI_succ hlt
      have hplen := partAI_len L j hj
      obtain ⟨b1, o1, hqo, hb1, d1⟩ := hXr.at_ hlt
      simp only [Option.some.injEq, Addr.mk.injEq, and_true] at hqo
      obtain ⟨rfl, rfl⟩ := hqo
      rw [Nat.zero_add] at d1
      have hls := hLs _ (sx_mem (l := L) (j := j) hlt)
      obtain ⟨ln, hln⟩ : ∃ ln, Hid (sx L j = ln) := ⟨_, Lib.hid rfl⟩
      rw [hln.out] at d1 hls hpn
      obtain ⟨C, hC⟩ : ∃ C, Hid (partAI L j = C) := ⟨_, Lib.hid rfl⟩
      rw [hC.out] at hp hgA hgO hpn hplen
      have hW1 := pcs_len 23 32 ln (by omega)
      have hWs : ∀ x ∈ pcs 23 32 ln, x.length ≤ ln.length := fun x hx => pcs_small hx
      obtain ⟨W, hW⟩ : ∃ W, Hid (pcs 23 32 ln = W) := ⟨_, Lib.hid rfl⟩
      have hspl := fun w' h => SplitN_any ln 32 23 w' (by omega) (by omega) (by omega) h
      rw [hW.out] at hW1 hWs hpn
      rw [hW.out] at hspl
      go_wp2_with fail
      refine (hspl _ (hM.below hBr (Nat.le_refl _))).mono ?_
      rintro e v3 ⟨q3, c3, rfl, hc3, hq3, hX3, hb3⟩
      obtain ⟨b4, o4, hqo, hb4, d4⟩ := hX3.at_ (k := 0) (by omega)
      simp only [Option.some.injEq, Addr.mk.injEq, and_true] at hqo
      obtain ⟨rfl, rfl⟩ := hqo
      rw [Nat.zero_add] at d4
      obtain ⟨n, hn⟩ : ∃ n, W.length = n + 1 := ⟨W.length - 1, by omega⟩
      simp only [hn] at hX3 hc3 ⊢
      obtain ⟨TA, hTA, hTq, hsl⟩ := slice_tail q3 n c3 hc3
      have hXt := hTA v3 W hX3
      have hB3r := hBr.trans (hb3.mono hBr.size)
      have hWt : ∀ x ∈ W.tail, x.length ≤ 2097152 := fun x hx => by have := hWs x (List.mem_of_mem_tail hx); omega
      go_wp2_with fail
      have hni := numbersIn_any TA n (c3 - 1) W.tail v3 hXt hWt (by omega) (hE.below hB3r (Nat.le_refl _))
      have htl : (W.tail.map atoiV).length = n := by simp [hn]
      refine hni.mono ?_
      rintro e v4 hT4
      obtain ⟨A4, c4, rfl, ho4, hb4⟩ := hT4.open_ htl
      clear hni
      obtain ⟨wd, hwd⟩ : ∃ wd, Hid (sx W 0 = wd) := ⟨_, Lib.hid rfl⟩
      rw [hwd.out] at d4
      have d5 := cell_below d4 hb4
      have hB4r := hB3r.trans (hb4.mono hB3r.size)
      obtain ⟨l, hl⟩ : ∃ l, Hid (W.tail.map atoiV = l) := ⟨_, Lib.hid rfl⟩
      rw [hl.out] at ho4 htl
      have hz34 := hb4.size
      have hz3 := hb3.size
      go_wp2_with fail
      go_wp2_with fail
      refine wp_region_mem0 (10) [(⟨q3, 0, none⟩, .string (bs wd)), (⟨q3, 0, none⟩, .string (bs wd))] [(1, [], []), (2, [1], []), (7, [], [])] [2] [(1, Res.row v4.heap.size 3 [0, 0, 0]), (2, Res.row v4.heap.size (n + 3) (l ++ [0, 0, 0])), (7, Res.plain (.int .i64 (kindA wd)))] (by kernel_rfl) (by kernel_rfl) (by kernel_rfl) (by simp only [CellsL, List.mem_cons, forall_eq_or_imp, List.not_mem_nil, false_implies, implies_true, and_true]; repeat (any_goals (apply And.intro)); all_goals (first | assumption | go_simp)) ?_
      simp only [List.take_succ_cons, List.take_zero, List.drop_succ_cons, List.drop_zero, List.take_nil, List.drop_nil, List.take, List.drop]
      repeat (first
        | ((with_reducible refine mem_pure0 ?_ ?_ ?_)
           · exact rfl
           · exact rfl
           intro K hK
           apply Exists.intro
           refine ⟨fun w3 hw3 => ?_, ?_⟩
           · have hcs := hw3
             simp only [CellsL, List.mem_cons, forall_eq_or_imp, List.not_mem_nil, false_implies, implies_true, and_true] at hcs
             clear hw3
             go_simp
             first | done | exact ⟨rfl, rfl⟩ | rfl
           refine hK _ ?_
           clear hK K
           try simp only [Act.put, List.setIfInBounds_toArray, List.set_cons_zero, List.set_cons_succ])
        | ((with_reducible refine mem_skip ?_ ?_ ?_)
           · exact rfl
           · exact wanted_not rfl rfl rfl rfl
           simp only [Act.put, List.setIfInBounds_toArray, List.set_cons_zero, List.set_cons_succ])
        | ((with_reducible refine mem_pure ?_ ?_ ?_)
           · exact rfl
           · exact wanted_some rfl rfl rfl rfl
           intro K hK
           apply Exists.intro
           refine ⟨fun w3 hw3 => ?_, ?_⟩
           · have hcs := hw3
             simp only [CellsL, List.mem_cons, forall_eq_or_imp, List.not_mem_nil, false_implies, implies_true, and_true] at hcs
             clear hw3
             go_simp
             first | done | exact ⟨rfl, rfl⟩ | rfl
           refine hK _ ?_
           clear hK K
           try simp only [Act.put, List.setIfInBounds_toArray, List.set_cons_zero, List.set_cons_succ]))
      focus
        (with_reducible refine mem_row v4.heap.size 3 [0, 0, 0] ?_ ?_ ?_ ?_ ?_ (hw := ?_))
        · exact rfl
        · exact rfl
        · omega
        · intro w3 hw3 hc3 hp3
          have hcs := hc3
          simp only [CellsL, List.mem_cons, forall_eq_or_imp, List.not_mem_nil, false_implies, implies_true, and_true] at hcs
          (go_simp; exact by simpa using postRow.new w3 [0, 0, 0] 3 rfl (by omega))
        rotate_left
        · first | exact wanted_none rfl | exact wanted_some rfl rfl rfl rfl
        intro A9 c9
        try simp only [Act.put, List.setIfInBounds_toArray, List.set_cons_zero, List.set_cons_succ]
      repeat (first
        | ((with_reducible refine mem_pure0 ?_ ?_ ?_)
           · exact rfl
           · exact rfl
           intro K hK
           apply Exists.intro
           refine ⟨fun w3 hw3 => ?_, ?_⟩
           · have hcs := hw3
             simp only [CellsL, List.mem_cons, forall_eq_or_imp, List.not_mem_nil, false_implies, implies_true, and_true] at hcs
             clear hw3
             go_simp
             first | done | exact ⟨rfl, rfl⟩ | rfl
           refine hK _ ?_
           clear hK K
           try simp only [Act.put, List.setIfInBounds_toArray, List.set_cons_zero, List.set_cons_succ])
        | ((with_reducible refine mem_skip ?_ ?_ ?_)
           · exact rfl
           · exact wanted_not rfl rfl rfl rfl
           simp only [Act.put, List.setIfInBounds_toArray, List.set_cons_zero, List.set_cons_succ])
        | ((with_reducible refine mem_pure ?_ ?_ ?_)
           · exact rfl
           · exact wanted_some rfl rfl rfl rfl
           intro K hK
           apply Exists.intro
           refine ⟨fun w3 hw3 => ?_, ?_⟩
           · have hcs := hw3
             simp only [CellsL, List.mem_cons, forall_eq_or_imp, List.not_mem_nil, false_implies, implies_true, and_true] at hcs
             clear hw3
             go_simp
             first | done | exact ⟨rfl, rfl⟩ | rfl
           refine hK _ ?_
           clear hK K
           try simp only [Act.put, List.setIfInBounds_toArray, List.set_cons_zero, List.set_cons_succ]))
      focus
        (with_reducible refine mem_row v4.heap.size (n + 3) (l ++ [0, 0, 0]) ?_ ?_ ?_ ?_ ?_ (hw := ?_))
        · exact rfl
        · exact rfl
        · omega
        · intro w3 hw3 hc3 hp3
          have hcs := hc3
          simp only [CellsL, List.mem_cons, forall_eq_or_imp, List.not_mem_nil, false_implies, implies_true, and_true] at hcs
          (have h9 : Own w3 v4.heap.size w3.heap.size (.slice A9 3 c9) 3 [0, 0, 0] := hp3.1.1.1; have h4 := (ho4.below (alt_below hw3) (.inl (Nat.le_refl _))).reads; go_simp; refine (with_any A4 _ n c4 3 c9 l [0, 0, 0] _ h4 h9.reads (by omega) (by omega)).mono ?_; rintro e w5 ⟨A8, c8, rfl, ho8, hb8⟩; exact retPost.mk_ (postRow.mk_ ho8 hb8))
        rotate_left
        · first | exact wanted_none rfl | exact wanted_some rfl rfl rfl rfl
        intro A7 c7
        try simp only [Act.put, List.setIfInBounds_toArray, List.set_cons_zero, List.set_cons_succ]
      repeat (first
        | ((with_reducible refine mem_pure0 ?_ ?_ ?_)
           · exact rfl
           · exact rfl
           intro K hK
           apply Exists.intro
           refine ⟨fun w3 hw3 => ?_, ?_⟩
           · have hcs := hw3
             simp only [CellsL, List.mem_cons, forall_eq_or_imp, List.not_mem_nil, false_implies, implies_true, and_true] at hcs
             clear hw3
             go_simp
             first | done | exact ⟨rfl, rfl⟩ | rfl
           refine hK _ ?_
           clear hK K
           try simp only [Act.put, List.setIfInBounds_toArray, List.set_cons_zero, List.set_cons_succ])
        | ((with_reducible refine mem_skip ?_ ?_ ?_)
           · exact rfl
           · exact wanted_not rfl rfl rfl rfl
           simp only [Act.put, List.setIfInBounds_toArray, List.set_cons_zero, List.set_cons_succ])
        | ((with_reducible refine mem_pure ?_ ?_ ?_)
           · exact rfl
           · exact wanted_some rfl rfl rfl rfl
           intro K hK
           apply Exists.intro
           refine ⟨fun w3 hw3 => ?_, ?_⟩
           · have hcs := hw3
             simp only [CellsL, List.mem_cons, forall_eq_or_imp, List.not_mem_nil, false_implies, implies_true, and_true] at hcs
             clear hw3
             go_simp
             first | done | exact ⟨rfl, rfl⟩ | rfl
           refine hK _ ?_
           clear hK K
           try simp only [Act.put, List.setIfInBounds_toArray, List.set_cons_zero, List.set_cons_succ]))
      focus
        (with_reducible refine mem_plain (.int .i64 (kindA wd)) ?_ ?_ ?_ ?_ (hw := ?_))
        · exact rfl
        · exact rfl
        · intro w3 hw3 hc3 hp3
          have hcs := hc3
          simp only [CellsL, List.mem_cons, forall_eq_or_imp, List.not_mem_nil, false_implies, implies_true, and_true] at hcs
          (have hg3 := hG.below (hB4r.trans ((alt_below hw3).mono hB4r.size)) (Nat.le_refl _); go_simp; refine (IndexA_any wd _ hg3).mono ?_; rintro e w5 ⟨rfl, rfl⟩; exact retPost.mk_ (postPlain.mk_ (Below.refl _ _)))
        rotate_left
        · first | exact wanted_none rfl | exact wanted_some rfl rfl rfl rfl
        try simp only [Act.put, List.setIfInBounds_toArray, List.set_cons_zero, List.set_cons_succ]
      repeat (first
        | ((with_reducible refine mem_pure0 ?_ ?_ ?_)
           · exact rfl
           · exact rfl
           intro K hK
           apply Exists.intro
           refine ⟨fun w3 hw3 => ?_, ?_⟩
           · have hcs := hw3
             simp only [CellsL, List.mem_cons, forall_eq_or_imp, List.not_mem_nil, false_implies, implies_true, and_true] at hcs
             clear hw3
             go_simp
             first | done | exact ⟨rfl, rfl⟩ | rfl
           refine hK _ ?_
           clear hK K
           try simp only [Act.put, List.setIfInBounds_toArray, List.set_cons_zero, List.set_cons_succ])
        | ((with_reducible refine mem_skip ?_ ?_ ?_)
           · exact rfl
           · exact wanted_not rfl rfl rfl rfl
           simp only [Act.put, List.setIfInBounds_toArray, List.set_cons_zero, List.set_cons_succ])
        | ((with_reducible refine mem_pure ?_ ?_ ?_)
           · exact rfl
           · exact wanted_some rfl rfl rfl rfl
           intro K hK
           apply Exists.intro
           refine ⟨fun w3 hw3 => ?_, ?_⟩
           · have hcs := hw3
             simp only [CellsL, List.mem_cons, forall_eq_or_imp, List.not_mem_nil, false_implies, implies_true, and_true] at hcs
             clear hw3
             go_simp
             first | done | exact ⟨rfl, rfl⟩ | rfl
           refine hK _ ?_
           clear hK K
           try simp only [Act.put, List.setIfInBounds_toArray, List.set_cons_zero, List.set_cons_succ]))
      refine wpSep_end ?_
      intro v7 hwt hct hfin hap
      have hbq := alt_below hwt
      have d7 := cell_below d5 hbq
      have ho7 : Own v7 v4.heap.size v7.heap.size (.slice A7 (n + 3) c7) (n + 3) (l ++ [0, 0, 0]) := hfin.1.1
      have ho8 := ho4.below hbq (.inl (Nat.le_refl _))
      have hz67 : v4.heap.size ≤ v7.heap.size := hbq.size
      have hb37 : Below wr.heap.size wr v7 := hb3.trans ((hb4.trans (hbq.mono hz34)).mono hz3)
      clear hwt hct hfin hap d4 d5 hspl hX3 hXt hTA hTq hT4 hsl ho4 d1
      have hp7 := hp.below hb37 (Nat.le_refl _)
      have hk7 := hk.new_ hb37
      obtain ⟨kb, ob, rfl, hkb, hcs⟩ := ho7.reads.2 (by omega)
      have e0 := hcs 0 (by omega)
      have e1 := hcs 1 (by omega)
      have e2 := hcs 2 (by omega)
      rw [Nat.add_zero] at e0
      obtain ⟨za, hza⟩ : ∃ za, Hid (gi (l ++ [0, 0, 0]) 0 = za) := ⟨_, Lib.hid rfl⟩
      obtain ⟨zb, hzb⟩ : ∃ zb, Hid (gi (l ++ [0, 0, 0]) 1 = zb) := ⟨_, Lib.hid rfl⟩
      obtain ⟨zc, hzc⟩ : ∃ zc, Hid (gi (l ++ [0, 0, 0]) 2 = zc) := ⟨_, Lib.hid rfl⟩
      rw [hzc.out] at e2
      rw [hza.out] at e0
      rw [hzb.out] at e1
      have hzr := hp7.lt
      have hwd' : Hid (W.headD [] = wd) := Lib.hid (by rw [← sx_head (by omega)]; exact hwd.out)
      have hgAw : ∀ g, (Value.slice A C.gs.length ca).ownBlock = some g → g < wr.heap.size := fun g hg => (hp.ox.1.1.lt g hg).2.2
      have hbw := hp.lt
      have hzk := hk.size
      clear hb3 hb4 hbq hp hk hcs hwd
      have hq := hp7.bx; obtain ⟨m0, m1, m2, m3, m4⟩ := hq
      have f0 := hp7.fz 0; have f1 := hp7.fz 1; have f2 := hp7.fz 2; have f3 := hp7.fz 3; have f4 := hp7.fz 4
      by_cases h1 : wd = ariW
      · have hst : Hid (stepAI C W = { C with p := za, i0 := zb, i1 := zc }) := Lib.hid (by
          rw [stepAI, hwd'.out, if_pos h1, hl.out, hza.out, hzb.out, hzc.out])
        have t1 : ((bs wd).toList == [97, 114, 105, 116, 104]) = true := bs_is h1
        rw [hst.out] at hpn
        have HPN := Lib.hid hpn
        clear hpn hst h1 hwd'
        have hkb2 : kb ≠ w.heap.size + 1 := by have := ho7.lt kb (by simp [Value.ownBlock]); omega
        have e3 : ∀ W' : World, (∀ j, W'.cell? ⟨kb, ob + j, none⟩ = v7.cell? ⟨kb, ob + j, none⟩) → ∀ i u j, (W'.setCell ⟨w.heap.size + 1, i, none⟩ u).cell? ⟨kb, ob + j, none⟩ = v7.cell? ⟨kb, ob + j, none⟩ := fun W' h i u j => (World.cell?_setCell_other _ _ _ _ (by first | (simp; done) | (simp; omega))).trans (h j)
        have x0 : ∀ i u, (v7.setCell ⟨w.heap.size + 1, i, none⟩ u).cell? ⟨kb, ob, none⟩ = some (.int .i64 za) := fun i u => (e3 v7 (fun _ => rfl) i u 0).trans e0
        have x1 : ∀ i u, (v7.setCell ⟨w.heap.size + 1, i, none⟩ u).cell? ⟨kb, ob + 1, none⟩ = some (.int .i64 zb) := fun i u => (e3 v7 (fun _ => rfl) i u 1).trans e1
        have x2 : ∀ i u, (v7.setCell ⟨w.heap.size + 1, i, none⟩ u).cell? ⟨kb, ob + 2, none⟩ = some (.int .i64 zc) := fun i u => (e3 v7 (fun _ => rfl) i u 2).trans e2
        have y0 : ∀ i u j t, ((v7.setCell ⟨w.heap.size + 1, i, none⟩ u).setCell ⟨w.heap.size + 1, j, none⟩ t).cell? ⟨kb, ob, none⟩ = some (.int .i64 za) := fun i u j t => (e3 _ (fun k => e3 v7 (fun _ => rfl) i u k) j t 0).trans e0
        have y1 : ∀ i u j t, ((v7.setCell ⟨w.heap.size + 1, i, none⟩ u).setCell ⟨w.heap.size + 1, j, none⟩ t).cell? ⟨kb, ob + 1, none⟩ = some (.int .i64 zb) := fun i u j t => (e3 _ (fun k => e3 v7 (fun _ => rfl) i u k) j t 1).trans e1
        have y2 : ∀ i u j t, ((v7.setCell ⟨w.heap.size + 1, i, none⟩ u).setCell ⟨w.heap.size + 1, j, none⟩ t).cell? ⟨kb, ob + 2, none⟩ = some (.int .i64 zc) := fun i u j t => (e3 _ (fun k => e3 v7 (fun _ => rfl) i u k) j t 2).trans e2
        have hany : ∀ W' : World, PA W' (w.heap.size + 2) (w.heap.size + 1) { C with p := za, i0 := zb, i1 := zc } A ca O co → Alt (fun i => i = w.heap.size + 1) v2 W' → PA W'.drew (w.heap.size + 2) (w.heap.size + 1) (partAI L (j + 1)) A ca O co ∧ Alt (fun i => i = w.heap.size + 1) v2 W'.drew := fun W' h1 h2 => ⟨by rw [HPN.out]; exact h1.below (Below.refl _ _).drew (Nat.le_refl _), h2.new_ (Below.refl _ _).drew⟩
        have hset : ∀ W' : World, Alt (fun i => i = w.heap.size + 1) v2 W' → ∀ i u, Alt (fun i => i = w.heap.size + 1) v2 (W'.setCell ⟨w.heap.size + 1, i, none⟩ u) := fun W' h i u => h.set_ _ _ (fun _ => rfl)
        have r1 := hany _ (((hp7.setP za).setX zb).setY zc) (hset _ (hset _ (hset _ hk7 _ _) _ _) _ _)
        have r2 := hany _ (((hp7.setP za).setY zc).setX zb) (hset _ (hset _ (hset _ hk7 _ _) _ _) _ _)
        have r3 := hany _ (((hp7.setX zb).setP za).setY zc) (hset _ (hset _ (hset _ hk7 _ _) _ _) _ _)
        have r4 := hany _ (((hp7.setX zb).setY zc).setP za) (hset _ (hset _ (hset _ hk7 _ _) _ _) _ _)
        have r5 := hany _ (((hp7.setY zc).setP za).setX zb) (hset _ (hset _ (hset _ hk7 _ _) _ _) _ _)
        have r6 := hany _ (((hp7.setY zc).setX zb).setP za) (hset _ (hset _ (hset _ hk7 _ _) _ _) _ _)
        have hgA1 : ∀ g, (Value.slice A (partAI L (j + 1)).gs.length ca).ownBlock = some g → v2.heap.size ≤ g := by rw [HPN.out]; exact hgA
        have hgO1 : ∀ g, (Value.slice O (partAI L (j + 1)).os.length co).ownBlock = some g → v2.heap.size ≤ g := by rw [HPN.out]; exact hgO
        clear hany hset e3
        have i0 : (0 : Int) < (n : Int) + 3 := by omega
        have i1 : (1 : Int) < (n : Int) + 3 := by omega
        have i2 : (2 : Int) < (n : Int) + 3 := by omega
        go_wp2_with fail
        go_region
        all_goals
          clear x0 x1 x2 y0 y1 y2 e0 e1 e2
          go_wp2
          go_roundw
          case rel =>
            first
              | exact ⟨j + 1, A, ca, O, co, by omega, by go_num, r1.1, hgA1, hgO1, r1.2⟩
              | exact ⟨j + 1, A, ca, O, co, by omega, by go_num, r2.1, hgA1, hgO1, r2.2⟩
              | exact ⟨j + 1, A, ca, O, co, by omega, by go_num, r3.1, hgA1, hgO1, r3.2⟩
              | exact ⟨j + 1, A, ca, O, co, by omega, by go_num, r4.1, hgA1, hgO1, r4.2⟩
              | exact ⟨j + 1, A, ca, O, co, by omega, by go_num, r5.1, hgA1, hgO1, r5.2⟩
              | exact ⟨j + 1, A, ca, O, co, by omega, by go_num, r6.1, hgA1, hgO1, r6.2⟩
          case measure => simp [intOf]; omega
      · by_cases h2 : wd = outW
        · have hst : Hid (stepAI C W = { C with os := l }) := Lib.hid (by
            rw [stepAI, hwd'.out, if_neg h1, if_pos h2, hl.out])
          have t1 : ((bs wd).toList == [97, 114, 105, 116, 104]) = false := bs_not h1
          have t2 : ((bs wd).toList == [111, 117, 116, 115]) = true := bs_is h2
          rw [hst.out] at hpn
          have HPN := Lib.hid hpn
          have p1 := hp7.outs ho8.now (by omega) (fun g hg => by have := hgAw g hg; omega) (by omega)
          have k1 := hk7.set_ ⟨w.heap.size + 1, 4, none⟩ (.slice A4 n c4) (fun _ => rfl)
          have hgO1 : ∀ g, (Value.slice A4 l.length c4).ownBlock = some g → v2.heap.size ≤ g := fun g hg => by
            rw [htl] at hg
            have := ho8.lt g hg
            omega
          clear hpn hst h1 h2 hwd' ho8
          go_wp2
          go_roundw
          case rel => exact ⟨j + 1, A, ca, A4, c4, by omega, by go_num, by rw [HPN.out]; exact p1, by rw [HPN.out]; exact hgA, by rw [HPN.out]; exact hgO1, k1⟩
          case measure => simp [intOf]; omega
        · by_cases h3 : 0 ≤ kindA wd
          · have hst : Hid (stepAI C W = { C with gs := C.gs ++ [⟨kindA wd, za, zb⟩] }) := Lib.hid (by
              rw [stepAI, hwd'.out, if_neg h1, if_neg h2, if_pos h3, hl.out, hza.out, hzb.out])
            have t1 : ((bs wd).toList == [97, 114, 105, 116, 104]) = false := bs_not h1
            have t2 : ((bs wd).toList == [111, 117, 116, 115]) = false := bs_not h2
            rw [hst.out] at hpn
            have HPN := Lib.hid hpn
            have hlt7 : ∀ g, (Value.slice A C.gs.length ca).ownBlock = some g → g < v7.heap.size := fun g hg => (hp7.ox.1.1.lt g hg).2.2
            have hnb : ¬ (Value.slice A C.gs.length ca).ownBlock = some (w.heap.size + 1) := hp7.ox.2.1
            have hnk : ¬ (Value.slice A C.gs.length ca).ownBlock = some kb := fun hc => by
              have h8 := hgAw kb hc
              have h9 := ho7.lt kb (by simp [Value.ownBlock])
              omega
            obtain ⟨K, hK⟩ : ∃ K, Hid (kindA wd = K) := ⟨_, Lib.hid rfl⟩
            have h3' : 0 ≤ K := by rw [← hK.out]; exact h3
            rw [hK.out] at HPN h3
            rw [hK.out]
            have i0 : (0 : Int) < (n : Int) + 3 := by omega
            have i1 : (1 : Int) < (n : Int) + 3 := by omega
            have i2 : (0 : Int) < ((n + 3 : Nat) : Int) := by omega
            have i3 : (1 : Int) < ((n + 3 : Nat) : Int) := by omega
            clear hpn hst h1 h2 hwd' ho8 h3
            go_wp2_with fail
            go_wp2_with fail
            refine wp_region_mem (12) ((fun i => (Value.slice A C.gs.length ca).ownBlock = some i)) [(⟨w.heap.size + 1, 3, none⟩, .slice A C.gs.length ca), (⟨kb, ob, none⟩, .int .i64 za), (⟨kb, ob + 1, none⟩, .int .i64 zb)] [(10, [], []), (11, [100, 10], [100])] [100] [11] [(100, Res.rowG (w.heap.size + 2) C.gs.length C.gs), (10, Res.rowG (w.heap.size + 2) 1 [⟨K, za, zb⟩]), (11, Res.rowG (w.heap.size + 2) (C.gs.length + 1) (C.gs ++ [⟨K, za, zb⟩]))] ((upd (fun _ => undef) 100 (.slice A C.gs.length ca))) (by kernel_rfl) (by kernel_rfl) (by kernel_rfl) (by simp only [CellsL, List.mem_cons, forall_eq_or_imp, List.not_mem_nil, false_implies, implies_true, and_true]; repeat (any_goals (apply And.intro)); all_goals (first | assumption | go_simp)) (fun q9 hq9 => by simp only [List.mem_cons, List.not_mem_nil, or_false] at hq9; rcases hq9 with rfl | rfl | rfl <;> first | exact hnb | exact hnk) (⟨⟨hp7.ox.1.1, fun i hi => ⟨.inr hi, hlt7 i hi⟩⟩, trivial⟩) (only_apart) ?_
            simp only [List.take_succ_cons, List.take_zero, List.drop_succ_cons, List.drop_zero, List.take_nil, List.drop_nil, List.take, List.drop]
            repeat (first
              | ((with_reducible refine mem_pure0 ?_ ?_ ?_)
                 · exact rfl
                 · exact rfl
                 intro K hK
                 apply Exists.intro
                 refine ⟨fun w3 hw3 => ?_, ?_⟩
                 · have hcs := hw3
                   simp only [CellsL, List.mem_cons, forall_eq_or_imp, List.not_mem_nil, false_implies, implies_true, and_true] at hcs
                   clear hw3
                   go_simp
                   first | done | exact ⟨rfl, rfl⟩ | rfl
                 refine hK _ ?_
                 clear hK K
                 try simp only [Act.put, List.setIfInBounds_toArray, List.set_cons_zero, List.set_cons_succ])
              | ((with_reducible refine mem_skip ?_ ?_ ?_)
                 · exact rfl
                 · exact wanted_not rfl rfl rfl rfl
                 simp only [Act.put, List.setIfInBounds_toArray, List.set_cons_zero, List.set_cons_succ])
              | ((with_reducible refine mem_pure ?_ ?_ ?_)
                 · exact rfl
                 · exact wanted_some rfl rfl rfl rfl
                 intro K hK
                 apply Exists.intro
                 refine ⟨fun w3 hw3 => ?_, ?_⟩
                 · have hcs := hw3
                   simp only [CellsL, List.mem_cons, forall_eq_or_imp, List.not_mem_nil, false_implies, implies_true, and_true] at hcs
                   clear hw3
                   go_simp
                   first | done | exact ⟨rfl, rfl⟩ | rfl
                 refine hK _ ?_
                 clear hK K
                 try simp only [Act.put, List.setIfInBounds_toArray, List.set_cons_zero, List.set_cons_succ]))
            focus
              (with_reducible refine mem_rowG (w.heap.size + 2) 1 [⟨K, za, zb⟩] ?_ ?_ ?_ ?_ ?_ (hw := ?_))
              · exact rfl
              · exact rfl
              · omega
              · intro w3 hw3 hc3 hp3
                have hcs := hc3
                simp only [CellsL, List.mem_cons, forall_eq_or_imp, List.not_mem_nil, false_implies, implies_true, and_true] at hcs
                (go_simp; exact postRowG_one _ ⟨K, za, zb⟩)
              rotate_left
              · first | exact wanted_none rfl | exact wanted_some rfl rfl rfl rfl
              intro A3 c3'
              try simp only [Act.put, List.setIfInBounds_toArray, List.set_cons_zero, List.set_cons_succ]
            repeat (first
              | ((with_reducible refine mem_pure0 ?_ ?_ ?_)
                 · exact rfl
                 · exact rfl
                 intro K hK
                 apply Exists.intro
                 refine ⟨fun w3 hw3 => ?_, ?_⟩
                 · have hcs := hw3
                   simp only [CellsL, List.mem_cons, forall_eq_or_imp, List.not_mem_nil, false_implies, implies_true, and_true] at hcs
                   clear hw3
                   go_simp
                   first | done | exact ⟨rfl, rfl⟩ | rfl
                 refine hK _ ?_
                 clear hK K
                 try simp only [Act.put, List.setIfInBounds_toArray, List.set_cons_zero, List.set_cons_succ])
              | ((with_reducible refine mem_skip ?_ ?_ ?_)
                 · exact rfl
                 · exact wanted_not rfl rfl rfl rfl
                 simp only [Act.put, List.setIfInBounds_toArray, List.set_cons_zero, List.set_cons_succ])
              | ((with_reducible refine mem_pure ?_ ?_ ?_)
                 · exact rfl
                 · exact wanted_some rfl rfl rfl rfl
                 intro K hK
                 apply Exists.intro
                 refine ⟨fun w3 hw3 => ?_, ?_⟩
                 · have hcs := hw3
                   simp only [CellsL, List.mem_cons, forall_eq_or_imp, List.not_mem_nil, false_implies, implies_true, and_true] at hcs
                   clear hw3
                   go_simp
                   first | done | exact ⟨rfl, rfl⟩ | rfl
                 refine hK _ ?_
                 clear hK K
                 try simp only [Act.put, List.setIfInBounds_toArray, List.set_cons_zero, List.set_cons_succ]))
            refine mem_appG 100 (w.heap.size + 2) C.gs.length 1 C.gs [⟨K, za, zb⟩] A ca A3 c3' (.tmp 62) (.tmp 71) (by rfl) (by rfl) (by omega) (by rfl) (by rfl) (by decide) (by rfl) (by rfl) (by rfl) (by rfl) (by omega) (fun w3 hw3 hc3 hp3 => ?_) (fun G' cG' => ?_)
            · have h3 : OwnG w3 (w.heap.size + 2) w3.heap.size (.slice A3 1 c3') 1 [⟨K, za, zb⟩] := hp3.1.2.1.1
              exact h3.reads
            try simp only [Act.put, List.setIfInBounds_toArray, List.set_cons_zero, List.set_cons_succ]
            repeat (first
              | ((with_reducible refine mem_pure0 ?_ ?_ ?_)
                 · exact rfl
                 · exact rfl
                 intro K hK
                 apply Exists.intro
                 refine ⟨fun w3 hw3 => ?_, ?_⟩
                 · have hcs := hw3
                   simp only [CellsL, List.mem_cons, forall_eq_or_imp, List.not_mem_nil, false_implies, implies_true, and_true] at hcs
                   clear hw3
                   go_simp
                   first | done | exact ⟨rfl, rfl⟩ | rfl
                 refine hK _ ?_
                 clear hK K
                 try simp only [Act.put, List.setIfInBounds_toArray, List.set_cons_zero, List.set_cons_succ])
              | ((with_reducible refine mem_skip ?_ ?_ ?_)
                 · exact rfl
                 · exact wanted_not rfl rfl rfl rfl
                 simp only [Act.put, List.setIfInBounds_toArray, List.set_cons_zero, List.set_cons_succ])
              | ((with_reducible refine mem_pure ?_ ?_ ?_)
                 · exact rfl
                 · exact wanted_some rfl rfl rfl rfl
                 intro K hK
                 apply Exists.intro
                 refine ⟨fun w3 hw3 => ?_, ?_⟩
                 · have hcs := hw3
                   simp only [CellsL, List.mem_cons, forall_eq_or_imp, List.not_mem_nil, false_implies, implies_true, and_true] at hcs
                   clear hw3
                   go_simp
                   first | done | exact ⟨rfl, rfl⟩ | rfl
                 refine hK _ ?_
                 clear hK K
                 try simp only [Act.put, List.setIfInBounds_toArray, List.set_cons_zero, List.set_cons_succ]))
            refine wpSep_end ?_
            intro wy hwy hcy hfin hap
            have hG4 : OwnG wy (w.heap.size + 2) wy.heap.size (.slice G' (C.gs.length + 1) cG') (C.gs.length + 1) (C.gs ++ [⟨K, za, zb⟩]) := hfin.1.1
            have hokG : ∀ b, (Value.slice G' (C.gs.length + 1) cG').ownBlock = some b → okB v7 (fun i => (Value.slice A C.gs.length ca).ownBlock = some i) b := fun b hb => (hfin.1.2 b hb).1
            have p1 := hp7.gate hwy hG4 hokG
            have k0 : Alt (fun i => i = w.heap.size + 1) v2 wy := hk7.via hwy hgA
            have k1 := k0.set_ ⟨w.heap.size + 1, 3, none⟩ (.slice G' (C.gs.length + 1) cG') (fun _ => rfl)
            have hgA1 : ∀ g, (Value.slice G' (C.gs ++ [(⟨K, za, zb⟩ : G3)]).length cG').ownBlock = some g → v2.heap.size ≤ g := fun g hg => by
              have h8 := hokG g (by simpa [Value.ownBlock] using hg)
              rcases h8 with h8 | h8
              · have := hk7.size; omega
              · exact hgA g h8
            have hbS : ¬ okB v7 (fun i => (Value.slice A C.gs.length ca).ownBlock = some i) (w.heap.size + 1) := fun hc => hc.elim (fun h => by omega) hnb
            have hq := hp7.bx.alt hwy hbS; obtain ⟨m0, m1, m2, m3, m4⟩ := hq
            have f3 := (hp7.fz.alt hwy hzr hbS) 3
            clear hfin hap hcy hwy hG4 hokG
            go_wp2
            go_roundw
            case rel => exact ⟨j + 1, G', cG', O, co, by omega, by go_num, by rw [HPN.out]; exact p1, by rw [HPN.out]; exact hgA1, by rw [HPN.out]; exact hgO, k1⟩
            case measure => simp [intOf]; omega
          · have hst : Hid (stepAI C W = C) := Lib.hid (by
              rw [stepAI, hwd'.out, if_neg h1, if_neg h2, if_neg h3])
            have t1 : ((bs wd).toList == [97, 114, 105, 116, 104]) = false := bs_not h1
            have t2 : ((bs wd).toList == [111, 117, 116, 115]) = false := bs_not h2
            rw [hst.out] at hpn
            have HPN := Lib.hid hpn
            clear hpn hst h1 h2 hwd'
            go_wp2
            go_roundw
            case rel => exact ⟨j + 1, A, ca, O, co, by omega, by go_num, by rw [HPN.out]; exact hp7, by rw [HPN.out]; exact hgA, by rw [HPN.out]; exact hgO, hk7⟩
            case measure => simp [intOf]; omega
    · obtain rfl : j = L.length := by omega
      have hpb := partAI_len L L.length (Nat.le_refl _)
      rw [hpI.out] at hp hgA hgO hpb
      obtain ⟨C, hC⟩ : ∃ C, Hid (parseAI s = C) := ⟨_, Lib.hid rfl⟩
      rw [hC.out] at hp hgA hgO hpb
      have hrr := hr2.alt hk (by omega)
      have fzr := fz2.alt hk (by omega) (by omega)
      have hq := hp.bx; obtain ⟨m0, m1, m2, m3, m4⟩ := hq
      have hrd := hp.ox.1.reads
      go_wp2_with fail
      refine (ArithText_any C.p C.i0 C.i1 A C.gs.length ca O C.os.length co C.gs C.os _ hrd (by omega) (by omega) (hT.below hBr (Nat.le_refl _)) (hG.below hBr (Nat.le_refl _))).mono ?_
      rintro e v5 ⟨rfl, hb5⟩
      have hr5 := hrr.below hb5
      have fz5 := fzr.below hb5 (by have := hrr.lt; omega)
      have hp5 := hp.below hb5 (Nat.le_refl _)
      have hB5 := hBr.trans (hb5.mono hBr.size)
      clear hrr fzr hp hb5 m0 m1 m2 m3 m4 hk hXr
      have f0 := fz5 0; have f1 := fz5 1; have f2 := fz5 2; have f3 := fz5 3; have f4 := fz5 4
      have hr6 := hr5; obtain ⟨r0, r1, r2, r3, r4⟩ := hr6
      cases hcb : arB C.p C.i0 C.i1 C.gs C.os with
      | false =>
        have HF : Hid (ansA (parseAI s) s = none) := Lib.hid (by rw [hC.out]; simp [ansA, hcb])
        go_wp2
        have hq9 := BxA.set5 (hr5) 0 0 0 none 0 0 none 0 0
        obtain ⟨q0, q1, q2, q3, q4⟩ := hq9
        refine bodyPost_ret (v := .tuple #[.agg #[.int .i64 0, .int .i64 0, .int .i64 0, .slice none 0 0, .slice none 0 0], .bool false]) (by simp [results, Tryd.results22, go_sem, q0, q1, q2, q3, q4]) rfl ?_
        exact RetA.none_ (below_set5 hB5 (by omega) _ _ _ _ _ _ _ _ _) HF.out rfl
      | true =>
        have hct : Hid (atF C.p C.i0 C.i1 C.gs C.os = arithT C.p C.i0 C.i1 C.gs C.os) := Lib.hid (by simp [atF, hcb])
        rw [hct.out]
        by_cases hts : arithT C.p C.i0 C.i1 C.gs C.os = s
        · have t1 : ((bs (arithT C.p C.i0 C.i1 C.gs C.os)).toList == (bs s).toList) = true := by rw [bs_list, bs_list, hts]; simp
          have HF : Hid (ansA (parseAI s) s = some ⟨C.p, C.i0, C.i1, C.gs, C.os⟩) := Lib.hid (by rw [hC.out, ansA, if_pos ⟨hcb, hts⟩])
          have hq := hp5.bx; obtain ⟨m0, m1, m2, m3, m4⟩ := hq
          have hC9 := hp5.ox.1
          clear hts hcb hct
          go_wp2
          have hq9 := BxA.set5 (hr5) C.p C.i0 C.i1 A C.gs.length ca O C.os.length co
          obtain ⟨q0, q1, q2, q3, q4⟩ := hq9
          refine bodyPost_ret (v := .tuple #[.agg #[.int .i64 C.p, .int .i64 C.i0, .int .i64 C.i1, .slice A C.gs.length ca, .slice O C.os.length co], .bool true]) (by simp [results, Tryd.results22, go_sem, q0, q1, q2, q3, q4]) rfl ?_
          exact RetA.some_ (below_set5 hB5 (by omega) _ _ _ _ _ _ _ _ _) HF.out rfl rfl rfl (by rw [set5_size]; exact ((hC9.set5 (.inl (by omega)) _ _ _ _ _ _ _ _ _).lo_ (by omega)))
        · have t1 : ((bs (arithT C.p C.i0 C.i1 C.gs C.os)).toList == (bs s).toList) = false := by rw [bs_list, bs_list]; simp [hts]
          have HF : Hid (ansA (parseAI s) s = none) := Lib.hid (by rw [hC.out, ansA, if_neg (fun h => hts h.2)])
          clear hts hcb hct
          go_wp2
          have hq9 := BxA.set5 (hr5) 0 0 0 none 0 0 none 0 0
          obtain ⟨q0, q1, q2, q3, q4⟩ := hq9
          refine bodyPost_ret (v := .tuple #[.agg #[.int .i64 0, .int .i64 0, .int .i64 0, .slice none 0 0, .slice none 0 0], .bool false]) (by simp [results, Tryd.results22, go_sem, q0, q1, q2, q3, q4]) rfl ?_
          exact RetA.none_ (below_set5 hB5 (by omega) _ _ _ _ _ _ _ _ _) HF.out rfl

end Go.Proofs.YtgpfiefhhlejfaaDoor
