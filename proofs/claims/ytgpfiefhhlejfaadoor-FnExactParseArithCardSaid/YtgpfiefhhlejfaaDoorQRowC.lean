/- The rows' steps for circuits and arithmetic circuits as arguments: their readings as the walks ask them. -/
import Derived.Test.YtgpfiefhhlejfaaDoorQRow
import Derived.Test.YtgpfiefhhlejfaaDoorQGate
import Derived.Deep.Slices
import Derived.Deep.Fields
import Derived.Lib.SmallJoins
namespace Go.Proofs.YtgpfiefhhlejfaaDoor
open Go.ChangeShapes Go.WideShapes Go.ChangeAt Go.RowKit Go.Deep Go.Joins
set_option linter.unusedVariables false
set_option linter.unusedSimpArgs false

set_option maxRecDepth 100000 in
theorem RI_of_cell {H : Type} {enc : TypeId × Value → H} {W : World} {v : Value} {fuel : Nat} {y : DataW H × List MemPlace}
    (h : DataW.trod enc Tryd.prog W 0 (fun _ => true) true fuel 23 [v] = some y) : ∃ A n c xs, v = .slice A n c ∧ RI W A n xs ∧ n ≤ maxLen := by
  have h0 : ∃ A n c, v = .slice A n c ∧ n ≤ maxLen := by
    rcases open_ints Tryd.underlying23 Tryd.underlying3 (by kernel_rfl) h with ⟨hcs, _⟩ | ⟨x, l, c', zs, hcs, _, hl, hm, _⟩
    · exact ⟨_, _, _, (List.cons.inj hcs).1, Nat.zero_le _⟩
    · exact ⟨_, _, _, (List.cons.inj hcs).1, by omega⟩
  obtain ⟨A, n, c, rfl, hn⟩ := h0
  obtain ⟨xs, hx⟩ := RI_of_trod (W := W) (enc := enc) (a := A) (n := n) (c := c) (d := y.1) (p := y.2) ⟨fuel, by simpa [Value.cells] using h⟩
  exact ⟨A, n, c, xs, rfl, hx, hn⟩

set_option maxRecDepth 100000 in
theorem gate_of_cells {H : Type} {enc : TypeId × Value → H} {W : World} {cs : List Value} {fuel : Nat} {y : DataW H × List MemPlace}
    (h : DataW.trod enc Tryd.prog W 0 (fun _ => true) true fuel 81 cs = some y) : ∃ g : G3, cs = [.int .i64 g.k, .int .i64 g.a, .int .i64 g.b] := by
  obtain ⟨xs, n, _, _, hlen, hxl, hf⟩ := DataW.trod_struct Tryd.underlying81 h
  have hC : Tryd.prog.cellsOf 81 = 3 := by kernel_rfl
  have hI : Tryd.prog.cellsOf 3 = 1 := by kernel_rfl
  rw [hC] at hlen
  match cs, hlen with
  | [c0, c1, c2], _ =>
    match xs, hxl with
    | [x0, x1, x2], _ =>
      have h0 := hf 0 _ rfl
      have h1 := hf 1 _ rfl
      have h2 := hf 2 _ rfl
      simp only [hI, List.drop_zero, List.drop_succ_cons, List.take_succ_cons, List.take_zero, List.getElem?_cons_zero, List.getElem?_cons_succ] at h0 h1 h2
      obtain ⟨k, e0, _⟩ := DataW.trod_int Tryd.underlying3 h0
      obtain ⟨a, e1, _⟩ := DataW.trod_int Tryd.underlying3 h1
      obtain ⟨b, e2, _⟩ := DataW.trod_int Tryd.underlying3 h2
      exact ⟨⟨k, a, b⟩, by rw [(List.cons.inj e0).1, (List.cons.inj e1).1, (List.cons.inj e2).1]⟩
set_option maxRecDepth 100000 in
theorem RG_of_cell {H : Type} {enc : TypeId × Value → H} {W : World} {v : Value} {fuel : Nat} {y : DataW H × List MemPlace}
    (h : DataW.trod enc Tryd.prog W 0 (fun _ => true) true fuel 22 [v] = some y) : ∃ A n c gs, v = .slice A n c ∧ RG W A n gs ∧ n ≤ maxLen := by
  have hC : Tryd.prog.cellsOf 81 = 3 := by kernel_rfl
  rcases open_slice Tryd.underlying22 h with ⟨hcs, _⟩ | ⟨a, len, cap, m, n, D, Pl, hcs, hb, hl, hm, hmm, hx, hi⟩
  · exact ⟨none, 0, 0, [], (List.cons.inj hcs).1, ⟨rfl, fun h => absurd h (by omega)⟩, Nat.zero_le _⟩
  · simp only [if_true] at hmm
    rw [hC] at hi
    have hg : ∀ i, i < len → ∃ g : G3, W.cell? (a.add (i * 3)) = some (.int .i64 g.k) ∧ W.cell? (a.add (i * 3 + 1)) = some (.int .i64 g.a) ∧ W.cell? (a.add (i * 3 + 2)) = some (.int .i64 g.b) := by
      intro i him
      obtain ⟨cs', h1, h2⟩ := hi i (by omega)
      obtain ⟨g, rfl⟩ := gate_of_cells h2
      obtain ⟨_, _, h3⟩ := World.cells?_some h1
      have q0 := h3 0 (by omega)
      have q1 := h3 1 (by omega)
      have q2 := h3 2 (by omega)
      rw [add_add] at q0 q1 q2
      exact ⟨g, q0, q1, q2⟩
    have hfx : ∃ f : Nat → G3, ∀ i, i < len → W.cell? (a.add (i * 3)) = some (.int .i64 (f i).k) ∧ W.cell? (a.add (i * 3 + 1)) = some (.int .i64 (f i).a) ∧ W.cell? (a.add (i * 3 + 2)) = some (.int .i64 (f i).b) :=
      ⟨fun i => if h : i < len then (hg i h).choose else ⟨0, 0, 0⟩, fun i hi => by simp only [dif_pos hi]; exact (hg i hi).choose_spec⟩
    obtain ⟨f, hf⟩ := hfx
    refine ⟨some a, len, cap, (List.range len).map f, (List.cons.inj hcs).1, ⟨by simp, fun hn => ?_⟩, by omega⟩
    obtain ⟨b, o, spot⟩ := a
    have hspot : spot = none := by
      obtain ⟨g, q0, _⟩ := hg 0 hn
      simpa [Addr.add] using World.cell?_spot q0
    subst hspot
    have hadd : ∀ j, (⟨b, o, none⟩ : Addr).add j = ⟨b, o + j, none⟩ := by
      intro j; unfold Addr.add; split
      · rename_i h; subst h; rfl
      · rfl
    refine ⟨b, o, rfl, ?_, fun j hj => ?_⟩
    · obtain ⟨g, q0, _⟩ := hg 0 hn
      rw [hadd] at q0
      exact World.block_lt_of_cell? W _ q0
    · obtain ⟨q0, q1, q2⟩ := hf j hj
      rw [hadd] at q0 q1 q2
      have hgf : gg ((List.range len).map f) j = f j := by
        rw [gg_lt (by simpa using hj)]
        simp
      rw [hgf]
      exact ⟨q0, by rw [← Nat.add_assoc] at q1; exact q1, by rw [← Nat.add_assoc] at q2; exact q2⟩

set_option maxRecDepth 100000 in
theorem RC_of_trod {H : Type} {enc : TypeId × Value → H} {W : World} {b0 : Nat} {v : Value} {d : DataW H} {p : List MemPlace} (hv : Value.okWide Tryd.prog W .any b0 25 v)
    (h : DataW.Trod enc Tryd.prog W 0 (fun _ => true) true 25 v d p) :
    ∃ (x y : Int) (Ag : Option Addr) (ng cg : Nat) (Ao : Option Addr) (no co : Nat) (gs : List G3) (os : List Int), v = .agg #[.int .i64 x, .int .i64 y, .slice Ag ng cg, .slice Ao no co] ∧ (RG W Ag ng gs ∧ RI W Ao no os) ∧ ng ≤ maxLen ∧ no ≤ maxLen := by
  obtain ⟨v0, v1, v2, v3, y0, y1, y2, y3, n, rfl, _, _, h0, h1, h2, h3⟩ := open_agg4 Tryd.underlying25 (by kernel_rfl) (by kernel_rfl) hv h
  obtain ⟨x, e0, _⟩ := DataW.trod_int Tryd.underlying3 h0
  obtain ⟨y, e1, _⟩ := DataW.trod_int Tryd.underlying3 h1
  obtain ⟨Ag, ng, cg, gs, rfl, hg, hgn⟩ := RG_of_cell h2
  obtain ⟨Ao, no, co, os, rfl, ho, hon⟩ := RI_of_cell h3
  obtain rfl := (List.cons.inj e0).1
  obtain rfl := (List.cons.inj e1).1
  exact ⟨_, _, _, _, _, _, _, _, _, _, rfl, ⟨hg, ho⟩, hgn, hon⟩

set_option maxRecDepth 100000 in
theorem RA_of_trod {H : Type} {enc : TypeId × Value → H} {W : World} {b0 : Nat} {v : Value} {d : DataW H} {p : List MemPlace} (hv : Value.okWide Tryd.prog W .any b0 36 v)
    (h : DataW.Trod enc Tryd.prog W 0 (fun _ => true) true 36 v d p) :
    ∃ (p x y : Int) (Ag : Option Addr) (ng cg : Nat) (Ao : Option Addr) (no co : Nat) (gs : List G3) (os : List Int), v = .agg #[.int .i64 p, .int .i64 x, .int .i64 y, .slice Ag ng cg, .slice Ao no co] ∧ (RG W Ag ng gs ∧ RI W Ao no os) ∧ ng ≤ maxLen ∧ no ≤ maxLen := by
  obtain ⟨cs, rfl, hsz⟩ := okWide_struct Tryd.underlying36 hv
  have hC : Tryd.prog.cellsOf 36 = 5 := by kernel_rfl
  have hI : Tryd.prog.cellsOf 3 = 1 := by kernel_rfl
  have hS : Tryd.prog.cellsOf 23 = 1 := by kernel_rfl
  have hG : Tryd.prog.cellsOf 22 = 1 := by kernel_rfl
  obtain ⟨l⟩ := cs
  match l, hsz.trans hC with
  | [c0, c1, c2, c3, c4], _ =>
    obtain ⟨fuel, hf⟩ := h
    obtain ⟨xs, n, _, _, _, hxl, hf⟩ := DataW.trod_struct Tryd.underlying36 hf
    match xs, hxl with
    | [x0, x1, x2, x3, x4], _ =>
      have h0 := hf 0 _ rfl
      have h1 := hf 1 _ rfl
      have h2 := hf 2 _ rfl
      have h3 := hf 3 _ rfl
      have h4 := hf 4 _ rfl
      simp only [Value.cells, hI, hS, hG, List.drop_zero, List.drop_succ_cons, List.take_succ_cons, List.take_zero, List.getElem?_cons_zero, List.getElem?_cons_succ] at h0 h1 h2 h3 h4
      obtain ⟨p, e0, _⟩ := DataW.trod_int Tryd.underlying3 h0
      obtain ⟨x, e1, _⟩ := DataW.trod_int Tryd.underlying3 h1
      obtain ⟨y, e2, _⟩ := DataW.trod_int Tryd.underlying3 h2
      obtain ⟨Ag, ng, cg, gs, rfl, hg, hgn⟩ := RG_of_cell h3
      obtain ⟨Ao, no, co, os, rfl, ho, hon⟩ := RI_of_cell h4
      obtain rfl := (List.cons.inj e0).1
      obtain rfl := (List.cons.inj e1).1
      obtain rfl := (List.cons.inj e2).1
      exact ⟨_, _, _, _, _, _, _, _, _, _, _, rfl, ⟨hg, ho⟩, hgn, hon⟩

end Go.Proofs.YtgpfiefhhlejfaaDoor
