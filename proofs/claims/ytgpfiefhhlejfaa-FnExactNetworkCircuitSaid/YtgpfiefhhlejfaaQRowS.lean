/- The rows' step for a slice of steps as an argument: its reading as the walks ask it. -/
import Derived.Test.YtgpfiefhhlejfaaQRowC
import Derived.Test.YtgpfiefhhlejfaaQNet
namespace Go.Proofs.Ytgpfiefhhlejfaa
open Go.ChangeShapes Go.WideShapes Go.ChangeAt Go.RowKit Go.Deep Go.Joins
set_option linter.unusedVariables false
set_option linter.unusedSimpArgs false

set_option maxRecDepth 100000 in
theorem step_of_cells {H : Type} {enc : TypeId × Value → H} {W : World} {cs : List Value} {fuel : Nat} {y : DataW H × List MemPlace}
    (h : DataW.trod enc Try.prog W 0 (fun _ => true) true fuel 73 cs = some y) : ∃ g : Sp, cs = [.int .i64 g.l, .int .i64 g.h] := by
  obtain ⟨xs, n, _, _, hlen, hxl, hf⟩ := DataW.trod_struct Try.underlying73 h
  have hC : Try.prog.cellsOf 73 = 2 := by kernel_rfl
  have hI : Try.prog.cellsOf 3 = 1 := by kernel_rfl
  rw [hC] at hlen
  match cs, hlen with
  | [c0, c1], _ =>
    match xs, hxl with
    | [x0, x1], _ =>
      have h0 := hf 0 _ rfl
      have h1 := hf 1 _ rfl
      simp only [hI, List.drop_zero, List.drop_succ_cons, List.take_succ_cons, List.take_zero, List.getElem?_cons_zero, List.getElem?_cons_succ] at h0 h1
      obtain ⟨k, e0, _⟩ := DataW.trod_int Try.underlying3 h0
      obtain ⟨a, e1, _⟩ := DataW.trod_int Try.underlying3 h1
      exact ⟨⟨k, a⟩, by rw [(List.cons.inj e0).1, (List.cons.inj e1).1]⟩
set_option maxRecDepth 100000 in
theorem RS_of_cell {H : Type} {enc : TypeId × Value → H} {W : World} {v : Value} {fuel : Nat} {y : DataW H × List MemPlace}
    (h : DataW.trod enc Try.prog W 0 (fun _ => true) true fuel 36 [v] = some y) : ∃ A n c gs, v = .slice A n c ∧ RS W A n gs ∧ n ≤ maxLen := by
  have hC : Try.prog.cellsOf 73 = 2 := by kernel_rfl
  rcases open_slice Try.underlying36 h with ⟨hcs, _⟩ | ⟨a, len, cap, m, n, D, Pl, hcs, hb, hl, hm, hmm, hx, hi⟩
  · exact ⟨none, 0, 0, [], (List.cons.inj hcs).1, ⟨rfl, fun h => absurd h (by omega)⟩, Nat.zero_le _⟩
  · simp only [if_true] at hmm
    rw [hC] at hi
    have hg : ∀ i, i < len → ∃ g : Sp, W.cell? (a.add (i * 2)) = some (.int .i64 g.l) ∧ W.cell? (a.add (i * 2 + 1)) = some (.int .i64 g.h) := by
      intro i him
      obtain ⟨cs', h1, h2⟩ := hi i (by omega)
      obtain ⟨g, rfl⟩ := step_of_cells h2
      obtain ⟨_, _, h3⟩ := World.cells?_some h1
      have q0 := h3 0 (by omega)
      have q1 := h3 1 (by omega)
      rw [add_add] at q0 q1
      exact ⟨g, q0, q1⟩
    have hfx : ∃ f : Nat → Sp, ∀ i, i < len → W.cell? (a.add (i * 2)) = some (.int .i64 (f i).l) ∧ W.cell? (a.add (i * 2 + 1)) = some (.int .i64 (f i).h) :=
      ⟨fun i => if h : i < len then (hg i h).choose else ⟨0, 0⟩, fun i hi => by simp only [dif_pos hi]; exact (hg i hi).choose_spec⟩
    obtain ⟨f, hf⟩ := hfx
    refine ⟨some a, len, cap, (List.range len).map f, (List.cons.inj hcs).1, ⟨by simp, fun hn => ?_⟩, by omega⟩
    obtain ⟨b, o, spot⟩ := a
    have hspot : spot = none := by
      obtain ⟨g, q0, _⟩ := hg 0 hn
      simpa [Addr.add] using World.cell?_spot q0
    subst hspot
    have hadd : ∀ j, (⟨b, o, none⟩ : Addr).add j = ⟨b, o + j, none⟩ := by
      intro j; unfold Addr.add; split
      · rename_i h; subst h; rfl
      · rfl
    refine ⟨b, o, rfl, ?_, fun j hj => ?_⟩
    · obtain ⟨g, q0, _⟩ := hg 0 hn
      rw [hadd] at q0
      exact World.block_lt_of_cell? W _ q0
    · obtain ⟨q0, q1⟩ := hf j hj
      rw [hadd] at q0 q1
      have hgf : ss ((List.range len).map f) j = f j := by
        rw [ss_lt (by simpa using hj)]
        simp
      rw [hgf]
      exact ⟨q0, by rw [← Nat.add_assoc] at q1; exact q1⟩

end Go.Proofs.Ytgpfiefhhlejfaa
