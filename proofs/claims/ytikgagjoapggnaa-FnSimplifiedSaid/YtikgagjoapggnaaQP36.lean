/- Plain facts for the law of simplified circuits: equal circuits are found equal, and counts of kinds. No program in sight. -/
import Derived.Test.YtikgagjoapggnaaQP34
import Derived.Test.YtikgagjoapggnaaQP35
import Derived.Test.YtikgagjoapggnaaQP32
namespace Go.Proofs.Ytikgagjoapggnaa
open Go.RowKit
set_option linter.unusedVariables false
set_option linter.unusedSimpArgs false
theorem SameC.uneq {x y : Int} {gs hs : List G3} {os ps : List Int} (h : SameC x y gs os hs ps) : uneqF x y gs os hs ps = -1 :=
  uneq_none fun j hj => (h.vals _ ⟨bitsN_len _ _, bitsN_bd _ _⟩).symm
theorem SameC.pair {x y : Int} {gs hs : List G3} {os ps : List Int} (h : SameC x y gs os hs ps) (hs10 : x + y ≤ 10) : pairB x y gs os x y hs ps = true := by
  have h1 := (circB_is' h.c).2.2.2.1
  have h2 := (circB_is' h.m).2.2.2.1
  simp only [pairB, smallB, Bool.and_eq_true, decide_eq_true_eq]
  exact ⟨⟨h.c, hs10, h1⟩, ⟨h.m, hs10, h2⟩, trivial, trivial, h.no.symm⟩
theorem SameC.eqv {x y : Int} {gs hs : List G3} {os ps : List Int} (h : SameC x y gs os hs ps) (hs10 : x + y ≤ 10) : eqV x y gs os x y hs ps = true := by
  rw [eqV_t (h.pair hs10), h.uneq]; rfl
theorem fe_ne {x y : Int} {gs : List G3} {os : List Int} {x2 y2 : Int} {hs : List G3} {ps : List Int} (h : pairB x y gs os x2 y2 hs ps = true) : ((firstF x y gs os x2 y2 hs ps).isSome == eqV x y gs os x2 y2 hs ps) = false := by
  rw [eqV_t h]
  unfold firstF
  by_cases h1 : 0 ≤ uneqF x y gs os hs ps
  · rw [if_pos ⟨h, h1⟩, decide_eq_false (by omega)]; rfl
  · rw [if_neg (fun hc => h1 hc.2), decide_eq_true (by omega)]; rfl
theorem cntK_nK {gs : List G3} {n : Int} (hg : ∀ j : Nat, j < gs.length → GateIs (gg gs j) (n + j)) : ∀ k, k ≤ gs.length → gi (cntK gs k) 1 = nK 1 (gs.take k) := by
  intro k
  induction k with
  | zero => intro _; rfl
  | succ k ih =>
    intro hk
    have h0 := ih (by omega)
    have hl := cntK_len gs k
    rw [gg_take_snoc (by omega), nK_snoc, cntK]
    have hgk := hg k (by omega)
    have hset : ∀ (l : List Int) (i : Nat) (v : Int), l.length = 4 → gi (l.set i v) 1 = if i = 1 then v else gi l 1 := fun l i v hl => by
      by_cases h1 : i = 1 <;> simp [gi, List.getElem?_set, h1, hl]
    rw [hset _ _ _ hl]
    cases hgk with
    | xor_ e => rw [e, if_neg (by decide), if_neg (by decide)]; omega
    | and_ e => rw [e, if_pos (by decide), if_pos rfl]; have : (1 : Int).toNat = 1 := rfl; rw [this, h0]; omega
    | not_ e => rw [e, if_neg (by decide), if_neg (by decide)]; omega
    | one_ e => rw [e, if_neg (by decide), if_neg (by decide)]; omega
theorem circ_nK {x y : Int} {gs : List G3} {os : List Int} (h : circB x y gs os = true) : gi (cntK gs gs.length) 1 = nK 1 gs := by
  have := cntK_nK (gs := gs) (n := x + y) (circB_is' h).2.2.2.2.1 gs.length (Nat.le_refl _)
  rwa [List.take_length] at this
theorem simp_law {x y : Int} {gs : List G3} {os : List Int} {M : Ci} (h : simpF x y gs os = some M) : M.i0 = x ∧ M.i1 = y ∧ SameC x y gs os M.gs M.os ∧ gi (cntK M.gs M.gs.length) 1 ≤ gi (cntK gs gs.length) 1 := by
  obtain ⟨h1, h2, h3, h4, h5⟩ := simp_all h
  refine ⟨h1, h2, h5, ?_⟩
  rw [circ_nK h5.c, circ_nK h5.m, h3]
  have := smpD_k (x + y).toNat gs os
  omega
end Go.Proofs.Ytikgagjoapggnaa
