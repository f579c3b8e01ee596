/- Contracts of OnesOf, TruthTable, AreEqual, FirstUnequal. -/
import Derived.Test.YtadgmbkpbgcdjaaTable3
import Derived.Deep.RegionLaw
namespace Go.Proofs.Ytadgmbkpbgcdjaa
open Go.RowKit
set_option linter.unusedVariables false
set_option linter.unusedSimpArgs false



/-- A call that began at w returns a number and true; or 0 and false. -/
def RetZO (w : World) (o : Option Int) (e : Ending) (w' : World) : Prop := e = .returned (.tuple #[.int .i64 (o.getD 0), .bool o.isSome]) ∧ Below w.heap.size w w'
theorem RetZO.none_ {w : World} {o : Option Int} {e : Ending} {w' : World} (hb : Below w.heap.size w w') (ho : o = none) (he : e = .returned (.tuple #[.int .i64 0, .bool false])) : RetZO w o e w' := by subst ho; exact ⟨he, hb⟩
theorem RetZO.some_ {w : World} {o : Option Int} {z : Int} {e : Ending} {w' : World} (hb : Below w.heap.size w w') (ho : o = some z) (he : e = .returned (.tuple #[.int .i64 z, .bool true])) : RetZO w o e w' := by subst ho; exact ⟨he, hb⟩
def onesF (x y : Int) (gs : List G3) (os : List Int) (k : Int) : Option Int := (columnF x y gs os k).map sumI
theorem col_bd {gs : List G3} {os : List Int} {X N q : Nat} (hg : gatesB X gs gs.length = true) (ho : allB 0 (X + gs.length - 1) os = true) (hq : q < os.length) : allB 0 1 (tab N fun n => gi (outsN gs os X n) q) = true := allB_iff.2 fun z hz => by
  obtain ⟨j, _, rfl⟩ := mem_tab hz
  exact allB_gi (outsN_bd hg ho j) (by rw [outsN_len]; exact hq)
def truthF (x y : Int) (gs : List G3) (os : List Int) : Option (List Int) :=
  if smallB x y gs os 16 then some (tab (2 ^ (x + y).toNat) fun n => numN (outsN gs os (x + y).toNat n)) else none
theorem truthF_len (x y : Int) (gs : List G3) (os : List Int) : ((truthF x y gs os).getD []).length ≤ 1024 := by
  unfold truthF
  split
  · rename_i h
    obtain ⟨h1, h2, h3⟩ := smallB_bd h
    simp only [Option.getD_some, tab_len]
    exact two_pow_small (by omega)
  · simp
/-- Two small circuits with the same numbers of inputs and outs. -/
def pairB (x y : Int) (gs : List G3) (os : List Int) (x2 y2 : Int) (hs : List G3) (ps : List Int) : Bool :=
  smallB x y gs os 40 && (smallB x2 y2 hs ps 40 && (decide (x = x2) && (decide (y = y2) && decide (os.length = ps.length))))
theorem pairB_bd {x y : Int} {gs : List G3} {os : List Int} {x2 y2 : Int} {hs : List G3} {ps : List Int} (h : pairB x y gs os x2 y2 hs ps = true) : smallB x y gs os 40 = true ∧ smallB x2 y2 hs ps 40 = true ∧ x = x2 ∧ y = y2 ∧ os.length = ps.length := by
  simp only [pairB, Bool.and_eq_true, decide_eq_true_eq] at h
  exact h
/-- The first input at which the two differ, or -1. -/
def uneqF (x y : Int) (gs : List G3) (os : List Int) (hs : List G3) (ps : List Int) : Int := uneq (outsN gs os (x + y).toNat) (outsN hs ps (x + y).toNat) (2 ^ (x + y).toNat)
def firstF (x y : Int) (gs : List G3) (os : List Int) (x2 y2 : Int) (hs : List G3) (ps : List Int) : Option Int :=
  if pairB x y gs os x2 y2 hs ps = true ∧ 0 ≤ uneqF x y gs os hs ps then some (uneqF x y gs os hs ps) else none

end Go.Proofs.Ytadgmbkpbgcdjaa
