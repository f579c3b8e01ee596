/- Contracts of the tables of a circuit's outs: all inputs in turn. -/
import Derived.Test.YtadgmbkpbgcdjaaTable
import Derived.Deep.RegionLaw
namespace Go.Proofs.Ytadgmbkpbgcdjaa
open Go.RowKit
set_option linter.unusedVariables false
set_option linter.unusedSimpArgs false

/-- A circuit's k-th out for all inputs. -/
def colN (gs : List G3) (os : List Int) (X k : Nat) : List Int := tab (2 ^ X) fun n => gi (outsN gs os X n) k
theorem colN_len (gs : List G3) (os : List Int) (X k : Nat) : (colN gs os X k).length = 2 ^ X := tab_len _ _
/-- A circuit's outs for all inputs. -/
def tabL (N : Nat) (f : Nat → List Int) : List (List Int) := (List.range N).map f
theorem tabL_len (N : Nat) (f : Nat → List Int) : (tabL N f).length = N := by simp [tabL]
theorem tabL_snoc (N : Nat) (f : Nat → List Int) : tabL (N + 1) f = tabL N f ++ [f N] := by simp [tabL, List.range_succ]
theorem gl_tabL {N k : Nat} {f : Nat → List Int} (h : k < N) : gl (tabL N f) k = f k := by simp [gl, tabL, h]

end Go.Proofs.Ytadgmbkpbgcdjaa
