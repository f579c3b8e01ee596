/- Contracts of arithmetic circuits' small functions and of the tests whether one is valid. -/
import Derived.Test.YtgenehiiakdadaaQCirc
namespace Go.Proofs.Ytgenehiiakdadaa
open Go.RowKit
set_option linter.unusedVariables false
set_option linter.unusedSimpArgs false

/-- A gate is valid behind n wires. -/
def agateB (p : Int) (g : G3) (n : Int) : Bool :=
  if g.k = 0 ∨ g.k = 1 then inB 0 (n - 1) g.a && inB 0 (n - 1) g.b
  else if g.k = 2 then inB 0 (n - 1) g.a && inB 0 (p - 1) g.b
  else decide (g.k = 3) && (inB 0 (p - 1) g.a && decide (g.b = 0))
/-- The gates from place i on are valid behind n wires and the gates before. -/
def agatesB (p n : Int) (gs : List G3) (k : Nat) : Bool := (List.range k).all fun i => agateB p (gg gs i) (n + i)
theorem agatesB_succ (p n : Int) (gs : List G3) (k : Nat) : agatesB p n gs (k + 1) = (agatesB p n gs k && agateB p (gg gs k) (n + k)) := by
  simp [agatesB, List.range_succ]
theorem agatesB_false {p n : Int} {gs : List G3} {k m : Nat} (h : k < m) (hk : agateB p (gg gs k) (n + k) = false) : agatesB p n gs m = false := by
  rw [Bool.eq_false_iff]; intro hc
  have := List.all_eq_true.1 hc k (List.mem_range.2 h)
  rw [hk] at this; cases this
/-- An arithmetic circuit is valid. -/
def arB (p x y : Int) (gs : List G3) (os : List Int) : Bool :=
  primeB p && (inB 0 8 x && (inB 0 8 y && (decide (gs.length ≤ 100) && (decide (os.length ≤ 20) && (agatesB p (x + y) gs gs.length && allB 0 (x + y + gs.length - 1) os)))))

end Go.Proofs.Ytgenehiiakdadaa
