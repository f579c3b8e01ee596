/- Contracts of the values of a circuit's wires, of an arithmetic circuit's wires, and of the elements of a list at places. -/
import Derived.Test.YtgenehiiakdadaaQVal
import Derived.Test.YtgenehiiakdadaaQDigest
import Derived.StillTailTactics
namespace Go.Proofs.Ytgenehiiakdadaa
open Go.RowKit
set_option linter.unusedVariables false
set_option linter.unusedSimpArgs false

/-- A region whose order is open: its first n operations read, the others go in one order. -/
theorem wp_region_tail {P : Program} {id : Nat} {Q : Exit → Act → World → Prop} {a : Act} {w : World} {l : List Oper} (n : Nat) (hm : P.follows .mixedOrders = true) (hB : Region.lexTailB .any l.toArray n = true)
    (h : wpStill P l.toArray (w.drewN 1) (fun a' => wpList P l.toArray Q (l.drop n) a' (w.drewN 1)) (l.take n) a) : (Code.region id l.toArray true).wp P Q a w :=
  wp_region_still_tail n hm hB h

end Go.Proofs.Ytgenehiiakdadaa
