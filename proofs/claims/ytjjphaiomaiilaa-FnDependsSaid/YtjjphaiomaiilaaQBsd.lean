/- Contracts of BesideCircuit's closures. -/
import Derived.Test.YtjjphaiomaiilaaQMvd
namespace Go.Proofs.Ytjjphaiomaiilaa
open Go.RowKit
set_option linter.unusedVariables false
set_option linter.unusedSimpArgs false

/-- Where the wires of the first circuit, of the second one, go. -/
def bes1 (x y u v z : Int) : Int := if z < x then z else if z < x + y then z + u else z + (u + v)
def bes2 (x y u v : Int) (ng : Nat) (z : Int) : Int := if z < u then x + z else if z < u + v then x + y + z else x + y + ng + z

end Go.Proofs.Ytjjphaiomaiilaa
