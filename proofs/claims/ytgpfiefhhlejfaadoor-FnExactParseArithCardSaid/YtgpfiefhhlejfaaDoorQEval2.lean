/- Contracts of the values of an arithmetic circuit's wires, and of the elements of a list at places. -/
import Derived.Test.YtgpfiefhhlejfaaDoorQEval
namespace Go.Proofs.YtgpfiefhhlejfaaDoor
open Go.RowKit
set_option linter.unusedVariables false
set_option linter.unusedSimpArgs false

end Go.Proofs.YtgpfiefhhlejfaaDoor
