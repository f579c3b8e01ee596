/- Contracts: spans, a circuit that is valid, a gadget. -/
import Derived.Test.YtgpfiefhhlejfaaDoorMk4
namespace Go.Proofs.YtgpfiefhhlejfaaDoor
open Go.RowKit
set_option linter.unusedVariables false
set_option linter.unusedSimpArgs false

end Go.Proofs.YtgpfiefhhlejfaaDoor
