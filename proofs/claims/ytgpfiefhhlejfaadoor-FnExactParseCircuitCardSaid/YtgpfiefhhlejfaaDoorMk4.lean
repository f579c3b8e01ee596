/- Contracts of makers' comparisons and choices. -/
import Derived.Test.YtgpfiefhhlejfaaDoorMk3
namespace Go.Proofs.YtgpfiefhhlejfaaDoor
open Go.RowKit
set_option linter.unusedVariables false
set_option linter.unusedSimpArgs false

end Go.Proofs.YtgpfiefhhlejfaaDoor
