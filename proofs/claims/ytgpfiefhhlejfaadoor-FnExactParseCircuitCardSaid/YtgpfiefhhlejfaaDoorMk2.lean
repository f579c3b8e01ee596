/- Contracts of makers' words: a gate, each kind of gate; spans. -/
import Derived.Test.YtgpfiefhhlejfaaDoorMk
import Derived.Test.YtgpfiefhhlejfaaDoorGad
namespace Go.Proofs.YtgpfiefhhlejfaaDoor
open Go.RowKit
set_option linter.unusedVariables false
set_option linter.unusedSimpArgs false

end Go.Proofs.YtgpfiefhhlejfaaDoor
