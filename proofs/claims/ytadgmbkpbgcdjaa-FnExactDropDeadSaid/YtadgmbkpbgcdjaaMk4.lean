/- Contracts of makers' comparisons and choices. -/
import Derived.Test.YtadgmbkpbgcdjaaMk3
namespace Go.Proofs.Ytadgmbkpbgcdjaa
open Go.RowKit
set_option linter.unusedVariables false
set_option linter.unusedSimpArgs false

end Go.Proofs.Ytadgmbkpbgcdjaa
