/- Contracts of makers' words: a gate, each kind of gate; spans. -/
import Derived.Test.YtadgmbkpbgcdjaaMk
import Derived.Test.YtadgmbkpbgcdjaaGad
namespace Go.Proofs.Ytadgmbkpbgcdjaa
open Go.RowKit
set_option linter.unusedVariables false
set_option linter.unusedSimpArgs false

end Go.Proofs.Ytadgmbkpbgcdjaa
