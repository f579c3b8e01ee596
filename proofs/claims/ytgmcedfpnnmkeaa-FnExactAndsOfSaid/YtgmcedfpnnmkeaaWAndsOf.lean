/- The walk of the law FnExactAndsOf: whatever its arguments read as, it returns true and leaves what was there. No condition. -/
import Derived.Test.YtgmcedfpnnmkeaaChg
import Derived.Test.YtgmcedfpnnmkeaaKc2
namespace Go.Proofs.Ytgmcedfpnnmkeaa.lawAndsOf
open Go.RowKit
set_option linter.unusedVariables false
set_option linter.unusedSimpArgs false

set_option maxRecDepth 100000 in
set_option maxHeartbeats 8000000 in
theorem walk (a0 : Int) (a1 : Int) (w : World) (h0 : (Lit.int .i64 a0).wf = true) (h1 : (Lit.int .i64 a1).wf = true) :
    Calls Try.prog 15 #[.int .i64 a0, .int .i64 a1] w fun e w' => e = .returned (.bool true) ∧ Below w.heap.size w w' := by
  go_enter Try.func15, Try.ntmps15
  go_wp2_with fail
  refine (spec_AndsOf_any a0 a1 _  ).mono ?_
  rintro e w1 ⟨rfl, b1⟩
  have z1 := b1.size
  have B1 := b1; clear b1
  go_wp2_with fail
  refine (AndsOf_any a0 a1 _  ).mono ?_
  rintro e w2 ⟨rfl, b2⟩
  have z2 := b2.size
  have B2 := B1.trans (b2.mono B1.size); clear b2 B1
  go_wp2
  go_ret
  exact ⟨rfl, B2⟩

end Go.Proofs.Ytgmcedfpnnmkeaa.lawAndsOf
