/- Contracts of makers' words: a gate, each kind of gate; spans. Contracts of makers' adders. Contracts of makers' comparisons and choices. Contracts: spans, a circuit that is valid, a gadget. -/
import Derived.Test.YtgpfiefhhlejfaaDoorQMk
import Derived.Test.YtgpfiefhhlejfaaDoorQGad
import Derived.Test.YtgpfiefhhlejfaaDoorQEval
namespace Go.Proofs.YtgpfiefhhlejfaaDoor
open Go.RowKit
set_option linter.unusedVariables false
set_option linter.unusedSimpArgs false

end Go.Proofs.YtgpfiefhhlejfaaDoor

namespace Go.Proofs.YtgpfiefhhlejfaaDoor
open Go.RowKit
set_option linter.unusedVariables false
set_option linter.unusedSimpArgs false

/-- An adder returns its sums and the last carry; the maker has grown. -/
def RetAd (lo b : Nat) (x y : Int) (s : Ad) (G : Option Nat) (n : Nat) (w : World) (e : Ending) (w' : World) : Prop :=
  ∃ G' O oc, e = .returned (.tuple #[.slice O n oc, .int .i64 s.c]) ∧ Mk w' lo b x y s.g G' ∧ Mv b G G' w w' ∧ OM w' b G' w.heap.size (.slice O n oc) n s.o
/-- A maker's word returns a row of wires; the maker has grown. -/
def RetRow (lo b : Nat) (x y : Int) (gs : List G3) (os : List Int) (G : Option Nat) (w : World) (e : Ending) (w' : World) : Prop :=
  ∃ G' O oc, e = .returned (.slice O os.length oc) ∧ Mk w' lo b x y gs G' ∧ Mv b G G' w w' ∧ OM w' b G' w.heap.size (.slice O os.length oc) os.length os
theorem RetRow.mk_ {lo b n : Nat} {x y : Int} {gs : List G3} {os : List Int} {G G' : Option Nat} {w w' : World} {e : Ending} {O : Option Addr} {oc : Nat} (hn : os.length = n) (he : e = .returned (.slice O n oc)) (hm : Mk w' lo b x y gs G') (hv : Mv b G G' w w') (ho : OM w' b G' w.heap.size (.slice O n oc) n os) : RetRow lo b x y gs os G w e w' := by
  subst hn; exact ⟨G', O, oc, he, hm, hv, ho⟩
theorem RetRow.open_ {lo b n : Nat} {x y : Int} {gs : List G3} {os : List Int} {G : Option Nat} {w w' : World} {e : Ending} (h : RetRow lo b x y gs os G w e w') (hn : os.length = n) :
    ∃ G' O oc, e = .returned (.slice O n oc) ∧ Mk w' lo b x y gs G' ∧ Mv b G G' w w' ∧ OM w' b G' w.heap.size (.slice O n oc) n os := by
  subst hn; exact h

end Go.Proofs.YtgpfiefhhlejfaaDoor

namespace Go.Proofs.YtgpfiefhhlejfaaDoor
open Go.RowKit
set_option linter.unusedVariables false
set_option linter.unusedSimpArgs false

end Go.Proofs.YtgpfiefhhlejfaaDoor

namespace Go.Proofs.YtgpfiefhhlejfaaDoor
open Go.RowKit
set_option linter.unusedVariables false
set_option linter.unusedSimpArgs false

end Go.Proofs.YtgpfiefhhlejfaaDoor
