/- Contract of appended: a circuit's gates and outs, moved by a closure, behind a circuit of the call's own. -/
import Derived.Test.YtjjphaiomaiilaaQBsd
import Derived.Test.YtjjphaiomaiilaaQCmv
import Derived.Test.YtjjphaiomaiilaaQAlt
namespace Go.Proofs.Ytjjphaiomaiilaa
open Go.RowKit
set_option linter.unusedVariables false
set_option linter.unusedSimpArgs false

/-- The first k outs moved. -/
def mvo (to : Int → Int) (os : List Int) (k : Nat) : List Int := (os.take k).map to
theorem mvo_succ (to : Int → Int) {os : List Int} {k : Nat} (h : k < os.length) : mvo to os (k + 1) = mvo to os k ++ [to (gi os k)] := by
  unfold mvo; rw [gi_take_snoc h, List.map_append]; rfl
theorem mvo_len (to : Int → Int) {os : List Int} {k : Nat} (h : k ≤ os.length) : (mvo to os k).length = k := by simp [mvo]; omega
/-- What the call of appended returns: the circuit's gates and the moved ones behind them; the moved outs; nothing else has turned. -/
def ApdR (w : World) (lo : Nat) (x y : Int) (Ag : Option Addr) (ng cg : Nat) (Ao : Option Addr) (no co : Nat) (gs : List G3) (os : List Int) (mg mo : Nat) (e : Ending) (w' : World) : Prop :=
  ∃ A' c' O oc, e = .returned (.tuple #[.agg #[.int .i64 x, .int .i64 y, .slice A' (ng + mg) c', .slice Ao no co], .slice O mo oc]) ∧ OwnG w' lo w'.heap.size (.slice A' (ng + mg) c') (ng + mg) gs ∧ Own w' w.heap.size w'.heap.size (.slice O mo oc) mo os ∧ Apart (.slice A' (ng + mg) c') (.slice O mo oc) ∧
    ((Value.slice A' (ng + mg) c').ownBlock = (Value.slice Ag ng cg).ownBlock ∨ ∀ g, (Value.slice A' (ng + mg) c').ownBlock = some g → w.heap.size ≤ g) ∧ w.grownBy w' (Value.slice Ag ng cg).ownBlock
theorem Own.newI (w : World) (lo : Nat) (hl : lo ≤ w.heap.size) : Own (w.alloc (.cells #[] 3)) lo (w.heap.size + 1) (.slice (some ⟨w.heap.size, 0, none⟩) 0 0) 0 [] := by
  refine ⟨?_, fun g hg => by simp [Value.ownBlock] at hg; omega⟩
  have h := World.ownsRow_lit (base := lo) (e := 3) (size := 1) w #[] 0 hl (by unfold maxLen; omega) (by simp)
  simpa using h

end Go.Proofs.Ytjjphaiomaiilaa
