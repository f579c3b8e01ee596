/- The contract of the program's RunCompiled. Texts below 2^21 bytes. -/
import Derived.Test.YtjjphaiomaiilaaGreatQXFi3
import Derived.Test.YtjjphaiomaiilaaGreatQXFi2
import Derived.Test.YtjjphaiomaiilaaGreatQA
namespace Go.Proofs.YtjjphaiomaiilaaGreat
open Go.RowKit
set_option linter.unusedVariables false
set_option linter.unusedSimpArgs false
def runB (l : List Ln) (bits : List Int) : List Int := pick (vals (cc l).g bits (cc l).g.length) (cc l).os
theorem runB_len (l : List Ln) (bits : List Int) : (runB l bits).length = (cc l).os.length := pick_len _ _
structure CiD (l : List Ln) : Prop where
  ng : (cc l).g.length ≤ 300
  no : (cc l).os.length ≤ 40
  gat : ∀ n : Nat, (n : Int) = sumI (insL l 0) + sumI (insL l 1) → gatesB n (cc l).g (cc l).g.length = true
  out : ∀ n : Nat, (n : Int) = sumI (insL l 0) + sumI (insL l 1) → allB 0 (((n + (cc l).g.length : Nat) : Int) - 1) (cc l).os = true
  offs : offs (outsL l) (outsL l).length = (cc l).os.length
  x : 0 ≤ sumI (insL l 0) ∧ sumI (insL l 0) ≤ 20
  y : 0 ≤ sumI (insL l 1) ∧ sumI (insL l 1) ≤ 20
theorem coB_data {l : List Ln} (h : coB l = true) : CiD l := by
  obtain ⟨hgd, hcb⟩ := coB_good h
  obtain ⟨hx, hy, hng, hno, hgat, hos⟩ := circB_parts hcb
  refine ⟨hng, hno, fun n hn => by rw [hn]; exact hgat, fun n hn => ?_, ?_, hx, hy⟩
  · have : (((n + (cc l).g.length : Nat) : Int) - 1) = sumI (insL l 0) + sumI (insL l 1) + (cc l).g.length - 1 := by omega
    rw [this]; exact hos
  · have h1 := offs_all (outsL_bd hgd.2.1)
    have h2 := coB_os hgd
    omega
theorem runB_bd {l : List Ln} (h : CiD l) {bits : List Int} (hb : allB 0 1 bits = true) (hl : (bits.length : Int) = sumI (insL l 0) + sumI (insL l 1)) : allB 0 1 (runB l bits) = true := by
  refine pick_bd (vals_bd (n := (bits.length : Int)) rfl hb _ _ (Nat.le_refl _) (h.gat _ hl)) ?_
  rw [vals_len]; exact h.out _ hl
end Go.Proofs.YtjjphaiomaiilaaGreat
