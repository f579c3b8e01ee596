/- Outs picked among moved wires, in plain words. No condition. -/
import Derived.Test.YtgenehiiakdadaaQApd
namespace Go.Proofs.Ytgenehiiakdadaa
open Go.RowKit
set_option linter.unusedVariables false
set_option linter.unusedSimpArgs false

theorem mvs_congr {f h : Int → Int} {gs : List G3} {n : Int} {k : Nat} (hg : ∀ j, j < k → GateIs (gg gs j) n) (hk : k ≤ gs.length) (hfh : ∀ z, 0 ≤ z → z < n → f z = h z) : mvs f gs k = mvs h gs k := by
  induction k with
  | zero => rfl
  | succ k ih => rw [mvs_succ _ (by omega), mvs_succ _ (by omega), ih (fun j hj => hg j (by omega)) (by omega), mvG_congr (hg k (by omega)) hfh]
theorem pick_mws {ws os : List Int} {next : Int} {k no : Nat} {f : Int → Int} (h : os.length = no) (hb : ∀ j, j < no → 0 ≤ gi os j ∧ gi os j < ws.length + k) (hf : ∀ z : Int, 0 ≤ z → z < ws.length + k → wmap ws next z = f z) : pick (mws ws next k) os = mvo f os no := by
  subst h
  unfold pick mvo
  rw [List.take_length]
  refine List.map_congr_left fun o ho => ?_
  obtain ⟨j, hj, rfl⟩ := List.getElem_of_mem ho
  have := hb j hj
  rw [gi_lt hj] at this
  rw [mws_at this.1 this.2, hf _ this.1 this.2]

end Go.Proofs.Ytgenehiiakdadaa
