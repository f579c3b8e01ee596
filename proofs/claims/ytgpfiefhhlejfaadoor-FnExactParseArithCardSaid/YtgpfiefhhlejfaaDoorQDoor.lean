/- What the rows of laws that read package-level variables share: the tables lie as the premise says. -/
import Derived.Test.YtgpfiefhhlejfaaDoorQRow
import Derived.Test.YtgpfiefhhlejfaaDoorQCtx
import Derived.Test.YtgpfiefhhlejfaaDoorQAtx
import Derived.Stop.LaidErr
import Derived.LaidHandle
import Derived.MakeChecks
import Derived.OpenVars
import Derived.LaidMore
import Derived.ChangeVars
import Derived.Handed
import Derived.Stop.Joined
namespace Go.Proofs.YtgpfiefhhlejfaaDoor
open Go.ChangeShapes Go.WideShapes Go.ChangeAt Go.RowKit
set_option linter.unusedVariables false
set_option linter.unusedSimpArgs false

/-- An array of strings that reads as a table holds the table's strings, cell for cell. -/
theorem strs_of_tab {H : Type} {enc : TypeId × Value → H} {P : Program} {w : World} {base : Nat} {sp : Nat → Bool} {held : Bool} {fuel : Nat} {t e : TypeId} {n : Nat} {cs : List Value} {ss : List (List UInt8)} {p : List MemPlace}
    (ht : P.underlying t = some (.array n e)) (he : P.underlying e = some .string) (hce : P.cellsOf e = 1) (hct : P.cellsOf t = n)
    (h : DataW.trod enc P w base sp held fuel t cs = some (.agg (ss.map fun s => .lit (.string s)), p)) : cs = ss.map fun s => Value.string (bs s) := by
  cases fuel with
  | zero => simp [DataW.trod] at h
  | succ fuel =>
    simp only [DataW.trod, ht, hce, hct, Nat.mul_one] at h
    split at h
    · rename_i hl
      obtain ⟨xs, hm, hx⟩ := Option.map_eq_some_iff.1 h
      have hxs : xs.map (·.1) = ss.map fun s => (DataW.lit (.string s) : DataW H) := by
        have := congrArg Prod.fst hx
        simpa using this
      have hxl : xs.length = n := by simpa using Lib.mapM_length hm
      have hzl : ss.length = n := by
        have := congrArg List.length hxs
        simp at this
        omega
      apply List.ext_getElem?
      intro i
      by_cases hi : i < n
      · obtain ⟨b, hb, hf⟩ := Lib.mapM_at hm i i (by simp [hi])
        obtain ⟨z, hc, rfl, _⟩ := DataW.trod_string he hf
        have h1 : cs[i]? = some (.string z) := by
          have := congrArg (·[0]?) hc
          simpa [List.getElem?_take, List.getElem?_drop] using this
        have h2 : (xs.map (·.1))[i]? = some (DataW.lit (.string z.data.toList) : DataW H) := by simp [hb]
        rw [hxs] at h2
        simp only [List.getElem?_map, Option.map_eq_some_iff, DataW.lit.injEq, Lit.string.injEq] at h2
        obtain ⟨z', hz', hzz⟩ := h2
        subst hzz
        simp [h1, hz', bs_data]
      · rw [List.getElem?_eq_none (by omega), List.getElem?_eq_none (by simp; omega)]
    · cases h
theorem strs_of_head {P : Program} {W : World} {name : String} {ss : List (List UInt8)} {rest : List (String × DataW Unit)} {g : Nat} {t e : TypeId} {n : Nat}
    (hg : P.globalNamed name = some g) (hty : (P.globals[g]?).map (·.type) = some t) (ht : P.underlying t = some (.array n e)) (he : P.underlying e = some .string) (hce : P.cellsOf e = 1) (hct : P.cellsOf t = n)
    (h : laidMet P ((name, .agg (ss.map fun s => .lit (.string s))) :: rest) W) : W.var? P name = some (ss.map fun s => Value.string (bs s)).toArray := by
  obtain ⟨ps, ⟨g', t', cs, fuel, p, q, hg', ht', hvar, hd, _, _⟩, _⟩ := h
  obtain rfl := Option.some.inj (hg.symm.trans hg')
  obtain rfl := Option.some.inj (hty.symm.trans ht')
  rw [hvar, ← strs_of_tab ht he hce hct hd]
theorem var_lt {P : Program} {W : World} {n : String} {g : Nat} {cs : Array Value} (hg : P.globalNamed n = some g) (h : W.var? P n = some cs) : g < W.heap.size := by
  unfold World.var? at h
  rw [hg] at h
  simp only [Option.bind_some] at h
  cases hh : W.heap[g]? with
  | none => rw [hh] at h; cases h
  | some o => exact (Array.getElem?_eq_some_iff.1 hh).1

theorem PT_of {W : World} {rest : List (String × DataW Unit)} (h : laidMet Tryd.prog ((tabName, Rows.laid_internal_strconv_uint64pow10) :: rest) W) : PT W := by
  have h1 : Lib.TabIs Tryd.prog W tabName .u64 Lib.pow10Tab := Lib.tabIs_of_head (k := .u64) (zs := Lib.pow10Tab) (rest := rest) tab_global (by kernel_rfl) Tryd.underlying125 Tryd.underlying111 (by kernel_rfl) (by kernel_rfl) h
  exact ⟨var_lt tab_global h1, h1⟩
/-- The name of the program's words of gates. -/
def gwName : String := Rows.fnExactCircuitTextSpec.vars.headD ""
theorem gw_global : Tryd.prog.globalNamed gwName = some 1 := by kernel_rfl
theorem GW_of {W : World} {rest : List (String × DataW Unit)} (h : laidMet Tryd.prog ((gwName, Rows.laid_loop_example_g00877_impl_gateWords) :: rest) W) : GWs W := by
  have h1 := strs_of_head (ss := [[120, 111, 114], [97, 110, 100], [110, 111, 116], [111, 110, 101]]) (rest := rest) gw_global (by kernel_rfl) Tryd.underlying65 Tryd.underlying9 (by kernel_rfl) (by kernel_rfl) h
  have hc := fun i => World.var?_cell gw_global h1 i
  exact ⟨var_lt gw_global h1, hc 0, hc 1, hc 2, hc 3⟩

theorem laid_ct {W : World} (h : laidMetH Tryd.prog Rows.fnExactCircuitTextRow.laid W) : PT W ∧ GWs W := by
  rw [MakeChecks.laidMetH_plain _ _ _ (by kernel_rfl)] at h
  exact ⟨PT_of h.tail.tail, GW_of h.tail.tail.tail⟩
theorem door_ct (os : Os) (args : Array Value) : laidMetH Tryd.prog Rows.fnExactCircuitTextRow.laid ((World.doorLaid Tryd.prog 400 os).forCall (fun _ _ => 0) ⟨#[], args, []⟩).memory :=
  laidMetH_of_parts3 (fuel := 8) (laidMet_of_run' 8 (by kernel_rfl) (by kernel_rfl)) (by kernel_rfl) (by kernel_rfl)

/-- The name of the program's words of arithmetic gates. -/
def awName : String := Rows.fnExactArithTextSpec.vars.headD ""
theorem aw_global : Tryd.prog.globalNamed awName = some 0 := by kernel_rfl
theorem AW_of {W : World} {rest : List (String × DataW Unit)} (h : laidMet Tryd.prog ((awName, Rows.laid_loop_example_g00877_impl_arithWords) :: rest) W) : AWs W := by
  have h1 := strs_of_head (ss := [[97, 100, 100], [109, 117, 108], [115, 99, 97, 108, 101], [99, 111, 110, 115, 116]]) (rest := rest) aw_global (by kernel_rfl) Tryd.underlying65 Tryd.underlying9 (by kernel_rfl) (by kernel_rfl) h
  have hc := fun i => World.var?_cell aw_global h1 i
  refine ⟨var_lt aw_global h1, fun k hk => ?_⟩
  have h : k = 0 ∨ k = 1 ∨ k = 2 ∨ k = 3 := by omega
  rcases h with rfl | rfl | rfl | rfl
  · exact hc 0
  · exact hc 1
  · exact hc 2
  · exact hc 3
theorem laid_at {W : World} (h : laidMetH Tryd.prog Rows.fnExactArithTextRow.laid W) : PT W ∧ AWs W := by
  rw [MakeChecks.laidMetH_plain _ _ _ (by kernel_rfl)] at h
  exact ⟨PT_of h.tail.tail, AW_of h.tail.tail.tail⟩
theorem door_at (os : Os) (args : Array Value) : laidMetH Tryd.prog Rows.fnExactArithTextRow.laid ((World.doorLaid Tryd.prog 400 os).forCall (fun _ _ => 0) ⟨#[], args, []⟩).memory :=
  laidMetH_of_parts3 (fuel := 8) (laidMet_of_run' 8 (by kernel_rfl) (by kernel_rfl)) (by kernel_rfl) (by kernel_rfl)

end Go.Proofs.YtgpfiefhhlejfaaDoor
