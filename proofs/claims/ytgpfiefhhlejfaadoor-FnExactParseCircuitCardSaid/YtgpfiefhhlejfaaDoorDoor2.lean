/- What the rows of laws that read texts share: the library's variables lie as the premise says. -/
import Derived.Test.YtgpfiefhhlejfaaDoorDoor
import Derived.Test.YtgpfiefhhlejfaaDoorStr
import Derived.HandedShaped
import Derived.Lay
import Derived.LaidLaws
namespace Go.Proofs.YtgpfiefhhlejfaaDoor
open Go.ChangeShapes Go.WideShapes Go.ChangeAt Go.RowKit
set_option linter.unusedVariables false
set_option linter.unusedSimpArgs false

theorem handed_and_shaped {H : Type} {enc : TypeId × Value → H} {a : Assume} {C : Checked} {os : Os} {f : FuncId} {fn : Func} {s : ChangeSpec} {conds : List PathCond} {apart fresh handsOn again : Bool} {X : World → Array Value → Prop}
    (hX : ∀ (w w' : World) (args : Array Value), w.heap = w'.heap → X w args → X w' args)
    (own : ownKnob C.prog.godebug = none) (started : os.Started) (noInit : C.prog.inits.idxOf? f = none) (hfn : C.prog.funcs[f]? = some fn)
    (witness : ∃ (w : World) (tape : Tape) (i : Input), w.os = os ∧ (w.forCall tape i).Shaped C.prog ∧ i.vars = [] ∧ Input.okWide C.prog (w.forCall tape i) .any w.heap.size f i ∧
      ((s.pre enc C.prog fn conds apart (w.forCall tape i).memory i.args ∧ X (w.forCall tape i).memory i.args) ∧ sizedMet enc C.prog fn (OpenSpec.ofChange s) apart (w.forCall tape i).memory i.args) ∧ a.holds C.prog (lone (Frame.enter C.prog f i.args .normal) [] (w.forCall tape i)))
    (contract : ∀ (W : World) (base : Nat) (args : Array Value) (ds gs : List (DataW H)) (before : List MemPlace),
      (∀ (j : Nat) t v, fn.params[j]? = some t → args[j]? = some v → Value.okWide C.prog W .any base t v) →
      DataW.Whole enc C.prog fn.params.toList s.vars apart W args.toList ds gs before →
      conds.all (PathCond.test C.prog ⟨fn.params.toList, ds, s.plain.varTypes C.prog, gs⟩) = true →
      W.ShapedOpen C.prog → X W args →
      a.holds C.prog (lone (Frame.enter C.prog f args .normal) [] W) →
      Calls C.prog f args W fun e W' => ∃ v, e = .returned v ∧ s.post enc C.prog fn apart fresh handsOn again W args v W') :
    ReturnsInHanded a C os f .any (fun w args => (s.pre enc C.prog fn conds apart w args ∧ X w args) ∧ sizedMet enc C.prog fn (OpenSpec.ofChange s) apart w args) (s.post enc C.prog fn apart fresh handsOn again) := by
  refine returnsInHanded_of_calls own started noInit witness ?_
  intro w tape i _ hsh _ hok hpre hholds
  obtain ⟨_, _, _, fn', hfn', _, _, _, _, hval⟩ := hok
  have e : fn' = fn := Option.some.inj (hfn'.symm.trans hfn)
  subst e
  obtain ⟨⟨⟨ds, gs, before, hw, hc⟩, hx⟩, hz⟩ := hpre
  have hw' := DataW.Whole.of_heap (w' := w.forCall tape i) (by rfl) hw
  refine (contract (w.forCall tape i) w.heap.size i.args ds gs before hval hw' hc hsh (hX _ _ _ (by rfl) hx) hholds).mono fun e W' ⟨v, he, hp⟩ => ?_
  subst he
  exact ChangeSpec.post_blind hp

theorem ML_of {W : World} (h : W.ShapedOpen Tryd.prog) : ML W := Tryd.laysM147.s1_3 W h

/-- The name of the type of the library's errors. -/
def esName : String := match (Rows.laid_strconv_ErrSyntax (H := Unit)) with | .iface nm _ => nm | _ => ""
theorem es_row (u : TypeId) (h : Tryd.prog.typeName? 3 u = some esName) : u = 137 :=
  typeName_ptr_named (nm := "errors.errorString") (by kernel_rfl) (by kernel_rfl) (by decide) u (h.trans (congrArg some (by decide +kernel)))
theorem EV_of {W : World} {rest : List (String × DataW Unit)} (h : laidMet Tryd.prog (("strconv.ErrRange", Rows.laid_strconv_ErrRange) :: ("strconv.ErrSyntax", Rows.laid_strconv_ErrSyntax) :: rest) W) : EV W := by
  obtain ⟨a1, s1, h1, _⟩ := laid_sentinel (P := Tryd.prog) (nm := esName) (tp := 137) (te := 139) (ts := 9) h rng_global (by kernel_rfl) Tryd.underlying92 es_row Tryd.underlying137 Tryd.underlying139 rfl rfl Tryd.underlying9 (by kernel_rfl) (by kernel_rfl)
  obtain ⟨a2, s2, h2, _⟩ := laid_sentinel (P := Tryd.prog) (nm := esName) (tp := 137) (te := 139) (ts := 9) h.tail syn_global (by kernel_rfl) Tryd.underlying92 es_row Tryd.underlying137 Tryd.underlying139 rfl rfl Tryd.underlying9 (by kernel_rfl) (by kernel_rfl)
  exact ⟨⟨_, _, h2⟩, ⟨_, _, h1⟩, var_lt syn_global h2, var_lt rng_global h1⟩

theorem laid_pc {W : World} (h : laidMetH Tryd.prog Rows.fnExactParseCircuitRow.laid W) : PT W ∧ EV W ∧ GWs W := by
  rw [MakeChecks.laidMetH_plain _ _ _ (by kernel_rfl)] at h
  exact ⟨PT_of h.tail.tail, EV_of h.tail.tail.tail.tail, GW_of h.tail.tail.tail.tail.tail.tail⟩
theorem door_pc (os : Os) (args : Array Value) : laidMetH Tryd.prog Rows.fnExactParseCircuitRow.laid ((World.laidAll Tryd.prog os Rows.fnExactParseCircuitRow.laid).forCall (fun _ _ => 0) ⟨#[], args, []⟩).memory := by
  rw [MakeChecks.laidMetH_plain _ _ _ (by kernel_rfl)]
  exact laidMet_laidAll _ (by kernel_rfl) (by kernel_rfl)

theorem laid_pa {W : World} (h : laidMetH Tryd.prog Rows.fnExactParseArithRow.laid W) : PT W ∧ EV W ∧ AWs W := by
  rw [MakeChecks.laidMetH_plain _ _ _ (by kernel_rfl)] at h
  exact ⟨PT_of h.tail.tail, EV_of h.tail.tail.tail.tail, AW_of h.tail.tail.tail.tail.tail.tail⟩
theorem door_pa (os : Os) (args : Array Value) : laidMetH Tryd.prog Rows.fnExactParseArithRow.laid ((World.laidAll Tryd.prog os Rows.fnExactParseArithRow.laid).forCall (fun _ _ => 0) ⟨#[], args, []⟩).memory := by
  rw [MakeChecks.laidMetH_plain _ _ _ (by kernel_rfl)]
  exact laidMet_laidAll _ (by kernel_rfl) (by kernel_rfl)

end Go.Proofs.YtgpfiefhhlejfaaDoor
