/- Makers of the reference whose circuit has outs: gates; the drawn circuits lean on them. -/
import Derived.Stop.LaidErr
import Derived.LaidHandle
import Derived.MakeChecks
import Derived.OpenVars
import Derived.LaidMore
import Derived.ChangeVars
import Derived.Handed
import Derived.Stop.Joined
import Derived.HandedShaped
import Derived.Lay
import Derived.LaidLaws
import Derived.SizedLaws
import Derived.Test.YtnhmfedegfcflaaGreatDoorQR08
namespace Go.Proofs.YtnhmfedegfcflaaGreatDoor
open Go.ChangeShapes Go.WideShapes Go.ChangeAt Go.RowKit
set_option linter.unusedVariables false
set_option linter.unusedSimpArgs false
theorem strs_of_tab {H : Type} {enc : TypeId × Value → H} {P : Program} {w : World} {base : Nat} {sp : Nat → Bool} {held : Bool} {fuel : Nat} {t e : TypeId} {n : Nat} {cs : List Value} {ss : List (List UInt8)} {p : List MemPlace}
 (ht : P.underlying t = some (.array n e)) (he : P.underlying e = some .string) (hce : P.cellsOf e = 1) (hct : P.cellsOf t = n)
 (h : DataW.trod enc P w base sp held fuel t cs = some (.agg (ss.map fun s => .lit (.string s)), p)) : cs = ss.map fun s => Value.string (bs s) := by
 cases fuel with
 | zero => simp [DataW.trod] at h
 | succ fuel =>
  simp only [DataW.trod, ht, hce, hct, Nat.mul_one] at h
  split at h
  ·rename_i hl
   obtain ⟨xs, hm, hx⟩ := Option.map_eq_some_iff.1 h
   have hxs : xs.map (·.1) = ss.map fun s => (DataW.lit (.string s) : DataW H) := by
    have := congrArg Prod.fst hx
    simpa using this
   have hxl : xs.length = n := by simpa using Lib.mapM_length hm
   have hzl : ss.length = n := by
    have := congrArg List.length hxs
    simp at this
    omega
   apply List.ext_getElem?
   intro i
   by_cases hi : i < n
   ·obtain ⟨b, hb, hf⟩ := Lib.mapM_at hm i i (by simp [hi])
    obtain ⟨z, hc, rfl, _⟩ := DataW.trod_string he hf
    have h1 : cs[i]? = some (.string z) := by
     have := congrArg (·[0]?) hc
     simpa [List.getElem?_take, List.getElem?_drop] using this
    have h2 : (xs.map (·.1))[i]? = some (DataW.lit (.string z.data.toList) : DataW H) := by simp [hb]
    rw [hxs] at h2
    simp only [List.getElem?_map, Option.map_eq_some_iff, DataW.lit.injEq, Lit.string.injEq] at h2
    obtain ⟨z', hz', hzz⟩ := h2
    subst hzz
    simp [h1, hz', bs_data]
   ·rw [List.getElem?_eq_none (by omega), List.getElem?_eq_none (by simp; omega)]
  ·cases h
theorem strs_of_head {P : Program} {W : World} {name : String} {ss : List (List UInt8)} {rest : List (String × DataW Unit)} {g : Nat} {t e : TypeId} {n : Nat}
 (hg : P.globalNamed name = some g) (hty : (P.globals[g]?).map (·.type) = some t) (ht : P.underlying t = some (.array n e)) (he : P.underlying e = some .string) (hce : P.cellsOf e = 1) (hct : P.cellsOf t = n)
 (h : laidMet P ((name, .agg (ss.map fun s => .lit (.string s))) :: rest) W) : W.var? P name = some (ss.map fun s => Value.string (bs s)).toArray := by
 obtain ⟨ps, ⟨g', t', cs, fuel, p, q, hg', ht', hvar, hd, _, _⟩, _⟩ := h
 obtain rfl := Option.some.inj (hg.symm.trans hg')
 obtain rfl := Option.some.inj (hty.symm.trans ht')
 rw [hvar, ← strs_of_tab ht he hce hct hd]
theorem var_lt {P : Program} {W : World} {n : String} {g : Nat} {cs : Array Value} (hg : P.globalNamed n = some g) (h : W.var? P n = some cs) : g < W.heap.size := by
 unfold World.var? at h
 rw [hg] at h
 simp only [Option.bind_some] at h
 cases hh : W.heap[g]? with
 | none => rw [hh] at h; cases h
 | some o => exact (Array.getElem?_eq_some_iff.1 hh).1
theorem PT_of {W : World} {rest : List (String × DataW Unit)} (h : laidMet Tryz.prog ((tabName, Rows.laid_internal_strconv_uint64pow10) :: rest) W) : PT W := by
 have h1 : Lib.TabIs Tryz.prog W tabName .u64 Lib.pow10Tab := Lib.tabIs_of_head (k := .u64) (zs := Lib.pow10Tab) (rest := rest) tab_global (by kernel_rfl) Tryz.underlying146 Tryz.underlying57 (by kernel_rfl) (by kernel_rfl) h
 exact ⟨var_lt tab_global h1, h1⟩
def gwName : String := Rows.fnCircuitsSpec.vars.headD ""
theorem gw_global : Tryz.prog.globalNamed gwName = some 0 := by kernel_rfl
theorem GW_of {W : World} {rest : List (String × DataW Unit)} (h : laidMet Tryz.prog ((gwName, Rows.laid_loop_example_g00877_impl_gateWords) :: rest) W) : GWs W := by
 have h1 := strs_of_head (ss := [[120, 111, 114], [97, 110, 100], [110, 111, 116], [111, 110, 101]]) (rest := rest) gw_global (by kernel_rfl) Tryz.underlying81 Tryz.underlying9 (by kernel_rfl) (by kernel_rfl) h
 have hc := fun i => World.var?_cell gw_global h1 i
 exact ⟨var_lt gw_global h1, hc 0, hc 1, hc 2, hc 3⟩
theorem handed_shaped_sized {H : Type} {enc : TypeId × Value → H} {a : Assume} {C : Checked} {os : Os} {f : FuncId} {fn : Func} {s : ChangeSpec} {conds : List PathCond} {apart fresh handsOn again : Bool} {X : World → Array Value → Prop}
 (hX : ∀ (w w' : World) (args : Array Value), w.heap = w'.heap → X w args → X w' args)
 (own : ownKnob C.prog.godebug = none) (started : os.Started) (noInit : C.prog.inits.idxOf? f = none) (hfn : C.prog.funcs[f]? = some fn)
 (witness : ∃ (w : World) (tape : Tape) (i : Input), w.os = os ∧ (w.forCall tape i).Shaped C.prog ∧ i.vars = [] ∧ Input.okWide C.prog (w.forCall tape i) .any w.heap.size f i ∧
  ((s.pre enc C.prog fn conds apart (w.forCall tape i).memory i.args ∧ X (w.forCall tape i).memory i.args) ∧ sizedMet enc C.prog fn (OpenSpec.ofChange s) apart (w.forCall tape i).memory i.args) ∧ a.holds C.prog (lone (Frame.enter C.prog f i.args .normal) [] (w.forCall tape i)))
 (contract : ∀ (W : World) (base : Nat) (args : Array Value) (ds gs : List (DataW H)) (before : List MemPlace),
  (∀ (j : Nat) t v, fn.params[j]? = some t → args[j]? = some v → Value.okWide C.prog W .any base t v) →
  DataW.Whole enc C.prog fn.params.toList s.vars apart W args.toList ds gs before →
  conds.all (PathCond.test C.prog ⟨fn.params.toList, ds, s.plain.varTypes C.prog, gs⟩) = true →
  (DataW.weightsEach C.prog (fn.params.toList ++ s.plain.varTypes C.prog) (ds ++ gs)).all (· ≤ reachBytes) = true →
  W.ShapedOpen C.prog → X W args →
  a.holds C.prog (lone (Frame.enter C.prog f args .normal) [] W) →
  Calls C.prog f args W fun e W' => ∃ v, e = .returned v ∧ s.post enc C.prog fn apart fresh handsOn again W args v W') :
 ReturnsInHanded a C os f .any (fun w args => (s.pre enc C.prog fn conds apart w args ∧ X w args) ∧ sizedMet enc C.prog fn (OpenSpec.ofChange s) apart w args) (s.post enc C.prog fn apart fresh handsOn again) := by
 refine returnsInHanded_of_calls own started noInit witness ?_
 intro w tape i _ hsh _ hok hpre hholds
 obtain ⟨_, _, _, fn', hfn', _, _, _, _, hval⟩ := hok
 have e : fn' = fn := Option.some.inj (hfn'.symm.trans hfn)
 subst e
 obtain ⟨⟨⟨ds, gs, before, hw, hc⟩, hx⟩, hz⟩ := hpre
 have hw' := DataW.Whole.of_heap (w' := w.forCall tape i) (by rfl) hw
 refine (contract (w.forCall tape i) w.heap.size i.args ds gs before hval hw' hc (hz.weights hw) hsh (hX _ _ _ (by rfl) hx) hholds).mono fun e W' ⟨v, he, hp⟩ => ?_
 subst he
 exact ChangeSpec.post_blind hp
theorem ML_of {W : World} (h : W.ShapedOpen Tryz.prog) : ML W := Tryz.laysM147.s1_3 W h
def esName : String := match (Rows.laid_strconv_ErrSyntax (H := Unit)) with | .iface nm _ => nm | _ => ""
theorem es_row (u : TypeId) (h : Tryz.prog.typeName? 3 u = some esName) : u = 142 :=
 typeName_ptr_named (nm := "errors.errorString") (by kernel_rfl) (by kernel_rfl) (by decide) u (h.trans (congrArg some (by decide +kernel)))
theorem EV_of {W : World} {rest : List (String × DataW Unit)} (h : laidMet Tryz.prog (("strconv.ErrRange", Rows.laid_strconv_ErrRange) :: ("strconv.ErrSyntax", Rows.laid_strconv_ErrSyntax) :: rest) W) : EV W := by
 obtain ⟨a1, s1, h1, _⟩ := laid_sentinel (P := Tryz.prog) (nm := esName) (tp := 142) (te := 144) (ts := 9) h rng_global (by kernel_rfl) Tryz.underlying98 es_row Tryz.underlying142 Tryz.underlying144 rfl rfl Tryz.underlying9 (by kernel_rfl) (by kernel_rfl)
 obtain ⟨a2, s2, h2, _⟩ := laid_sentinel (P := Tryz.prog) (nm := esName) (tp := 142) (te := 144) (ts := 9) h.tail syn_global (by kernel_rfl) Tryz.underlying98 es_row Tryz.underlying142 Tryz.underlying144 rfl rfl Tryz.underlying9 (by kernel_rfl) (by kernel_rfl)
 exact ⟨⟨_, _, h2⟩, ⟨_, _, h1⟩, var_lt syn_global h2, var_lt rng_global h1⟩
theorem laid_fc {W : World} (h : laidMetH Tryz.prog Rows.fnCircuitsRow.laid W) : PT W ∧ EV W ∧ GWs W := by
 rw [MakeChecks.laidMetH_plain _ _ _ (by kernel_rfl)] at h
 exact ⟨PT_of h.tail.tail, EV_of h.tail.tail.tail.tail, GW_of h.tail.tail.tail.tail.tail.tail⟩
theorem door_fc (os : Os) (args : Array Value) : laidMetH Tryz.prog Rows.fnCircuitsRow.laid ((World.laidAll Tryz.prog os Rows.fnCircuitsRow.laid).forCall (fun _ _ => 0) ⟨#[], args, []⟩).memory := by
 rw [MakeChecks.laidMetH_plain _ _ _ (by kernel_rfl)]
 exact laidMet_laidAll _ (by kernel_rfl) (by kernel_rfl)
end Go.Proofs.YtnhmfedegfcflaaGreatDoor
namespace Go.Proofs.YtnhmfedegfcflaaGreatDoor
open Go.RowKit
set_option linter.unusedVariables false
set_option linter.unusedSimpArgs false
def RY (w : World) (A : Option Addr) (n : Nat) : Prop := n ≤ 2097152 ∧ (0 < n → ∃ b o, A = some ⟨b, o, none⟩ ∧ b < w.heap.size ∧ ∀ i, i < n → ∃ x : Nat, x < 256 ∧ w.cell? ⟨b, o + i, none⟩ = some (.int .u8 x))
theorem RY.alt {S : Nat → Prop} {w w' : World} {A : Option Addr} {n : Nat} (h : RY w A n) (k : Alt S w w') (hs : 0 < n → ∀ b o, A = some ⟨b, o, none⟩ → ¬ S b) : RY w' A n :=
 ⟨h.1, fun hn => by
  obtain ⟨b, o, hA, hlt, hc⟩ := h.2 hn
  exact ⟨b, o, hA, Nat.lt_of_lt_of_le hlt k.size, fun j hj => by
   obtain ⟨x, hx, h1⟩ := hc j hj
   exact ⟨x, hx, k.cell_ h1 (hs hn b o hA)⟩⟩⟩
structure Cur (w : World) (b : Nat) (R : Nat → Prop) (T : Nat) : Prop where
 fz : Fz w b
 lt : b < w.heap.size
 got : ∃ (A : Option Addr) (n c p : Nat) (z : Int), w.cell? ⟨b, 0, none⟩ = some (.slice A n c) ∧ w.cell? ⟨b, 1, none⟩ = some (.int .i64 p) ∧ w.cell? ⟨b, 2, none⟩ = some (.int .u64 z) ∧ p ≤ T ∧ RY w A n ∧ (0 < n → ∀ q o, A = some ⟨q, o, none⟩ → R q ∧ q ≠ b)
theorem Cur.alt {S R : Nat → Prop} {w w' : World} {b T : Nat} (h : Cur w b R T) (k : Alt S w w') (hb : ¬ S b) (hs : ∀ i, R i → ¬ S i) : Cur w' b R T := by
 obtain ⟨A, n, c, p, z, c0, c1, c2, hp, hr, hq⟩ := h.got
 exact ⟨h.fz.alt k h.lt hb, Nat.lt_of_lt_of_le h.lt k.size, A, n, c, p, z, k.cell_ c0 hb, k.cell_ c1 hb, k.cell_ c2 hb, hp, hr.alt k (fun hn q o hA => hs q (hq hn q o hA).1), hq⟩
theorem Cur.mono {R : Nat → Prop} {w : World} {b T U : Nat} (h : Cur w b R T) (hT : T ≤ U) : Cur w b R U := by
 obtain ⟨A, n, c, p, z, c0, c1, c2, hp, hr⟩ := h.got
 exact ⟨h.fz, h.lt, A, n, c, p, z, c0, c1, c2, by omega, hr⟩
def RetCur (w : World) (b : Nat) (R : Nat → Prop) (T m : Nat) (e : Ending) (w' : World) : Prop :=
 ∃ v : Nat, v < m ∧ e = .returned (.int .i64 v) ∧ Cur w' b R T ∧ Alt (fun i => i = b) w w' ∧ w'.heap.size = w.heap.size
theorem and255 (x : Int) : ∃ v : Nat, v < 256 ∧ bits .and .u64 x 255 = (v : Int) := by
 refine ⟨(BitVec.ofInt 64 x &&& BitVec.ofInt 64 255).toNat, ?_, ?_⟩
 ·have h : (BitVec.ofInt 64 x &&& BitVec.ofInt 64 255).toNat ≤ (BitVec.ofInt 64 255).toNat := by
   rw [BitVec.toNat_and]; exact Nat.and_le_right
  have h2 : (BitVec.ofInt 64 255).toNat = 255 := by decide
  omega
 ·show IntKind.u64.wrap ((BitVec.ofInt 64 x &&& BitVec.ofInt 64 255).toNat : Int) = _
  have h : (BitVec.ofInt 64 x &&& BitVec.ofInt 64 255).toNat < 2 ^ 64 := BitVec.isLt _
  rw [IntKind.wrap_u64]; omega
theorem and255w (x : Int) : ∃ v : Nat, v < 256 ∧ wrap64 (bits .and .u64 x 255) = (v : Int) := by
 obtain ⟨v, hv, e⟩ := and255 x
 refine ⟨v, hv, ?_⟩
 rw [e]; unfold wrap64; omega
theorem cur_step {w : World} {b : Nat} {R : Nat → Prop} {T n c p : Nat} {A : Option Addr} {z : Int} (hf : Fz w b) (hb : b < w.heap.size) (c0 : w.cell? ⟨b, 0, none⟩ = some (.slice A n c)) (c1 : w.cell? ⟨b, 1, none⟩ = some (.int .i64 p)) (c2 : w.cell? ⟨b, 2, none⟩ = some (.int .u64 z)) (hp : p ≤ T) (hr : RY w A n) (hq : 0 < n → ∀ q o, A = some ⟨q, o, none⟩ → R q ∧ q ≠ b) (y : Int) (k m : Nat) :
 Cur ((((w.drewN k).setCell ⟨b, 1, none⟩ (.int .i64 ((p : Int) + 1))).setCell ⟨b, 2, none⟩ (.int .u64 y)).drewN m) b R (T + 1)
 ∧ Alt (fun i => i = b) w ((((w.drewN k).setCell ⟨b, 1, none⟩ (.int .i64 ((p : Int) + 1))).setCell ⟨b, 2, none⟩ (.int .u64 y)).drewN m)
 ∧ ((((w.drewN k).setCell ⟨b, 1, none⟩ (.int .i64 ((p : Int) + 1))).setCell ⟨b, 2, none⟩ (.int .u64 y)).drewN m).heap.size = w.heap.size := by
 have hA : Alt (fun i => i = b) w ((((w.drewN k).setCell ⟨b, 1, none⟩ (.int .i64 ((p : Int) + 1))).setCell ⟨b, 2, none⟩ (.int .u64 y)).drewN m) :=
  ((((Alt.refl_ (fun i => i = b) w).drewN_ k).set_ ⟨b, 1, none⟩ _ (fun _ => rfl)).set_ ⟨b, 2, none⟩ _ (fun _ => rfl)).drewN_ m
 refine ⟨⟨fun q => ?_, Nat.lt_of_lt_of_le hb hA.size, A, n, c, p + 1, y, ?_, ?_, ?_, by omega, hr.alt hA (fun hn q o h => (hq hn q o h).2), hq⟩, hA, by simp⟩
 ·rw [World.frozen?_drewN, World.frozen?_setCell, World.frozen?_setCell]; exact hf q
 ·rw [World.cell?_drewN, World.cell?_setCell_other _ _ _ _ (by simp), World.cell?_setCell_other _ _ _ _ (by simp)]; exact c0
 ·rw [World.cell?_drewN, World.cell?_setCell_other _ _ _ _ (by simp), World.cell?_setCell_same (w.drewN k) ⟨b, 1, none⟩ _ c1]; rfl
 ·exact World.cell?_setCell_same _ _ _ ((World.cell?_setCell_other _ _ _ _ (by simp)).trans c2)
theorem next_any (b : Nat) (R : Nat → Prop) (T : Nat) (w : World) (h : Cur w b R T) (hT : T < 1000000000) :
 Calls Tryz.prog 77 #[.pointer (some ⟨b, 0, none⟩)] w (RetCur w b R (T + 1) 256) := by
 obtain ⟨A, n, c, p, z, c0, c1, c2, hp, hr, hq⟩ := h.got
 have hb := h.lt
 have f1 := h.fz 1; have f2 := h.fz 2
 have hn := hr.1
 go_enter Tryz.func77, Tryz.ntmps77
 by_cases hlt : p < n
 ·obtain ⟨q, o, rfl, hqb, hc⟩ := hr.2 (by omega)
  obtain ⟨x, hx, d⟩ := hc p hlt
  have hqn := (hq (by omega) q o rfl).2
  go_wp2
  go_quiet (fail)
  go_wp2
  go_quiet (fail)
  go_wp2
  go_quiet (fail)
  go_wp2
  go_ret
  exact ⟨x, hx, rfl, cur_step (c := c) h.fz hb c0 c1 c2 hp hr hq _ _ _⟩
 ·go_wp2
  go_quiet (fail)
  go_wp2
  go_quiet (fail)
  go_wp2
  obtain ⟨v, hv, e⟩ := and255w (IntKind.u64.wrap (IntKind.u64.wrap (IntKind.u64.wrap (z * 6364136223846793005)) + 1442695040888963407) / 1099511627776)
  rw [e]
  go_ret
  exact ⟨v, hv, rfl, cur_step (c := c) h.fz hb c0 c1 c2 hp hr hq _ _ _⟩
def RetPick (w : World) (b : Nat) (R : Nat → Prop) (T : Nat) (n : Int) (e : Ending) (w' : World) : Prop :=
 ∃ v : Nat, ((v : Int) < n ∨ v = 0) ∧ v ≤ 65535 ∧ e = .returned (.int .i64 v) ∧ Cur w' b R T ∧ Alt (fun i => i = b) w w' ∧ w'.heap.size = w.heap.size
theorem emod_nat {x n : Int} (hx : 0 ≤ x) (h : 1 < n) : ∃ v : Nat, ((v : Int) < n ∨ v = 0) ∧ (v : Int) ≤ x ∧ x % n = (v : Int) := by
 have h1 := Int.emod_lt_of_pos x (show 0 < n by omega)
 have h2 := Int.emod_nonneg x (show n ≠ 0 by omega)
 have h3 : x % n ≤ x := by
  have h4 := Int.mul_ediv_add_emod x n
  have h5 : 0 ≤ n * (x / n) := Int.mul_nonneg (by omega) (Int.ediv_nonneg hx (by omega))
  omega
 exact ⟨(x % n).toNat, by omega, by omega, by omega⟩
theorem Zaj (n : Int) (b : Nat) (R : Nat → Prop) (T : Nat) (w : World) (h : Cur w b R T) (hT : T < 900000000) (hn : n ≤ 2147483648) :
 Calls Tryz.prog 45 #[.pointer (some ⟨b, 0, none⟩), .int .i64 n] w (RetPick w b R (T + 2) n) := by
 go_enter Tryz.func45, Tryz.ntmps45
 by_cases h1 : n ≤ 1
 ·go_wp2
  go_ret
  exact ⟨0, .inr rfl, by omega, rfl, h.mono (by omega), Alt.refl_ _ _, rfl⟩
 ·have h0 : ¬ n = 0 := by omega
  go_wp2_with fail
  refine (next_any b R T _ h (by omega)).mono ?_
  rintro e w1 ⟨v, hv, rfl, c1, k1, z1⟩
  by_cases h2 : 200 < n
  ·go_wp2_with fail
   refine (next_any b R (T + 1) _ c1 (by omega)).mono ?_
   rintro e w2 ⟨u, hu, rfl, c2, k2, z2⟩
   go_wp2
   obtain ⟨r, hr, hr2, hr3⟩ := emod_nat (x := (v : Int) * 256 + u) (n := n) (by omega) (by omega)
   rw [hr3]
   go_ret
   exact ⟨r, hr, by omega, rfl, c2, k1.trans_ k2 (fun _ _ h => h), by omega⟩
  ·go_wp2
   obtain ⟨r, hr, hr2, hr3⟩ := emod_nat (x := (v : Int)) (n := n) (by omega) (by omega)
   rw [hr3]
   go_ret
   exact ⟨r, hr, by omega, rfl, c1.mono (by omega), k1, z1⟩
def RetOne (w : World) (b : Nat) (R : Nat → Prop) (T : Nat) (e : Ending) (w' : World) : Prop :=
 ∃ t : Bool, e = .returned (.bool t) ∧ Cur w' b R T ∧ Alt (fun i => i = b) w w' ∧ w'.heap.size = w.heap.size
theorem one_any (n : Int) (b : Nat) (R : Nat → Prop) (T : Nat) (w : World) (h : Cur w b R T) (hT : T < 900000000) (hn : n ≤ 2147483648) :
 Calls Tryz.prog 41 #[.pointer (some ⟨b, 0, none⟩), .int .i64 n] w (RetOne w b R (T + 2)) := by
 go_enter Tryz.func41, Tryz.ntmps41
 go_wp2_with fail
 refine (Zaj n b R T _ h hT hn).mono ?_
 rintro e w1 ⟨v, hv, hv2, rfl, c1, k1, z1⟩
 go_wp2
 go_ret
 exact ⟨_, rfl, c1, k1, z1⟩
def RetAmong (w : World) (b : Nat) (R : Nat → Prop) (T : Nat) (xs : List Int) (e : Ending) (w' : World) : Prop :=
 ∃ x : Int, x ∈ xs ∧ e = .returned (.int .i64 x) ∧ Cur w' b R T ∧ Alt (fun i => i = b) w w' ∧ w'.heap.size = w.heap.size
theorem among_any (A : Option Addr) (n c : Nat) (xs : List Int) (b : Nat) (R : Nat → Prop) (T : Nat) (w : World) (h : Cur w b R T) (hT : T < 900000000) (hr : RI w A n xs) (hn : 0 < n) (hn2 : n ≤ 2147483648) (hq : ∀ q o, A = some ⟨q, o, none⟩ → q ≠ b) :
 Calls Tryz.prog 76 #[.pointer (some ⟨b, 0, none⟩), .slice A n c] w (RetAmong w b R (T + 2) xs) := by
 have hl := hr.1
 obtain ⟨q, o, rfl, hqb, hc⟩ := hr.2 hn
 have hq2 := hq q o rfl
 clear hq
 go_enter Tryz.func76, Tryz.ntmps76
 go_wp2_with fail
 refine (Zaj n b R T _ h hT (by omega)).mono ?_
 rintro e w1 ⟨v, hv, hv2, rfl, c1, k1, z1⟩
 have hvn : v < n := by omega
 have d := k1.cell_ (hc v hvn) hq2
 go_wp2
 go_ret
 exact ⟨_, gi_mem (by omega), rfl, c1, k1, z1⟩
end Go.Proofs.YtnhmfedegfcflaaGreatDoor
namespace Go.Proofs.YtnhmfedegfcflaaGreatDoor
open Go.ChangeShapes Go.WideShapes Go.ChangeAt Go.RowKit
set_option linter.unusedVariables false
set_option linter.unusedSimpArgs false
def RY0 (w : World) (A : Option Addr) (n : Nat) : Prop := 0 < n → ∃ b o, A = some ⟨b, o, none⟩ ∧ b < w.heap.size ∧ ∀ i, i < n → ∃ x : Nat, x < 256 ∧ w.cell? ⟨b, o + i, none⟩ = some (.int .u8 x)
theorem RY0.ry {w : World} {A : Option Addr} {n : Nat} (h : RY0 w A n) (hn : n ≤ 2097152) : RY w A n := ⟨hn, h⟩
set_option maxRecDepth 100000 in
theorem RY_of_trod {H : Type} {enc : TypeId × Value → H} {W : World} {base : Nat} {v : Value} {d : DataW H} {p : List MemPlace} (hval : Value.okWide Tryz.prog W .any base 22 v)
 (h : DataW.Trod enc Tryz.prog W 0 (fun _ => true) true 22 v d p) : ∃ a n c, v = .slice a n c ∧ RY0 W a n ∧ (n = 0 ∨ ∃ es sp, d = .slice es sp ∧ n ≤ es.length) := by
 obtain ⟨a, n, c, rfl⟩ := okWide_slice Tryz.underlying22 hval
 obtain ⟨fuel, hf⟩ := h
 refine ⟨a, n, c, rfl, ?_⟩
 rcases open_ints Tryz.underlying22 Tryz.underlying5 (by kernel_rfl) hf with ⟨hcs, _⟩ | ⟨x, l, c', zs, hcs, _, hl, hm, hz, hx, hcell, hwz⟩
 ·simp [Value.cells] at hcs
  obtain ⟨rfl, rfl, rfl⟩ := hcs
  exact ⟨fun h => absurd h (by omega), .inl rfl⟩
 ·simp [Value.cells] at hcs
  obtain ⟨rfl, rfl, rfl⟩ := hcs
  simp only [if_true] at hz
  simp only [Prod.mk.injEq] at hx
  refine ⟨fun hn => ?_, .inr ⟨_, _, hx.1, by simp [lits]; omega⟩⟩
  obtain ⟨b, o, spot⟩ := x
  have hc := hcell 0 (by omega)
  have hspot : spot = none := by simpa [Addr.add] using World.cell?_spot hc
  subst hspot
  refine ⟨b, o, rfl, World.block_lt_of_cell? W _ (by simpa [Addr.add] using hc), fun j hj => ?_⟩
  have h1 := hcell j (by omega)
  have h2 : (⟨b, o, none⟩ : Addr).add j = ⟨b, o + j, none⟩ := by
   unfold Addr.add; split
   ·rename_i h; subst h; rfl
   ·rfl
  rw [h2] at h1
  have hr := range_u8 hwz j
  refine ⟨(zs.getD j 0).toNat, ?_, ?_⟩
  ·rw [List.getD_eq_getElem?_getD]; omega
  ·rw [h1, List.getD_eq_getElem?_getD, Int.toNat_of_nonneg hr.1]
end Go.Proofs.YtnhmfedegfcflaaGreatDoor
namespace Go.Proofs.YtnhmfedegfcflaaGreatDoor
open Go.RowKit
set_option linter.unusedVariables false
set_option linter.unusedSimpArgs false
section
variable {W : World} {own : Nat → Prop} {cs : List (Addr × Value)} {sk : List (Nat × List Nat × List Nat)} {ini fi : List Nat} {rs : List (Nat × Res)} {ops : Array Oper} {L : Act → (Nat → Value) → Prop} {k : Nat} {o : Oper} {rest : List Oper} {a : Act} {ρ : Nat → Value}
theorem hit_one {d : Nat} (hd : consL sk k = [d]) {v : Value} (hρ : ρ d = v) {r : Res} (hrd : resAt rs d = r) : (mkSep W own cs sk ini fi rs).hit k ρ = r.blk ((depsL sk d).map ρ) v := by
 subst hρ; subst hrd
 funext b; apply propext
 show (∃ d', d' ∈ consL sk k ∧ (resAt rs d').blk ((depsL sk d').map ρ) (ρ d') b) ↔ _
 rw [hd]; simp
theorem Zbo {d : Nat} {w : World} (hd : d ∈ depsL sk k) (hp : (mkSep W own cs sk ini fi rs).pre k ρ w) {v : Value} (hρ : ρ d = v) {r : Res} (hrd : resAt rs d = r) : r.R ((depsL sk d).map ρ) v w ∧ ∀ b, r.blk ((depsL sk d).map ρ) v b → okB W own b ∧ b < w.heap.size := by
 subst hρ; subst hrd
 exact Sep.hasAll_iff.1 hp.1 d hd
theorem mem_appG (d lo n m : Nat) (xs ys : List G3) (A0 : Option Addr) (c0 : Nat) (A : Option Addr) (c : Nat) (s x : Operand) (hr : resAt rs k = Res.rowG lo (n + m) (xs ++ ys)) (he : effB sk k = true) (hlo : lo ≤ W.heap.size) (hrd : resAt rs d = Res.rowG lo n xs) (hd : consL sk k = [d]) (hdd : d ∈ depsL sk k) (hρ : ρ d = .slice A0 n c0)
 (ho : o.op = .call { callee := .builtin .append, args := #[s, x], argTypes := #[24, 24] }) (hs : a.eval s = .slice A0 n c0) (hx : a.eval x = .slice A m c)
 (hlen : n + m ≤ 8388608) (hread : ∀ w, Alt (okB W own) W w → CellsL w cs → (mkSep W own cs sk ini fi rs).pre k ρ w → RG w A m ys)
 (h : ∀ A' c', wpSep (mkSep W own cs sk ini fi rs) Tryz.prog ops L (k + 1) rest (a.put o.dst (.slice A' (n + m) c')) (upd ρ k (.slice A' (n + m) c'))) (hw : Region.wanted o (yielded ops a.tmps) = true := by first | exact Zac rfl | exact Zaa rfl rfl rfl rfl) : wpSep (mkSep W own cs sk ini fi rs) Tryz.prog ops L k (o :: rest) a ρ :=
 Zbl (hw := hw) _ hr he (fun w hw hc hp => by
  have h1 : OwnG w lo w.heap.size (.slice A0 n c0) n xs := (Zbo hdd hp hρ hrd).1
  have hh : (mkSep W own cs sk ini fi rs).hit k ρ = fun b => (Value.slice A0 n c0).ownBlock = some b := hit_one hd hρ hrd
  rw [hh]
  obtain ⟨A', c', w', hrun, h2, h3, h4, h5⟩ := run_appG w o.type lo w.heap.size n c0 m c A0 A xs ys h1 (hread w hw hc hp) hlen (Nat.le_trans hlo hw.size)
  unfold sepAt execOp
  simp only [ho, resolve, invoke, builtin, Sem.run_bind, Sem.run_pure, Result.andThen_ok, List.map_toArray, List.map_cons, List.map_nil, hs, hx, hrun]
  exact ⟨⟨A', c', rfl⟩, h2, Alt.of_grown h3 (fun i hi => hi), fun b hb => ⟨(h2.lt b hb).2.2, by
   rcases h4 with h4 | h4
   ·exact .inr (h4 ▸ hb)
   ·have hb' : (Value.slice A' (n + m) c').ownBlock = some b := hb
    rw [h4] at hb'; injection hb' with hb'
    exact .inl (by omega)⟩⟩) fun v hv => by
  obtain ⟨A', c', rfl⟩ := hv
  exact h A' c'
theorem mem_appI (d lo n m : Nat) (xs ys : List Int) (A0 : Option Addr) (c0 : Nat) (A : Option Addr) (c : Nat) (s x : Operand) (hr : resAt rs k = Res.row lo (n + m) (xs ++ ys)) (he : effB sk k = true) (hlo : lo ≤ W.heap.size) (hrd : resAt rs d = Res.row lo n xs) (hd : consL sk k = [d]) (hdd : d ∈ depsL sk k) (hρ : ρ d = .slice A0 n c0)
 (ho : o.op = .call { callee := .builtin .append, args := #[s, x], argTypes := #[25, 25] }) (hs : a.eval s = .slice A0 n c0) (hx : a.eval x = .slice A m c)
 (hlen : n + m ≤ 8388608) (hread : ∀ w, Alt (okB W own) W w → CellsL w cs → (mkSep W own cs sk ini fi rs).pre k ρ w → RI w A m ys)
 (h : ∀ A' c', wpSep (mkSep W own cs sk ini fi rs) Tryz.prog ops L (k + 1) rest (a.put o.dst (.slice A' (n + m) c')) (upd ρ k (.slice A' (n + m) c'))) (hw : Region.wanted o (yielded ops a.tmps) = true := by first | exact Zac rfl | exact Zaa rfl rfl rfl rfl) : wpSep (mkSep W own cs sk ini fi rs) Tryz.prog ops L k (o :: rest) a ρ :=
 Zbl (hw := hw) _ hr he (fun w hw hc hp => by
  have h1 : Own w lo w.heap.size (.slice A0 n c0) n xs := (Zbo hdd hp hρ hrd).1
  have hh : (mkSep W own cs sk ini fi rs).hit k ρ = fun b => (Value.slice A0 n c0).ownBlock = some b := hit_one hd hρ hrd
  rw [hh]
  obtain ⟨A', c', w', hrun, h2, h3, h4, h5⟩ := run_appI w o.type lo w.heap.size n c0 m c A0 A xs ys h1 (hread w hw hc hp) hlen (Nat.le_trans hlo hw.size)
  unfold sepAt execOp
  simp only [ho, resolve, invoke, builtin, Sem.run_bind, Sem.run_pure, Result.andThen_ok, List.map_toArray, List.map_cons, List.map_nil, hs, hx, hrun]
  exact ⟨⟨A', c', rfl⟩, h2, Alt.of_grown h3 (fun i hi => hi), fun b hb => ⟨(h2.lt b hb).2.2, by
   rcases h4 with h4 | h4
   ·exact .inr (h4 ▸ hb)
   ·have hb' : (Value.slice A' (n + m) c').ownBlock = some b := hb
    rw [h4] at hb'; injection hb' with hb'
    exact .inl (by omega)⟩⟩) fun v hv => by
  obtain ⟨A', c', rfl⟩ := hv
  exact h A' c'
end
def circV (x y : Int) (A : Option Addr) (ng c : Nat) (O : Option Addr) (no d : Nat) (tb : Bool) : Value := .tuple #[.agg #[.int .i64 x, .int .i64 y, .slice A ng c, .slice O no d], .bool tb]
theorem circV_inj {x y : Int} {A A' : Option Addr} {ng c c' : Nat} {O O' : Option Addr} {no d d' : Nat} {tb : Bool} (h : circV x y A ng c O no d tb = circV x y A' ng c' O' no d' tb) : A = A' ∧ c = c' ∧ O = O' ∧ d = d' := by
 unfold circV at h
 simpa [and_assoc] using h
def Res.circ (lo : Nat) (x y : Int) (ng no : Nat) (gs : List G3) (os : List Int) (tb : Bool) : Res :=
 ⟨fun _ v => ∃ A c O d, v = circV x y A ng c O no d tb, fun _ v w => ∀ A c O d, v = circV x y A ng c O no d tb → OwnC w lo w.heap.size A ng c O no d gs os,
  fun _ v b => ∃ A c O d, v = circV x y A ng c O no d tb ∧ ((Value.slice A ng c).ownBlock = some b ∨ (Value.slice O no d).ownBlock = some b), fun _ => ⟨circV x y none ng 0 none no 0 tb, none, 0, none, 0, rfl⟩,
  fun _ v w w' S h k hb A c O d hv => by
   have h1 := h A c O d hv
   exact ⟨(h1.1.alt k fun g hg => (hb g ⟨A, c, O, d, hv, .inl hg⟩).1).now, (h1.2.1.alt k fun g hg => (hb g ⟨A, c, O, d, hv, .inr hg⟩).1).now, h1.2.2⟩⟩
section
variable {P : Program} {W : World} {own : Nat → Prop} {cs : List (Addr × Value)} {sk : List (Nat × List Nat × List Nat)} {ini fi : List Nat} {rs : List (Nat × Res)} {ops : Array Oper} {L : Act → (Nat → Value) → Prop} {k : Nat} {o : Oper} {rest : List Oper} {a : Act} {ρ : Nat → Value}
def postIs (w : World) (u v : Value) (w' : World) : Prop := v = u ∧ Below w.heap.size w w'
theorem postIs.mk_ {w w' : World} {u : Value} (hb : Below w.heap.size w w') : postIs w u u w' := ⟨rfl, hb⟩
theorem mem_circ (d1 d2 lo : Nat) (x y : Int) (ng no : Nat) (gs : List G3) (os : List Int) (tb : Bool) (A : Option Addr) (c : Nat) (O : Option Addr) (d : Nat) (hr : resAt rs k = Res.circ lo x y ng no gs os tb) (he : effB sk k = true) (h1 : resAt rs d1 = Res.rowG lo ng gs) (h2 : resAt rs d2 = Res.row lo no os) (hd : consL sk k = [d1, d2]) (hd1 : d1 ∈ depsL sk k) (hd2 : d2 ∈ depsL sk k) (hne : d1 ≠ d2) (hρ1 : ρ d1 = .slice A ng c) (hρ2 : ρ d2 = .slice O no d)
 (hx : ∀ w, Alt (okB W own) W w → CellsL w cs → (mkSep W own cs sk ini fi rs).pre k ρ w → OwnC w lo w.heap.size A ng c O no d gs os → sepAt P o a (postIs w (circV x y A ng c O no d tb)) w)
 (h' : ∀ A c O d, wpSep (mkSep W own cs sk ini fi rs) P ops L (k + 1) rest (a.put o.dst (circV x y A ng c O no d tb)) (upd ρ k (circV x y A ng c O no d tb))) (hw : Region.wanted o (yielded ops a.tmps) = true := by first | exact Zac rfl | exact Zaa rfl rfl rfl rfl) : wpSep (mkSep W own cs sk ini fi rs) P ops L k (o :: rest) a ρ :=
 Zbl (hw := hw) _ hr he (fun w hw hc hp => by
  have q1 := Zbo hd1 hp hρ1 h1
  have q2 := Zbo hd2 hp hρ2 h2
  have ha : Apart (.slice A ng c) (.slice O no d) := fun g e1 e2 => by
   have := hp.2 d1 hd1 d2 hd2 hne g (show (resAt rs d1).blk ((depsL sk d1).map ρ) (ρ d1) g by rw [h1, hρ1]; exact e1)
   exact this (show (resAt rs d2).blk ((depsL sk d2).map ρ) (ρ d2) g by rw [h2, hρ2]; exact e2)
  have hO : OwnC w lo w.heap.size A ng c O no d gs os := ⟨q1.1, q2.1, ha⟩
  refine Zaz (hx w hw hc hp hO) fun v w' ⟨e1, e2⟩ => ?_
  subst e1
  have hin : ∀ {b : Nat}, ((Value.slice A ng c).ownBlock = some b ∨ (Value.slice O no d).ownBlock = some b) → (mkSep W own cs sk ini fi rs).hit k ρ b := fun {b} hb => by
   rcases hb with hb | hb
   ·exact ⟨d1, by show d1 ∈ consL sk k; rw [hd]; simp, show (resAt rs d1).blk ((depsL sk d1).map ρ) (ρ d1) b by rw [h1, hρ1]; exact hb⟩
   ·exact ⟨d2, by show d2 ∈ consL sk k; rw [hd]; simp, show (resAt rs d2).blk ((depsL sk d2).map ρ) (ρ d2) b by rw [h2, hρ2]; exact hb⟩
  have hsz := e2.size
  refine ⟨⟨A, c, O, d, rfl⟩, fun A' c' O' d' hv => ?_, Alt.of_new e2, fun b ⟨A', c', O', d', hv, hb⟩ => ?_⟩
  ·obtain ⟨rfl, rfl, rfl, rfl⟩ := circV_inj hv
   exact (hO.below e2 (.inl lR)).hi_ hsz
  ·obtain ⟨rfl, rfl, rfl, rfl⟩ := circV_inj hv
   exact ⟨Nat.lt_of_lt_of_le (hb.elim (fun h => (hO.1.lt b h).2.2) (fun h => (hO.2.1.lt b h).2.2)) hsz, .inr (hin hb)⟩) fun v hv => by
  obtain ⟨A, c, O, d, rfl⟩ := hv
  exact h' A c O d
end
section
variable {P : Program} {W : World} {own : Nat → Prop} {cs : List (Addr × Value)} {sk : List (Nat × List Nat × List Nat)} {ini fi : List Nat} {rs : List (Nat × Res)} {ops : Array Oper} {L : Act → (Nat → Value) → Prop} {k : Nat} {o : Oper} {rest : List Oper} {a : Act} {ρ : Nat → Value}
end
theorem postBox.circ (w : World) (T) : postBox w [.int .i64 0, .int .i64 0, .slice none 0 0, .slice none 0 0] (.pointer (some ⟨w.heap.size, 0, none⟩)) (w.alloc (.cells #[.int .i64 0, .int .i64 0, .slice none 0 0, .slice none 0 0] T)) :=
 postBox.new w [.int .i64 0, .int .i64 0, .slice none 0 0, .slice none 0 0] T ⟨Zal _ _ 0 _ rfl, Zal _ _ 1 _ rfl, Zal _ _ 2 _ rfl, Zal _ _ 3 _ rfl, trivial⟩
def postSet (v0 : Value) (w0 : World) (v : Value) (w' : World) : Prop := v = v0 ∧ w' = w0
theorem postSet.mk_ (v : Value) (w : World) : postSet v w v w := ⟨rfl, rfl⟩
section
variable {P : Program} {W : World} {own : Nat → Prop} {cs : List (Addr × Value)} {sk : List (Nat × List Nat × List Nat)} {ini fi : List Nat} {rs : List (Nat × Res)} {ops : Array Oper} {L : Act → (Nat → Value) → Prop} {k : Nat} {o : Oper} {rest : List Oper} {a : Act} {ρ : Nat → Value}
end
structure PX (w : World) (lo b : Nat) (c : Ci) (A : Option Addr) (ca : Nat) (O : Option Addr) (co : Nat) : Prop where
 bx : BxC w b c.i0 c.i1 A c.gs.length ca O c.os.length co
 fz : Fz w b
 ox : OwnX w lo b A c.gs.length ca O c.os.length co c.gs c.os
section
variable {w w' : World} {lo b : Nat} {c : Ci} {A : Option Addr} {ca : Nat} {O : Option Addr} {co : Nat}
theorem PX.lt (h : PX w lo b c A ca O co) : b < w.heap.size := h.bx.lt
theorem PX.below {B : Nat} (h : PX w lo b c A ca O co) (k : Below B w w') (hB : w.heap.size ≤ B) : PX w' lo b c A ca O co :=
 ⟨h.bx.below (k.mono hB), h.fz.below k (Nat.lt_of_lt_of_le h.lt hB), h.ox.below_ k hB⟩
theorem PX.new (w : World) (lo : Nat) (T : TypeId) : PX (w.alloc (.cells #[.int .i64 0, .int .i64 0, .slice none 0 0, .slice none 0 0] T)) lo w.heap.size ⟨0, 0, [], []⟩ none 0 none 0 :=
 ⟨BxC.new w T, Fz.new w _ _, OwnC.none_ _ _ _, by simp [Value.ownBlock], by simp [Value.ownBlock]⟩
theorem BxC.set0 {x y x' : Int} {Ag : Option Addr} {ng cg : Nat} {Ao : Option Addr} {no co : Nat} (h : BxC w b x y Ag ng cg Ao no co) : BxC (w.setCell ⟨b, 0, none⟩ (.int .i64 x')) b x' y Ag ng cg Ao no co :=
 ⟨World.cell?_setCell_same _ _ _ h.1, (World.cell?_setCell_other _ _ _ _ (by simp)).trans h.2.1, (World.cell?_setCell_other _ _ _ _ (by simp)).trans h.2.2.1, (World.cell?_setCell_other _ _ _ _ (by simp)).trans h.2.2.2⟩
theorem BxC.set1 {x y y' : Int} {Ag : Option Addr} {ng cg : Nat} {Ao : Option Addr} {no co : Nat} (h : BxC w b x y Ag ng cg Ao no co) : BxC (w.setCell ⟨b, 1, none⟩ (.int .i64 y')) b x y' Ag ng cg Ao no co :=
 ⟨(World.cell?_setCell_other _ _ _ _ (by simp)).trans h.1, World.cell?_setCell_same _ _ _ h.2.1, (World.cell?_setCell_other _ _ _ _ (by simp)).trans h.2.2.1, (World.cell?_setCell_other _ _ _ _ (by simp)).trans h.2.2.2⟩
theorem PX.set0 (h : PX w lo b c A ca O co) (x : Int) : PX (w.setCell ⟨b, 0, none⟩ (.int .i64 x)) lo b { c with i0 := x } A ca O co := ⟨h.bx.set0, h.fz.set _ _, h.ox.store 0 _⟩
theorem PX.set1 (h : PX w lo b c A ca O co) (x : Int) : PX (w.setCell ⟨b, 1, none⟩ (.int .i64 x)) lo b { c with i1 := x } A ca O co := ⟨h.bx.set1, h.fz.set _ _, h.ox.store 1 _⟩
theorem PX.outs (h : PX w lo b c A ca O co) {O' : Option Addr} {n d lo' : Nat} {os : List Int} (ho : Own w lo' w.heap.size (.slice O' n d) n os) (hlo : lo ≤ lo') (hA : ∀ g, (Value.slice A c.gs.length ca).ownBlock = some g → g < lo') (hb : b < lo') :
 PX (w.setCell ⟨b, 3, none⟩ (.slice O' n d)) lo b { c with os := os } A ca O' d := by
 obtain rfl : os.length = n := ho.len
 have hne : (Value.slice O' os.length d).ownBlock ≠ some b := fun hc => by have := ho.lt b hc; omega
 have hx : OwnX w lo b A c.gs.length ca O' os.length d c.gs os := ⟨⟨h.ox.1.1, (ho.lo_ hlo), fun g h1 h2 => by have := ho.lt g h2; have := hA g h1; omega⟩, h.ox.2.1, hne⟩
 exact ⟨h.bx.setO _ _ _, h.fz.set _ _, hx.store 3 _⟩
theorem PX.gate {wy : World} {A' : Option Addr} {ca' : Nat} {M : G3} (h : PX w lo b c A ca O co) (k : Alt (okB w (fun i => (Value.slice A c.gs.length ca).ownBlock = some i)) w wy)
 (hG : OwnG wy lo wy.heap.size (.slice A' (c.gs.length + 1) ca') (c.gs.length + 1) (c.gs ++ [M])) (hok : ∀ i, (Value.slice A' (c.gs.length + 1) ca').ownBlock = some i → okB w (fun i => (Value.slice A c.gs.length ca).ownBlock = some i) i) :
 PX (wy.setCell ⟨b, 2, none⟩ (.slice A' (c.gs.length + 1) ca')) lo b { c with gs := c.gs ++ [M] } A' ca' O co := by
 have hbS : ¬ okB w (fun i => (Value.slice A c.gs.length ca).ownBlock = some i) b := fun hc => hc.elim (fun h1 => by have := h.lt; omega) (fun h1 => h.ox.2.1 h1)
 have hOS : ∀ g, (Value.slice O c.os.length co).ownBlock = some g → ¬ okB w (fun i => (Value.slice A c.gs.length ca).ownBlock = some i) g := fun g hg hc => hc.elim (fun h1 => by have := h.ox.1.2.1.lt g hg; omega) (fun h1 => h.ox.1.2.2 g h1 hg)
 have hx : OwnX wy lo b A' (c.gs.length + 1) ca' O c.os.length co (c.gs ++ [M]) c.os := by
  refine ⟨⟨hG, (h.ox.1.2.1.alt k hOS).now, fun g h1 h2 => hOS g h2 (hok g h1)⟩, fun hc => hbS (hok b hc), h.ox.2.2⟩
 have hl : (c.gs ++ [M]).length = c.gs.length + 1 := by simp
 refine ⟨?_, (h.fz.alt k h.lt hbS).set _ _, ?_⟩
 ·have := (h.bx.alt k hbS).setG A' (c.gs.length + 1) ca'
  show BxC _ b c.i0 c.i1 A' (c.gs ++ [M]).length ca' O c.os.length co
  rw [hl]; exact this
 ·show OwnX _ lo b A' (c.gs ++ [M]).length ca' O c.os.length co (c.gs ++ [M]) c.os
  rw [hl]; exact hx.store 2 _
theorem PX.out {wy : World} {O' : Option Addr} {co' : Nat} {z : Int} (h : PX w lo b c A ca O co) (k : Alt (okB w (fun i => (Value.slice O c.os.length co).ownBlock = some i)) w wy)
 (hG : Own wy lo wy.heap.size (.slice O' (c.os.length + 1) co') (c.os.length + 1) (c.os ++ [z])) (hok : ∀ i, (Value.slice O' (c.os.length + 1) co').ownBlock = some i → okB w (fun i => (Value.slice O c.os.length co).ownBlock = some i) i) :
 PX (wy.setCell ⟨b, 3, none⟩ (.slice O' (c.os.length + 1) co')) lo b { c with os := c.os ++ [z] } A ca O' co' := by
 have hbS : ¬ okB w (fun i => (Value.slice O c.os.length co).ownBlock = some i) b := fun hc => hc.elim (fun h1 => by have := h.lt; omega) (fun h1 => h.ox.2.2 h1)
 have hOS : ∀ g, (Value.slice A c.gs.length ca).ownBlock = some g → ¬ okB w (fun i => (Value.slice O c.os.length co).ownBlock = some i) g := fun g hg hc => hc.elim (fun h1 => by have := h.ox.1.1.lt g hg; omega) (fun h1 => h.ox.1.2.2 g hg h1)
 have hx : OwnX wy lo b A c.gs.length ca O' (c.os.length + 1) co' c.gs (c.os ++ [z]) := by
  refine ⟨⟨(h.ox.1.1.alt k hOS).now, hG, fun g h1 h2 => hOS g h1 (hok g h2)⟩, h.ox.2.1, fun hc => hbS (hok b hc)⟩
 have hl : (c.os ++ [z]).length = c.os.length + 1 := by simp
 refine ⟨?_, (h.fz.alt k h.lt hbS).set _ _, ?_⟩
 ·have := (h.bx.alt k hbS).setO O' (c.os.length + 1) co'
  show BxC _ b c.i0 c.i1 A c.gs.length ca O' (c.os ++ [z]).length co'
  rw [hl]; exact this
 ·show OwnX _ lo b A c.gs.length ca O' (c.os ++ [z]).length co' c.gs (c.os ++ [z])
  rw [hl]; exact hx.store 3 _
end
section
variable {W : World} {own : Nat → Prop} {cs : List (Addr × Value)} {sk : List (Nat × List Nat × List Nat)} {fi : List Nat} {rs : List (Nat × Res)} {ρ : Nat → Value}
theorem Zca {j : Nat} : (mkSep W own cs sk [j] fi rs).apart ρ [j] := by
 intro d hd d' hd' hn b hb hb'
 simp only [List.mem_cons, List.not_mem_nil, or_false] at hd hd'
 exact hn (hd.trans hd'.symm)
end
theorem Alt.via {S : Nat → Prop} {a w wy : World} {v : Value} (h : Alt S a w) (k : Alt (okB w (fun i => v.ownBlock = some i)) w wy) (hlo : ∀ g, v.ownBlock = some g → a.heap.size ≤ g) : Alt S a wy :=
 h.trans_ k fun i hi hT => hT.elim (fun h1 => by have := h.size; omega) (fun h1 => by have := hlo i h1; omega)
theorem OwnG_one (w : World) (g : G3) (lo : Nat) (hl : lo ≤ w.heap.size) : OwnG (w.alloc (.cells #[.int .i64 g.k, .int .i64 g.a, .int .i64 g.b] 49)) lo (w.heap.size + 1) (.slice (some ⟨w.heap.size, 0, none⟩) 1 1) 1 [g] := by
 refine ⟨?_, fun q hq => by simp [Value.ownBlock] at hq; omega⟩
 have h := World.ownsRow_lit (base := lo) (e := 49) (size := 3) w #[.int .i64 g.k, .int .i64 g.a, .int .i64 g.b] 1 hl (by unfold maxLen; omega) (by simp)
 simpa [gcells] using h
theorem postRowG_one (w : World) (g : G3) : postRowG w 1 [g] (.slice (some ⟨w.heap.size, 0, none⟩) 1 1) (w.alloc (.cells #[.int .i64 g.k, .int .i64 g.a, .int .i64 g.b] 49)) :=
 ⟨_, _, rfl, (OwnG_one w g w.heap.size lR).hi_ (by simp), bA⟩
def RetXm (lo b : Nat) (C C' : Ci) (A : Option Addr) (ca : Nat) (O : Option Addr) (co : Nat) (v : Int) (w : World) (e : Ending) (w' : World) : Prop :=
 ∃ A' ca', e = .returned (.int .i64 v) ∧ PX w' lo b C' A' ca' O co ∧ Alt (fun i => i = b ∨ (Value.slice A C.gs.length ca).ownBlock = some i) w w' ∧ ∀ g, (Value.slice A' C'.gs.length ca').ownBlock = some g → (Value.slice A C.gs.length ca).ownBlock = some g ∨ w.heap.size ≤ g
set_option maxHeartbeats 800000 in
theorem gateX_any (lo b : Nat) (C : Ci) (A : Option Addr) (ca : Nat) (O : Option Addr) (co : Nat) (k p q : Int) (w : World) (hp : PX w lo b C A ca O co) (hx : 0 ≤ C.i0 ∧ C.i0 ≤ 20) (hy : 0 ≤ C.i1 ∧ C.i1 ≤ 20) (hn : C.gs.length ≤ 200000) (hlo : lo ≤ w.heap.size) :
 Calls Tryz.prog 96 #[.pointer (some ⟨b, 0, none⟩), .int .i64 k, .int .i64 p, .int .i64 q] w (RetXm lo b C { C with gs := C.gs ++ [⟨k, p, q⟩] } A ca O co (C.i0 + C.i1 + C.gs.length) w) := by
 have hal : Below w.heap.size w (w.alloc (.cells #[.int .i64 k, .int .i64 p, .int .i64 q] 49)) := bA
 have hpA := hp.below hal lR
 have hownA := hp.ox.1.1.alloc (.cells #[.int .i64 k, .int .i64 p, .int .i64 q] 49)
 have hbb := hp.lt
 have hq := hp.bx; obtain ⟨k0, k1, k2, k3⟩ := hq
 have hfA := hpA.fz 2
 have hsz : (w.alloc (.cells #[.int .i64 k, .int .i64 p, .int .i64 q] 49)).heap.size = w.heap.size + 1 := by simp
 obtain ⟨v, hv⟩ := lT (C.i0 + C.i1 + C.gs.length)
 rw [hv.out]
 go_enter Tryz.func96, Tryz.ntmps96
 go_wp2_with (at_builtin; refine Zbi _ rfl _ _ rfl rfl hownA rfl (RG_new1 _ _ _ _ _) (by omega) (by simp; omega) ?_; intro A5 c5 w5 hown5 hg5 hat5 hk5; have hA5 := Alt.of_grown (S := okB (w.alloc (.cells #[.int .i64 k, .int .i64 p, .int .i64 q] 49)) (fun i => (Value.slice A C.gs.length ca).ownBlock = some i)) hg5 (fun i hi => .inr hi); have hp5 := hpA.gate (M := ⟨k, p, q⟩) hA5 hown5 (fun i hi => hat5.elim (fun h => .inr (h ▸ hi)) (fun h => .inl (by rw [h] at hi; injection hi with hi; omega))); have hbS : ¬ okB (w.alloc (.cells #[.int .i64 k, .int .i64 p, .int .i64 q] 49)) (fun i => (Value.slice A C.gs.length ca).ownBlock = some i) b := (fun hc => hc.elim (fun h1 => by omega) (fun h1 => hp.ox.2.1 h1)); have hq5 := hpA.bx.alt hA5 hbS; obtain ⟨j0, j1, j2, j3⟩ := hq5; have hf5 := (hpA.fz.alt hA5 (by omega) hbS) 2; have hq6 := hp5.bx; obtain ⟨i0, i1, i2, i3⟩ := hq6)
 have q1 : C.i0 + C.i1 + ((C.gs.length : Int) + 1) - 1 = v := by have := hv.out; omega
 clear j0 j1 j2 j3 i0 i1 i2 i3
 have hA6 : Alt (fun i => i = b ∨ (Value.slice A C.gs.length ca).ownBlock = some i) w (w5.setCell ⟨b, 2, none⟩ (.slice A5 (C.gs.length + 1) c5)) :=
  (((Alt.refl_ _ w).alloc_ _).trans_ hA5 (fun i hi hT => hT.elim (fun h => by omega) (fun h => .inr h))).set_ ⟨b, 2, none⟩ _ (fun _ => .inl rfl)
 have ho6 : ∀ g, (Value.slice A5 (C.gs ++ [(⟨k, p, q⟩ : G3)]).length c5).ownBlock = some g → (Value.slice A C.gs.length ca).ownBlock = some g ∨ w.heap.size ≤ g := fun g hg => by
  have h8 : (Value.slice A5 (C.gs.length + 1) c5).ownBlock = some g := by simpa [Value.ownBlock] using hg
  rcases hat5 with h | h
  ·exact .inl (h.symm.trans h8)
  ·right; rw [h] at h8; injection h8 with h8; omega
 refine (Zba C.i0 C.i1 A5 (C.gs.length + 1) c5 O C.os.length co _ hx hy (by omega)).mono ?_
 rintro e w6 ⟨rfl, hb6⟩
 go_wp2
 go_ret
 exact ⟨A5, c5, by rw [← q1]; rfl, hp5.below hb6 lR, hA6.new_ hb6, ho6⟩
theorem xorX_any (lo b : Nat) (C : Ci) (A : Option Addr) (ca : Nat) (O : Option Addr) (co : Nat) (p q : Int) (w : World) (hp : PX w lo b C A ca O co) (hx : 0 ≤ C.i0 ∧ C.i0 ≤ 20) (hy : 0 ≤ C.i1 ∧ C.i1 ≤ 20) (hn : C.gs.length ≤ 200000) (hlo : lo ≤ w.heap.size) :
 Calls Tryz.prog 86 #[.pointer (some ⟨b, 0, none⟩), .int .i64 p, .int .i64 q] w (RetXm lo b C { C with gs := C.gs ++ [⟨0, p, q⟩] } A ca O co (C.i0 + C.i1 + C.gs.length) w) := by
 go_enter Tryz.func86, Tryz.ntmps86
 go_wp2_with fail
 refine (gateX_any lo b C A ca O co 0 p q w hp hx hy hn hlo).mono ?_
 rintro e w1 ⟨A1, c1, rfl, h1⟩
 go_wp2
 go_ret
 exact ⟨A1, c1, rfl, h1⟩
theorem andX_any (lo b : Nat) (C : Ci) (A : Option Addr) (ca : Nat) (O : Option Addr) (co : Nat) (p q : Int) (w : World) (hp : PX w lo b C A ca O co) (hx : 0 ≤ C.i0 ∧ C.i0 ≤ 20) (hy : 0 ≤ C.i1 ∧ C.i1 ≤ 20) (hn : C.gs.length ≤ 200000) (hlo : lo ≤ w.heap.size) :
 Calls Tryz.prog 87 #[.pointer (some ⟨b, 0, none⟩), .int .i64 p, .int .i64 q] w (RetXm lo b C { C with gs := C.gs ++ [⟨1, p, q⟩] } A ca O co (C.i0 + C.i1 + C.gs.length) w) := by
 go_enter Tryz.func87, Tryz.ntmps87
 go_wp2_with fail
 refine (gateX_any lo b C A ca O co 1 p q w hp hx hy hn hlo).mono ?_
 rintro e w1 ⟨A1, c1, rfl, h1⟩
 go_wp2
 go_ret
 exact ⟨A1, c1, rfl, h1⟩
theorem notX_any (lo b : Nat) (C : Ci) (A : Option Addr) (ca : Nat) (O : Option Addr) (co : Nat) (p : Int) (w : World) (hp : PX w lo b C A ca O co) (hx : 0 ≤ C.i0 ∧ C.i0 ≤ 20) (hy : 0 ≤ C.i1 ∧ C.i1 ≤ 20) (hn : C.gs.length ≤ 200000) (hlo : lo ≤ w.heap.size) :
 Calls Tryz.prog 85 #[.pointer (some ⟨b, 0, none⟩), .int .i64 p] w (RetXm lo b C { C with gs := C.gs ++ [⟨2, p, 0⟩] } A ca O co (C.i0 + C.i1 + C.gs.length) w) := by
 go_enter Tryz.func85, Tryz.ntmps85
 go_wp2_with fail
 refine (gateX_any lo b C A ca O co 2 p 0 w hp hx hy hn hlo).mono ?_
 rintro e w1 ⟨A1, c1, rfl, h1⟩
 go_wp2
 go_ret
 exact ⟨A1, c1, rfl, h1⟩
theorem oneX_any (lo b : Nat) (C : Ci) (A : Option Addr) (ca : Nat) (O : Option Addr) (co : Nat) (w : World) (hp : PX w lo b C A ca O co) (hx : 0 ≤ C.i0 ∧ C.i0 ≤ 20) (hy : 0 ≤ C.i1 ∧ C.i1 ≤ 20) (hn : C.gs.length ≤ 200000) (hlo : lo ≤ w.heap.size) :
 Calls Tryz.prog 84 #[.pointer (some ⟨b, 0, none⟩)] w (RetXm lo b C { C with gs := C.gs ++ [⟨3, 0, 0⟩] } A ca O co (C.i0 + C.i1 + C.gs.length) w) := by
 go_enter Tryz.func84, Tryz.ntmps84
 go_wp2_with fail
 refine (gateX_any lo b C A ca O co 3 0 0 w hp hx hy hn hlo).mono ?_
 rintro e w1 ⟨A1, c1, rfl, h1⟩
 go_wp2
 go_ret
 exact ⟨A1, c1, rfl, h1⟩
end Go.Proofs.YtnhmfedegfcflaaGreatDoor
