/- The law FnCircuits holds: for every input it returns true, and each argument reads afterwards as it read before. No condition. -/
import Derived.SevenTiedAt
import Derived.Test.YtnhmfedegfcflaaGreatDoorTie
import Derived.Test.YtnhmfedegfcflaaGreatDoorCards
import Derived.Test.YtnhmfedegfcflaaGreatDoorQR25
namespace Go.Proofs.YtnhmfedegfcflaaGreatDoor.lawFnCircuits
open Go.ChangeShapes Go.WideShapes Go.ChangeAt Go.RowKit
open Go.ChangeMaps (open_string shut_string)
set_option linter.unusedVariables false
set_option linter.unusedSimpArgs false
theorem bytes_lt {H : Type} {ts : List TypeId} {ds : List (DataW H)} {j n : Nat} {d : DataW H} (h : (DataW.weightsEach Tryz.prog ts ds).all (· ≤ reachBytes) = true) (ht : ts[j]? = some 22) (hd : ds[j]? = some d) (hn : n = 0 ∨ ∃ es sp, d = .slice es sp ∧ n ≤ es.length) : n ≤ 140737488355328 := by
 rcases hn with rfl | ⟨es, sp, rfl, hn⟩
 ·omega
 ·have h1 := sized_slice h ht hd Tryz.underlying22
  rw [show Tryz.prog.bytesOf 5 = 1 by kernel_rfl] at h1
  unfold reachBytes at h1
  omega
set_option maxRecDepth 100000 in
theorem lifted (os : Os) (started : os.Started) (H : Type) (enc : TypeId × Value → H) :
 ReturnsInHanded {} Tryz.checked os 3 .any (fun w args => (Rows.fnCircuitsSpec.pre enc Tryz.prog Tryz.f3 Rows.fnCircuitsRow.domain false w args ∧ laidMetH Tryz.prog Rows.fnCircuitsRow.laid w) ∧ sizedMet enc Tryz.prog Tryz.f3 (OpenSpec.ofChange Rows.fnCircuitsSpec) false w args) (Rows.fnCircuitsSpec.post enc Tryz.prog Tryz.f3 false true false false) := by
 refine handed_shaped_sized (C := Tryz.checked) (X := fun w _ => laidMetH Tryz.prog Rows.fnCircuitsRow.laid w) (fun _ _ _ hh h => h.of_heap hh) own started (by kernel_rfl) Tryz.func3
  (ChangeSpec.witness_shaped (enc := enc) (C := Tryz.checked) (os := os) (X := fun w _ => laidMetH Tryz.prog Rows.fnCircuitsRow.laid w) false (World.laidAll Tryz.prog os Rows.fnCircuitsRow.laid) #[.slice none 0 0, .slice none 0 0] 8 (World.laidAll_os _ _ _) (World.shaped_of_ZipB (by kernel_rfl) (by kernel_rfl)) (by kernel_rfl) (by kernel_rfl) (by kernel_rfl) (door_fc os _)) ?_
 intro W base args ds gs before hval0 hW _ hwt hsh hL _
 have hval : ∀ (j : Nat) t v, Tryz.f3.params[j]? = some t → args[j]? = some v → Value.okWide Tryz.prog W .any base t v := hval0
 have hW' := hW
 obtain ⟨p, q, hA0, hV, rfl, hfz, hnd⟩ := hW
 have hV1 : DataW.TrodVars enc Tryz.prog W (fun _ => true) [gwName] gs q := hV
 obtain ⟨gv, tv, csv, fv, dv, pv, rfl, _, _, _, _, _⟩ := trodVars_one hV1
 have hA : DataW.TrodAll enc Tryz.prog W 0 (fun _ => true) true Tryz.f3.params.toList args.toList ds p := hA0
 have hwt' : (DataW.weightsEach Tryz.prog (Tryz.f3.params.toList ++ Rows.fnCircuitsSpec.plain.varTypes Tryz.prog) (ds ++ [dv])).all (· ≤ reachBytes) = true := hwt
 rw [Tryz.params3] at hA hval hwt'
 obtain ⟨v0, vs0, d0, ds0, p0, q0, hargs, rfl, rfl, h0, r0⟩ := trodAll_cons hA
 obtain ⟨v1, vs1, d1, ds1, p1, q1, rfl, rfl, rfl, h1, r1⟩ := trodAll_cons r0
 obtain ⟨rfl, rfl, rfl⟩ := trodAll_nil r1
 obtain rfl : args = #[v0, v1] := by cases args; simp_all
 obtain ⟨hT, hE, hG⟩ := laid_fc hL
 have hM := ML_of hsh
 have k0 := h0
 have k1 := h1
 have lt0 : ∀ x ∈ p0, x.block < W.heap.size := by obtain ⟨m, hm⟩ := k0; exact DataW.trod_lt m _ _ _ hm
 have lt1 : ∀ x ∈ p1, x.block < W.heap.size := by obtain ⟨m, hm⟩ := k1; exact DataW.trod_lt m _ _ _ hm
 obtain ⟨Y0, n0, c0, rfl, w0, b0⟩ := RY_of_trod (hval 0 22 v0 rfl rfl) h0
 obtain ⟨Y1, n1, c1, rfl, w1, b1⟩ := RY_of_trod (hval 1 22 v1 rfl rfl) h1
 have z0 := bytes_lt (j := 0) hwt' rfl rfl b0
 have z1 := bytes_lt (j := 1) hwt' rfl rfl b1
 clear hA0 hval0
 refine (walk Y0 n0 c0 Y1 n1 c1 W w0 z0 w1 z1 hT hE hG hM).mono fun e W' ⟨he, bel⟩ => ?_
 subst he
 exact ⟨_, rfl, _, _, _, [], _, _, hW', trodAll_mk1 (shut_bool Tryz.underlying4 _), (trodAll_cons_mk (Below.trod laidOut (by kernel_rfl) (of_decide_eq_true (by kernel_rfl)) k0 bel lt0) (trodAll_cons_mk (Below.trod laidOut (by kernel_rfl) (of_decide_eq_true (by kernel_rfl)) k1 bel lt1) trodAll_mk0)), (Below.trodVars laidOut bel (by kernel_rfl) hV), bel.frame _, fun h => by cases h⟩
theorem over : Rows.fnCircuitsRow.holds Tryz.pinned (OpenSpec.ofChange Rows.fnCircuitsSpec) :=
 OpenClaim.holds_of_wide 3 Tryz.f3 rfl rfl rfl rfl rfl rfl rfl ⟨rfl, rfl, rfl, rfl, rfl⟩ rfl rfl rfl rfl rfl (by kernel_rfl) Tryz.func3 (by kernel_rfl)
  (of_decide_eq_true (by kernel_rfl)) (by unfold Func.isWrapper; first | (rw [if_pos (by decide +kernel)]; kernel_rfl) | (rw [if_neg (by decide +kernel)]; exact ⟨rfl, rfl⟩))
  (fun os started H enc _ => lifted os started H enc)
theorem proved : Rows.FnCircuitsCardSaid :=
 Claim7.holds_tied_plain_at .later [] [.data, .data, .data, .data, .sentinel, .sentinel, .widerDeep, .pinned] true Rows.fnCircuitsCard.stood.harness true
  over (fun _ h => by cases h) (by kernel_rfl) (fun _ h => by cases h) fnCircuits_row_tie rfl ⟨rfl, rfl⟩ (by kernel_rfl) rfl
  (fun f fn hf hfn => by
   obtain rfl : f = 3 := Option.some.inj ((show Tryz.prog.funcNamed Rows.fnCircuitsRow.func = some 3 by kernel_rfl).symm.trans hf) |>.symm
   obtain rfl : fn = Tryz.f3 := (Option.some.inj (Tryz.func3.symm.trans hfn)).symm
   exact ⟨by kernel_rfl, fun j t ht => by
    rw [Tryz.params3] at ht
    have hm : t ∈ [22] := by simpa using Array.mem_of_getElem? ht
    have hall : ([22].all fun u => !Tryz.prog.wantsStandIn u) = true := by kernel_rfl
    exact (show Tryz.prog.wantsStandIn t = false by simpa using List.all_eq_true.1 hall t hm)⟩)
  (by kernel_rfl)
end Go.Proofs.YtnhmfedegfcflaaGreatDoor.lawFnCircuits
