/- The law FnSorting holds: for every input it returns true, and each argument reads afterwards as it read before. No condition. -/
import Derived.SizedLaws
import Derived.Test.YtjeojnfpeppclaaRows
import Derived.Test.YtjeojnfpeppclaaQR18
namespace Go.Proofs.Ytjeojnfpeppclaa.lawFnSorting
open Go.ChangeShapes Go.WideShapes Go.ChangeAt Go.RowKit
open Go.ChangeMaps (open_string shut_string)
set_option linter.unusedVariables false
set_option linter.unusedSimpArgs false
theorem bytes_lt {H : Type} {ts : List TypeId} {ds : List (DataW H)} {j n : Nat} {d : DataW H} (h : (DataW.weightsEach Try.prog ts ds).all (· ≤ reachBytes) = true) (ht : ts[j]? = some 22) (hd : ds[j]? = some d) (hn : n = 0 ∨ ∃ es sp, d = .slice es sp ∧ n ≤ es.length) : n ≤ 140737488355328 := by
 rcases hn with rfl | ⟨es, sp, rfl, hn⟩
 ·omega
 ·have h1 := sized_slice h ht hd Try.underlying22
  rw [show Try.prog.bytesOf 5 = 1 by kernel_rfl] at h1
  unfold reachBytes at h1
  omega
set_option maxRecDepth 100000 in
theorem lifted (os : Os) (started : os.Started) (H : Type) (enc : TypeId × Value → H) :
 ReturnsInHanded {} Try.checked os 3 .any (Rows.fnSortingSpec.pre6 enc Try.prog Try.f3 Rows.fnSortingRow.domain false) (Rows.fnSortingSpec.post enc Try.prog Try.f3 false true false false) := by
 refine returnsInHanded_of_change_sized (C := Try.checked) own started (by kernel_rfl) Try.func3
  (ChangeSpec.witness6 (enc := enc) (C := Try.checked) false ⟨#[], #[.slice none 0 0, .slice none 0 0], []⟩ 8 (by kernel_rfl) (by kernel_rfl) (by kernel_rfl) (by kernel_rfl)) ?_
 intro W base args ds gs before hval0 hW hcnd hwt _
 have hval : ∀ (j : Nat) t v, Try.f3.params[j]? = some t → args[j]? = some v → Value.okWide Try.prog W .any base t v := hval0
 have hW' := hW
 obtain ⟨p, q, hA0, hV, rfl, hfz, hnd⟩ := hW
 have hA : DataW.TrodAll enc Try.prog W 0 (fun _ => true) true Try.f3.params.toList args.toList ds p := hA0
 have hwt' : (DataW.weightsEach Try.prog (Try.f3.params.toList ++ Rows.fnSortingSpec.plain.varTypes Try.prog) (ds ++ gs)).all (· ≤ reachBytes) = true := hwt
 rw [Try.params3] at hA hval hwt'
 obtain ⟨v0, vs0, d0, ds0, p0, q0, hargs, rfl, rfl, h0, r0⟩ := trodAll_cons hA
 obtain ⟨v1, vs1, d1, ds1, p1, q1, rfl, rfl, rfl, h1, r1⟩ := trodAll_cons r0
 obtain ⟨rfl, rfl, rfl⟩ := trodAll_nil r1
 obtain rfl : args = #[v0, v1] := by cases args; simp_all
 obtain ⟨rfl, rfl⟩ := trodVars_none hV
 have k0 := h0
 have k1 := h1
 have lt0 : ∀ x ∈ p0, x.block < W.heap.size := by obtain ⟨m, hm⟩ := k0; exact DataW.trod_lt m _ _ _ hm
 have lt1 : ∀ x ∈ p1, x.block < W.heap.size := by obtain ⟨m, hm⟩ := k1; exact DataW.trod_lt m _ _ _ hm
 obtain ⟨Y0, n0, c0, rfl, w0, b0⟩ := RY_of_trod (hval 0 22 v0 rfl rfl) h0
 obtain ⟨Y1, n1, c1, rfl, w1, b1⟩ := RY_of_trod (hval 1 22 v1 rfl rfl) h1
 have z0 := bytes_lt (j := 0) hwt' rfl rfl b0
 have z1 := bytes_lt (j := 1) hwt' rfl rfl b1
 clear hA0 hval0
 refine (walk Y0 n0 c0 Y1 n1 c1 W w0 z0 w1 z1).mono fun e W' ⟨he, bel⟩ => ?_
 subst he
 exact ⟨_, rfl, _, _, _, [], _, [], hW', trodAll_mk1 (shut_bool Try.underlying4 _), (trodAll_cons_mk (Below.trod laidOut (by kernel_rfl) (of_decide_eq_true (by kernel_rfl)) k0 bel lt0) (trodAll_cons_mk (Below.trod laidOut (by kernel_rfl) (of_decide_eq_true (by kernel_rfl)) k1 bel lt1) trodAll_mk0)), rfl, bel.frame _, fun h => by cases h⟩
theorem over : Rows.fnSortingRow.holds Try.pinned (OpenSpec.ofChange Rows.fnSortingSpec) :=
 OpenClaim.holds_of_wide 3 Try.f3 rfl rfl rfl rfl rfl rfl rfl ⟨rfl, rfl, rfl, rfl, rfl⟩ rfl rfl rfl rfl rfl (by kernel_rfl) Try.func3 (by kernel_rfl)
  (of_decide_eq_true (by kernel_rfl)) (by unfold Func.isWrapper; first | (rw [if_pos (by decide +kernel)]; kernel_rfl) | (rw [if_neg (by decide +kernel)]; exact ⟨rfl, rfl⟩))
  (fun os started H enc _ => lifted os started H enc)
theorem proved : Rows.FnSortingSaid := over
end Go.Proofs.Ytjeojnfpeppclaa.lawFnSorting
