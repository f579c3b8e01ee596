/- append onto the tail of a row of the call's own. -/
import Derived.Deep.AppendSrc
import Derived.Test.YtimmjppkaadggaaQP16
namespace Go.Proofs.Ytimmjppkaadggaa
open Go.RowKit
set_option linter.unusedVariables false
set_option linter.unusedSimpArgs false
theorem run_app_off (w : World) (ty : TypeId) (lo hi g n oc q c : Nat) (xs : List Int) (v : Int) (hown : Own w lo hi (.slice (some ⟨g, 0, none⟩) n oc) n xs) (hn : 2 ≤ n) (hn2 : n ≤ 1000) (hlo : lo ≤ w.heap.size) (hr : RI w (some ⟨q, 0, none⟩) 1 [v]) :
    ∃ gA oA c' w', (Builtin.append_ #[25, 25] ty #[.slice (some ⟨g, 1, none⟩) (n - 1) (oc - 1), .slice (some ⟨q, 0, none⟩) 1 c]).run Try.prog w = .ok (.slice (some ⟨gA, oA, none⟩) n c') w' ∧
      RI w' (some ⟨gA, oA, none⟩) n (xs.drop 1 ++ [v]) ∧ RI w' (some ⟨g, 0, none⟩) 1 (xs.take 1) ∧ w.grownBy w' (some g) ∧ (gA = g ∨ gA = w.heap.size) := by
  obtain ⟨i, hi0, hz0, hz1, hz2⟩ := info_parts info_int
  have hl := hown.len
  have hcv : w.cell? ⟨q, 0, none⟩ = some (.int .i64 v) := by
    obtain ⟨b, o, hA, _, hc⟩ := hr.at_ (k := 0) (by omega)
    simp only [Option.some.injEq, Addr.mk.injEq, and_true] at hA
    obtain ⟨rfl, rfl⟩ := hA
    simpa [gi] using hc
  have hnews : ∀ j u, [Value.int .i64 v][j]? = some u → w.cell? ((⟨q, 0, none⟩ : Addr).add j) = some u := by
    intro j u hu
    cases j with
    | zero => rw [addr_add]; simp at hu; rw [← hu]; simpa using hcv
    | succ j => simp at hu
  rcases hown.1.2 with ⟨h, _⟩ | ⟨g', cap, cur, h, hgl, hg, hnc, _, hcs, _⟩
  · simp at h
  · simp only [Value.slice.injEq, Option.some.injEq, Addr.mk.injEq, and_true, true_and] at h
    obtain ⟨rfl, rfl⟩ := h
    by_cases hroom : n + 1 ≤ oc
    · have hs : Src Try.prog i.size 25 (.slice (some ⟨q, 0, none⟩) 1 c) 1 [.int .i64 v] w := Src.ofSlice w Try.underlying25 _ _ _ _ (by simp [hz1]) hnews (by simp [Value.oneCell'])
      have hcc : ∀ o, o = n → (w.cell? ⟨g, o, none⟩).isSome = true ∧ w.frozen? ⟨g, o, none⟩ = false := by
        rintro o rfl
        refine ⟨?_, frozen_of_row w g _ cur _ hg⟩
        rw [cell_of_row _ g _ _ _ _ hg]
        simp; omega
      have r1 := run_append_room_src (P := Try.prog) w 25 25 ty 3 i Try.underlying25 hi0 g 1 (n - 1) (oc - 1) _ 1 _ hs (by omega) (fun j hj => (hcc _ (by simp at hj; rw [hz1]; omega)).1) (fun j hj => (hcc _ (by simp at hj; rw [hz1]; omega)).2)
      have r2 := run_append_room_src (P := Try.prog) w 25 25 ty 3 i Try.underlying25 hi0 g 0 n oc _ 1 _ hs (by omega) (fun j hj => (hcc _ (by simp at hj; rw [hz1]; omega)).1) (fun j hj => (hcc _ (by simp at hj; rw [hz1]; omega)).2)
      obtain ⟨A', c', w', r3, h2, h3, h4, h5⟩ := run_appI w ty lo hi n oc 1 c (some ⟨g, 0, none⟩) (some ⟨q, 0, none⟩) xs [v] hown hr (by omega) hlo
      rw [r2] at r3
      simp only [Result.ok.injEq, Value.slice.injEq, true_and] at r3
      obtain ⟨⟨rfl, rfl⟩, hw⟩ := r3
      have he : 1 + (n - 1) * i.size = 0 + n * i.size := by rw [hz1]; omega
      rw [he, show n - 1 + 1 = n by omega, hw] at r1
      have hrd := h2.reads
      refine ⟨g, 1, oc - 1, w', r1, ?_, ?_, ?_, .inl rfl⟩
      · have := hrd.drop_ (k := 1) (by omega)
        rw [List.drop_append_of_le_length (by omega)] at this
        simpa using this
      · have := hrd.take_ (k := 1) (by omega)
        rwa [List.take_append_of_le_length (by omega)] at this
      · simpa [Value.ownBlock] using h3
    · have hoc : oc = n := by omega
      subst hoc
      have hold : ∀ j u, ((xs.drop 1).map (Value.int .i64))[j]? = some u → w.cell? ((⟨g, 1, none⟩ : Addr).add j) = some u := by
        intro j u hu
        have hrd := hown.reads.drop_ (k := 1) (by omega)
        rw [addr_add]
        rw [List.getElem?_map] at hu
        have hj : j < (xs.drop 1).length := by
          rcases Nat.lt_or_ge j (xs.drop 1).length with h | h
          · exact h
          · rw [List.getElem?_eq_none h] at hu; simp at hu
        rw [List.getElem?_eq_getElem hj] at hu
        obtain ⟨b, o, hA, _, hc⟩ := hrd.at_ (k := j) (by simp at hj; omega)
        simp only [Option.some.injEq, Addr.mk.injEq, and_true] at hA
        obtain ⟨rfl, rfl⟩ := hA
        rw [Nat.zero_add] at hc
        rw [hc, gi_lt hj]
        simpa using hu
      have r1 := run_append_grow (P := Try.prog) w 25 ty 3 i (.int .i64 0) Try.underlying25 hi0 hz0 ⟨g, 1, none⟩ (oc - 1) (oc - 1) ((xs.drop 1).map (Value.int .i64)) (by simp [hz1]; omega) hold ⟨q, 0, none⟩ 1 c [.int .i64 v] (by simp [hz1]) hnews (by omega) (by omega) (growslice_fits (by omega) (by rw [hz2]; omega))
      rw [show oc - 1 + 1 = oc by omega] at r1
      have hB : Below w.heap.size w (w.drew.alloc (.cells (((xs.drop 1).map (Value.int .i64)).toArray ++ #[Value.int .i64 v] ++ Builtin.zeroCells (Value.int .i64 0).cells (grownCap w oc (oc - 1) 3 - oc)) 3)) := by
        have := (below_drewN (Below.refl w.heap.size w) 1).alloc (Nat.le_refl _) (.cells (((xs.drop 1).map (Value.int .i64)).toArray ++ #[Value.int .i64 v] ++ Builtin.zeroCells (Value.int .i64 0).cells (grownCap w oc (oc - 1) 3 - oc)) 3)
        exact this
      refine ⟨w.heap.size, 0, _, _, r1, ?_, ?_, ?_, .inr rfl⟩
      · refine ⟨by simp; omega, fun _ => ⟨w.heap.size, 0, rfl, by simp, fun j hj => ?_⟩⟩
        have hh : (w.drew.alloc (.cells (((xs.drop 1).map (Value.int .i64)).toArray ++ #[Value.int .i64 v] ++ Builtin.zeroCells (Value.int .i64 0).cells (grownCap w oc (oc - 1) 3 - oc)) 3)).heap[w.heap.size]? = _ := heap_alloc_new w.drew _
        rw [Nat.zero_add]
        rw [cell_of_row _ w.heap.size j _ _ _ hh]
        have hlen : ((xs.drop 1 ++ [v]).map (Value.int .i64)).length = oc := by simp; omega
        have : (((xs.drop 1).map (Value.int .i64)).toArray ++ #[Value.int .i64 v] ++ Builtin.zeroCells (Value.int .i64 0).cells (grownCap w oc (oc - 1) 3 - oc))[j]? = ((xs.drop 1 ++ [v]).map (Value.int .i64))[j]? := by
          rw [Array.getElem?_append_left (by simp; omega)]
          simp [List.map_append]
        rw [this, List.getElem?_map, List.getElem?_eq_getElem (by simp; omega), gi_lt (by simp; omega)]
        rfl
      · exact (hown.reads.take_ (k := 1) (by omega)).below hB (Nat.le_refl _)
      · exact ⟨hB.os, hB.tape, hB.output, hB.size, fun k hk _ => hB.block k hk⟩
end Go.Proofs.Ytimmjppkaadggaa
