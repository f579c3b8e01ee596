/- Contracts of the library's repetition of a list of one number. -/
import Derived.Test.YtadgmbkpbgcdjaaForm
import Derived.Laws.CopyOwn
import Derived.Deep.RegionLaw
namespace Go.Proofs.Ytadgmbkpbgcdjaa
open Go.RowKit
set_option linter.unusedVariables false
set_option linter.unusedSimpArgs false

theorem ofInt_u64 {a : Nat} (ha : a < 18446744073709551616) : (BitVec.ofInt 64 (a : Int)).toNat = a := by
  rw [BitVec.ofInt_natCast, BitVec.toNat_ofNat]; exact Nat.mod_eq_of_lt (by omega)
theorem u64_mask {a : Nat} (ha : a < 4294967296) : bits .and .u64 (a : Int) 4294967295 = (a : Int) := by
  show IntKind.u64.wrap ((BitVec.ofInt 64 (a : Int) &&& BitVec.ofInt 64 ((4294967295 : Nat) : Int)).toNat : Int) = _
  rw [BitVec.toNat_and, ofInt_u64 (by omega), ofInt_u64 (by omega), show (4294967295 : Nat) = 2 ^ 32 - 1 from rfl, Nat.and_two_pow_sub_one_eq_mod, Nat.mod_eq_of_lt (by omega), IntKind.wrap_u64]
  omega
/-- k values v, and then zeros up to n. -/
def repC (n : Nat) (v : Int) (k : Nat) : List Value := List.replicate k (.int .i64 v) ++ List.replicate (n - k) (.int .i64 0)
theorem repC_len {n k : Nat} (v : Int) (h : k ≤ n) : (repC n v k).length = n := by simp [repC]; omega
theorem repC_next {n k c : Nat} (v : Int) (h : k + c ≤ n) : splice (repC n v k) k (List.replicate c (.int .i64 v)) = repC n v (k + c) := by
  unfold splice repC
  rw [List.take_append_of_le_length (by simp), List.take_of_length_le (by simp), List.length_replicate, List.drop_append]
  simp only [List.length_replicate, List.drop_replicate, List.replicate_append_replicate]
  rw [show k - (k + c) = 0 from by omega, show n - k - (k + c - k) = n - (k + c) from by omega]
  simp [← List.append_assoc, List.replicate_append_replicate]
theorem repC_all (n : Nat) (v : Int) : repC n v n = (List.replicate n v).map (Value.int .i64) := by simp [repC]

theorem Mul64_one (n : Nat) (w : World) (hn : n ≤ 1000000) : Calls Try.prog 110 #[.int .u64 1, .int .u64 n] w fun e w' => e = .returned (.tuple #[.int .u64 0, .int .u64 n]) ∧ w = w' := by
  have e1 : bits .and .u64 1 4294967295 = 1 := by decide
  have e2 : bits .and .u64 (n : Int) 4294967295 = n := u64_mask (by omega)
  have e0 : bits .and .u64 0 4294967295 = 0 := by decide
  have e3 : (n : Int) / 4294967296 = 0 := by omega
  have e4 : IntKind.u64.wrap 0 = 0 := by decide
  go_enter Try.func110, Try.ntmps110
  go_wp2
  go_ret2
  exact ⟨by simp [e4], rfl⟩

theorem Mul_one (n : Nat) (w : World) (hn : n ≤ 1000000) : Calls Try.prog 107 #[.int .u64 1, .int .u64 n] w fun e w' => e = .returned (.tuple #[.int .u64 0, .int .u64 n]) ∧ w = w' := by
  go_enter Try.func107, Try.ntmps107
  go_wp2_with fail
  refine (Mul64_one n _ hn).mono ?_
  rintro e w1 ⟨rfl, rfl⟩
  go_wp2
  go_ret2
  exact ⟨rfl, rfl⟩

theorem info_int1 : (Try.prog.info? 3).map (·.size) = some 1 := by kernel_rfl
theorem repC_cell {w : World} {g n k m : Nat} {v : Int} {fr : Nat × Nat} (hg : w.heap[g]? = some (.cells (repC n v k).toArray 3 fr)) (hm : m ≤ k) : ∀ j u, (List.replicate m (Value.int .i64 v))[j]? = some u → w.cell? ((⟨g, 0, none⟩ : Addr).add j) = some u := by
  intro j u hu
  have hj : j < m := by
    rcases Nat.lt_or_ge j m with h | h
    · exact h
    · rw [List.getElem?_eq_none (by simpa using h)] at hu; cases hu
  rw [addr_add, Nat.zero_add, cell_of_row _ g j _ _ _ hg]
  rw [List.getElem?_replicate, if_pos hj] at hu
  rw [← hu]
  simp [repC, List.getElem?_append_left (show j < (List.replicate k (Value.int .i64 v)).length by simp; omega), show j < k by omega]
theorem made_heap {w3 : World} {B g k : Nat} (v : Int) (h : w3.ownsRow B 3 1 (.slice (some ⟨g, 0, none⟩) k k) k (madeCells (Value.int .i64 0).cells (k * 1)).toList) : w3.heap[g]? = some (.cells (repC k v 0).toArray 3 (0, 0)) := by
  have hm : (madeCells (Value.int .i64 0).cells (k * 1)).toList = repC k v 0 := by simp [Value.cells, toList_madeCells_one, repC]
  rw [hm] at h
  rcases h.2 with ⟨hv, _⟩ | ⟨g', cap, cur, hv, _, hg, _, _, hs, ht⟩
  · simp at hv
  · simp only [Value.slice.injEq, Option.some.injEq, Addr.mk.injEq, and_true, true_and] at hv
    obtain ⟨rfl, rfl⟩ := hv
    have : cur.toList = repC k v 0 := by rw [← ht, List.take_of_length_le (by simp; omega)]
    rw [hg, ← this]
theorem rep_own {w' : World} {g k : Nat} {v : Int} {lo : Nat} (hg : w'.heap[g]? = some (.cells (repC k v k).toArray 3 (0, 0))) (hl : lo ≤ g) (hk : k ≤ 1000) : Own w' lo w'.heap.size (.slice (some ⟨g, 0, none⟩) k k) k (List.replicate k v) := by
  refine Own.mk_ ⟨by simp, .inr ⟨g, k, _, rfl, hl, hg, Nat.le_refl _, by unfold maxLen; omega, by simp [repC_len v (Nat.le_refl k)], ?_⟩⟩
  rw [← repC_all, List.take_of_length_le (by simp [repC_len v (Nat.le_refl k)])]
set_option maxRecDepth 100000 in
set_option maxHeartbeats 1600000 in
theorem Repeat_any (A : Option Addr) (c k : Nat) (v : Int) (w : World) (ha : RI w A 1 [v]) (hk : k ≤ 1000) :
    Calls Try.prog 102 #[.slice A 1 c, .int .i64 k] w (RetI w (List.replicate k v)) := by
  obtain ⟨b, o, rfl, hbB, c1⟩ := ha.at_ (k := 0) (by omega)
  have hv : gi [v] 0 = v := rfl
  rw [hv, Nat.add_zero] at c1
  obtain ⟨i0, hi, hz0, hz1, hz2⟩ := info_parts info_int
  clear ha
  rcases Nat.eq_zero_or_pos k with h0 | h0
  · subst h0
    go_enter Try.func102, Try.ntmps102
    go_wp2_with fail
    refine (Mul_one 0 _ (by omega)).mono ?_
    rintro e w1 ⟨rfl, rfl⟩
    go_wp2_with (first | (at_make; refine wpList_make_full _ rfl _ _ 23 rfl w.heap.size 3 i0 (.int .i64 0) 1 Try.underlying23 hi hz0 hz1 _ _ _ _ 0 rfl rfl rfl rfl (by rw [hz2]; omega) (by unfold maxLen; omega) (Nat.le_refl _) ?_; intro w3 hown hgrow; have hg3 := made_heap v hown; have hb3 := below_of_grownBy hgrow; have c3 := cell_below c1 hb3) | (have _ := hg3; refine wpList_copy_splice rfl _ _ 23 23 rfl 3 Try.underlying23 info_int1 _ _ _ _ _ _ rfl rfl w.heap.size 0 _ 3 hg3 [] rfl (fun h => absurd h (by simp)) (by simp) (fun u hu => by simp at hu) w.heap.size w hb3 (Nat.le_refl _) ?_; intro w4 hg4 hb4))
    go_loopw [8] (fun i wr => i = .int .i64 0 ∧ w4 = wr) (fun _ _ => 0)
    case atStart => exact ⟨rfl, rfl⟩
    case round =>
      obtain ⟨rfl, rfl⟩ := hrel
      go_wp2
      go_ret
      exact RetI.mk_ rfl rfl (rep_own (k := 0) hg4.out (Nat.le_refl _) (by omega)) hb4
  · have h1k : (1 : Nat) ≤ k := h0
    go_enter Try.func102, Try.ntmps102
    go_wp2_with fail
    refine (Mul_one k _ (by omega)).mono ?_
    rintro e w1 ⟨rfl, rfl⟩
    go_wp2_with (first | (at_make; refine wpList_make_full _ rfl _ _ 23 rfl w.heap.size 3 i0 (.int .i64 0) 1 Try.underlying23 hi hz0 hz1 _ _ _ _ k rfl rfl rfl rfl (by rw [hz2]; omega) (by unfold maxLen; omega) (Nat.le_refl _) ?_; intro w3 hown hgrow; have hg3 := made_heap v hown; have hb3 := below_of_grownBy hgrow; have c3 := cell_below c1 hb3) | (have _ := hg3; refine wpList_copy_splice rfl _ _ 23 23 rfl 3 Try.underlying23 info_int1 _ _ _ _ _ _ rfl rfl w.heap.size 0 _ 3 hg3 [.int .i64 v] (by simp [Nat.min_def]; omega) (fun _ => ⟨rfl, ⟨b, o, none⟩, rfl, fun j u hu => by cases j with | zero => (simp at hu; subst hu; rw [addr_add]; exact c3) | succ j => simp at hu⟩) (by rw [repC_len v (Nat.zero_le _)]; simpa using h1k) (fun u hu => by simp at hu; subst hu; rfl) w.heap.size w hb3 (Nat.le_refl _) ?_; intro w4 hg4 hb4))
    have hst := Lib.hid (show w4.heap[w.heap.size]? = some (.cells (repC k v 1).toArray 3 (0, 0)) from by rw [hg4.out, ← repC_next (k := 0) (c := 1) v (by omega)]; rfl)
    clear hg4
    go_loopw [8] (fun i wr => ∃ m : Nat, 1 ≤ m ∧ m ≤ k ∧ i = .int .i64 m ∧ Hid (wr.heap[w.heap.size]? = some (.cells (repC k v m).toArray 3 (0, 0))) ∧ Below w.heap.size w wr) (fun i _ => k - (intOf i).toNat)
    case atStart => exact ⟨1, Nat.le_refl _, h1k, rfl, hst, hb4⟩
    case round =>
      clear hst hb4
      obtain ⟨m, hm1, hm, rfl, hgm, hb⟩ := hrel
      by_cases hlt : m < k
      · have hmk : (m : Int) ≤ k := by omega
        have hkm : ¬ (k = m) := by omega
        obtain ⟨q, hq⟩ : ∃ q, q = min m (k - m) := ⟨_, rfl⟩
        have hq1 : 1 ≤ q ∧ q ≤ m ∧ m + q ≤ k := by omega
        go_wp2_with fail
        go_region_law (first | (simp only [Act.put, List.setIfInBounds_toArray, List.set_cons_zero, List.set_cons_succ]; refine step_copy_splice (by rfl) _ _ 23 23 (by rfl) 3 Try.underlying23 info_int1 _ _ _ _ _ _ (by rfl) (by rfl) w.heap.size m _ 3 hgm.out (List.replicate q (.int .i64 v)) (by rw [List.length_replicate, hq]) (fun _ => ⟨by simp [hkm], ⟨w.heap.size, 0, none⟩, by simp, repC_cell hgm.out hq1.2.1⟩) (by rw [repC_len v hm, List.length_replicate]; exact hq1.2.2) (by intro u hu; rw [List.eq_of_mem_replicate hu]; rfl) w.heap.size w (below_drewN hb 1) (Nat.le_refl _) ?_; intro w5 hg5 hb5))
        have hwr : IntKind.i64.wrap ((m : Int) + ((min m (k - m) : Nat) : Int)) = ((m + q : Nat) : Int) := by
          rw [← hq]; exact (IntWalk.i64_in _ (by omega)).trans (by omega)
        have hg6 : Hid (w5.heap[w.heap.size]? = some (.cells (repC k v (m + q)).toArray 3 (0, 0))) := Lib.hid (by rw [hg5.out, repC_next v hq1.2.2])
        rw [hwr]
        clear hwr hg5 hgm hb hq
        simp only [Act.put, List.getElem_toArray, List.getElem_cons_succ, List.getElem_cons_zero, List.setIfInBounds_toArray, List.set_cons_zero, List.set_cons_succ]
        go_wp2
        go_roundw
        case rel => exact ⟨m + q, by omega, hq1.2.2, by go_num, hg6, hb5⟩
        case measure => simp [intOf]; omega
      · obtain rfl : m = k := Nat.le_antisymm hm (Nat.le_of_not_lt hlt)
        go_wp2
        go_ret
        exact RetI.mk_ (by simp) rfl (rep_own hgm.out (Nat.le_refl _) (by omega)) hb

end Go.Proofs.Ytadgmbkpbgcdjaa
