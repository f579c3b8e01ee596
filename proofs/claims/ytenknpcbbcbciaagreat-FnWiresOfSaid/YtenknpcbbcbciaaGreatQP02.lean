/- Contracts of tests of numbers and lists: elements of fields, bits, closures handed to the library's search. Lengths up to 2^21. -/
import Derived.Test.YtenknpcbbcbciaaGreatQP01
namespace Go.Proofs.YtenknpcbbcbciaaGreat
open Go.RowKit
set_option linter.unusedVariables false
set_option linter.unusedSimpArgs false
set_option maxHeartbeats 400000 in
theorem IndexFunc_any (f : FuncId) (hcf : ∀ args w, Sem.run Tryz.prog (callFunc f args) w = .ok (.enter f args) w) (cap : Array Value) (p : Int → Bool) (A : Option Addr) (n c : Nat) (xs : List Int) (w : World) (ha : RI w A n xs) (hn : n ≤ 2097152)
    (hf : Hid (∀ x ∈ xs, ∀ w1, Below w.heap.size w w1 → Calls Tryz.prog f (#[.int .i64 x] ++ cap) w1 fun e w' => e = .returned (.bool (p x)) ∧ Below w1.heap.size w1 w')) :
    Calls Tryz.prog 89 #[.slice A n c, .func (.func f) #[] cap] w fun e w' => e = .returned (.int .i64 (idxP p xs)) ∧ Below w.heap.size w w' := by
  have hl := ha.len
  go_enter Tryz.func89, Tryz.ntmps89
  go_wp2
  go_loopw [8] (fun i wr => ∃ k : Nat, k ≤ n ∧ i = .int .i64 k ∧ Hid ((xs.take k).any p = false) ∧ Below w.heap.size w wr) (fun i _ => n - (intOf i).toNat)
  case atStart => exact ⟨0, Nat.zero_le _, rfl, rfl, Below.refl _ _⟩
  case round =>
    obtain ⟨k, hk, rfl, hall, hb⟩ := hrel
    by_cases hlt : k < n
    · obtain ⟨b, o, rfl, hbB, c1⟩ := ha.at_ hlt
      have c2 := (hb.cell (p := ⟨b, o + k, none⟩) hbB).trans c1
      clear ha c1
      cases hd : p (gi xs k) with
      | true =>
        have HD := Lib.hid hd
        clear hd
        go_wp2_with fail
        refine (hf.out _ (gi_mem (by omega)) _ hb).mono ?_
        rintro e w1 ⟨rfl, hb1⟩
        rw [HD.out]
        go_wp2
        go_ret
        refine ⟨?_, hb.trans (hb1.mono hb.size)⟩
        rw [idxP_some (by omega) hall.out HD.out]; rfl
      | false =>
        have HD := Lib.hid hd
        clear hd
        go_wp2_with fail
        refine (hf.out _ (gi_mem (by omega)) _ hb).mono ?_
        rintro e w1 ⟨rfl, hb1⟩
        rw [HD.out]
        go_wp2
        go_roundw
        case rel => exact ⟨k + 1, by omega, by go_num, any_take_succ (by omega) hall.out HD.out, hb.trans (hb1.mono hb.size)⟩
        case measure => simp [intOf]; omega
    · obtain rfl : k = n := by omega
      go_wp2
      go_ret
      refine ⟨?_, hb⟩
      have := hall.out
      rw [List.take_of_length_le (by omega)] at this
      rw [idxP_none this]; rfl
theorem ContainsFunc_any (f : FuncId) (hcf : ∀ args w, Sem.run Tryz.prog (callFunc f args) w = .ok (.enter f args) w) (cap : Array Value) (p : Int → Bool) (A : Option Addr) (n c : Nat) (xs : List Int) (w : World) (ha : RI w A n xs) (hn : n ≤ 2097152)
    (hf : Hid (∀ x ∈ xs, ∀ w1, Below w.heap.size w w1 → Calls Tryz.prog f (#[.int .i64 x] ++ cap) w1 fun e w' => e = .returned (.bool (p x)) ∧ Below w1.heap.size w1 w')) :
    Calls Tryz.prog 112 #[.slice A n c, .func (.func f) #[] cap] w fun e w' => e = .returned (.bool (xs.any p)) ∧ Below w.heap.size w w' := by
  have hidx : decide (0 ≤ idxP p xs) = xs.any p := by
    unfold idxP; split
    · rename_i h; rw [h]; simp
    · rename_i h; simp at h; simpa using h
  have HI := Lib.hid hidx
  clear hidx
  go_enter Tryz.func112, Tryz.ntmps112
  go_wp2_with fail
  refine (IndexFunc_any f hcf cap p A n c xs _ ha hn hf).mono ?_
  rintro e w1 ⟨rfl, hb1⟩
  go_wp2
  go_ret
  exact ⟨by rw [← HI.out]; rfl, hb1⟩
theorem areAll_1_any (f : FuncId) (hcf : ∀ args w, Sem.run Tryz.prog (callFunc f args) w = .ok (.enter f args) w) (cap : Array Value) (a : Addr) (x : Int) (r : Bool) (w : World) (hc : w.cell? a = some (.func (.func f) #[] cap))
    (hf : Hid (Calls Tryz.prog f (#[.int .i64 x] ++ cap) w fun e w' => e = .returned (.bool r) ∧ Below w.heap.size w w')) :
    Calls Tryz.prog 113 #[.int .i64 x, .pointer (some a)] w fun e w' => e = .returned (.bool !r) ∧ Below w.heap.size w w' := by
  go_enter Tryz.func113, Tryz.ntmps113
  go_wp2_with fail
  refine hf.out.mono ?_
  rintro e w1 ⟨rfl, hb1⟩
  go_wp2
  go_ret
  exact ⟨rfl, hb1⟩
theorem areAll_any (f : FuncId) (hcf : ∀ args w, Sem.run Tryz.prog (callFunc f args) w = .ok (.enter f args) w) (cap : Array Value) (p : Int → Bool) (A : Option Addr) (n c : Nat) (xs : List Int) (w : World) (ha : RI w A n xs) (hn : n ≤ 2097152)
    (hf : Hid (∀ x ∈ xs, ∀ w1, Below w.heap.size w w1 → Calls Tryz.prog f (#[.int .i64 x] ++ cap) w1 fun e w' => e = .returned (.bool (p x)) ∧ Below w1.heap.size w1 w')) :
    Calls Tryz.prog 63 #[.slice A n c, .func (.func f) #[] cap] w fun e w' => e = .returned (.bool (xs.all p)) ∧ Below w.heap.size w w' := by
  have HI : Hid ((!xs.any fun x => !p x) = xs.all p) := Lib.hid (by simp [List.any_eq_not_all_not])
  have hB : Below w.heap.size w (w.alloc (.cells #[.func (.func f) #[] cap] 82)) := (Below.refl _ _).alloc (Nat.le_refl _) _
  go_enter Tryz.func63, Tryz.ntmps63
  go_wp2_with fail
  refine (ContainsFunc_any 113 Tryz.call113 #[.pointer (some ⟨w.heap.size, 0, none⟩)] (fun x => !p x) A n c xs _ (ha.alloc _) hn ?_).mono ?_
  · refine Lib.hid (fun x hx w1 hb1 => ?_)
    have hbw : Below w.heap.size w w1 := hB.trans (hb1.mono (by simp))
    refine areAll_1_any f hcf cap _ x (p x) w1 ?_ (Lib.hid (hf.out x hx w1 hbw))
    rw [hb1.cell (p := ⟨w.heap.size, 0, none⟩) (by simp)]
    rw [cell_of_row _ w.heap.size 0 _ _ _ (heap_alloc_new w _)]
    rfl
  · rintro e w1 ⟨rfl, hb1⟩
    go_wp2
    go_ret
    exact ⟨by rw [← HI.out]; rfl, hB.trans (hb1.mono (by simp))⟩
end Go.Proofs.YtenknpcbbcbciaaGreat
