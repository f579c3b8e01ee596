/- Operations and kinds of lines. Widths from 0 to 10. -/
import Derived.Test.YtenknpcbbcbciaaGreatQS05
namespace Go.Proofs.YtenknpcbbcbciaaGreat
open Go.RowKit
set_option linter.unusedVariables false
set_option linter.unusedSimpArgs false
theorem opB_one {op : Str} (h : opB op = true) : ∃ c, op = [c] := by
 simp only [opB, List.contains_eq_mem, List.mem_cons, List.not_mem_nil, or_false, decide_eq_true_eq] at h
 rcases h with h | h | h | h | h | h | h | h <;> exact ⟨_, h⟩
def opsL : List Str := [[43], [45], [42], [60], [61], [38], [124], [94]]
theorem opB_mem {op : Str} : opB op = true ↔ op ∈ opsL := by simp [opB, opsL]
theorem idx_op (c : UInt8) : decide (0 ≤ Lib.indexByte [43, 45, 42, 60, 61, 38, 124, 94] c) = opB [c] := by
 by_cases h : opB [c] = true
 ·have h' := opB_mem.1 h
  simp only [opsL, List.mem_cons, List.cons.injEq, and_true, List.not_mem_nil, or_false] at h'
  rcases h' with rfl | rfl | rfl | rfl | rfl | rfl | rfl | rfl <;> decide
 ·have h' : ¬ [c] ∈ opsL := fun hc => h (opB_mem.2 hc)
  simp only [opsL, List.mem_cons, List.cons.injEq, and_true, List.not_mem_nil, or_false, not_or] at h'
  obtain ⟨h1, h2, h3, h4, h5, h6, h7, h8⟩ := h'
  rw [Bool.not_eq_true] at h
  rw [h]
  simp [Lib.indexByte, Ne.symm h1, Ne.symm h2, Ne.symm h3, Ne.symm h4, Ne.symm h5, Ne.symm h6, Ne.symm h7, Ne.symm h8, h1, h2, h3, h4, h5, h6, h7, h8]
theorem Zbn (k : Int) (w : World) : Calls Tryz.prog 136 #[.int .i64 k] w fun e w' => e = .returned (.int .i64 (partsN k : Nat)) ∧ w = w' := by
 by_cases h3 : k = 3
 ·subst h3
  go_enter Tryz.func136, Tryz.ntmps136
  go_wp2
  go_ret
  exact ⟨rfl, rfl⟩
 by_cases h4 : k = 4
 ·subst h4
  go_enter Tryz.func136, Tryz.ntmps136
  go_wp2
  go_ret
  exact ⟨rfl, rfl⟩
 by_cases h6 : k = 6
 ·subst h6
  go_enter Tryz.func136, Tryz.ntmps136
  go_wp2
  go_ret
  exact ⟨rfl, rfl⟩
 by_cases h5 : k = 5
 ·subst h5
  go_enter Tryz.func136, Tryz.ntmps136
  go_wp2
  go_ret
  exact ⟨rfl, rfl⟩
 have t3 : (k == 3) = false := by simp [h3]
 have t4 : (k == 4) = false := by simp [h4]
 have t5 : (k == 5) = false := by simp [h5]
 have t6 : (k == 6) = false := by simp [h6]
 have HR : Hid (partsN k = 0) := zH (by simp [partsN, h3, h4, h5, h6])
 clear h3 h4 h5 h6
 go_enter Tryz.func136, Tryz.ntmps136
 go_wp2
 go_ret
 exact ⟨by rw [HR.out]; rfl, rfl⟩
theorem no_snocS {l : List Str} {s : Str} {k : Nat} (h : ∀ j, j < k → sx l j ≠ s) (hk : sx l k ≠ s) : ∀ j, j < k + 1 → sx l j ≠ s := fun j hj => by
 rcases Nat.lt_or_ge j k with h1 | h1
 ·exact h j h1
 ·obtain rfl : j = k := by omega
  exact hk
theorem Zdt (A : Option Addr) (n c : Nat) (l : List Str) (s : Str) (w : World) (ha : RX w A n l) (hn : n ≤ 2097152) :
 Calls Tryz.prog 168 #[.slice A n c, .string (bs s)] w fun e w' => e = .returned (.bool (l.contains s)) ∧ w = w' := by
 have hl := ha.len
 go_enter Tryz.func168, Tryz.ntmps168
 go_wp2
 go_loopw [9] (fun v wr => ∃ k : Nat, k ≤ n ∧ v = .int .i64 k ∧ Hid (∀ j, j < k → sx l j ≠ s) ∧ w = wr) (fun v _ => n - (intOf v).toNat)
 case atStart => exact ⟨0, Nat.zero_le _, rfl, zH (fun j hj => by omega), rfl⟩
 case round =>
  obtain ⟨k, hk, rfl, hno, rfl⟩ := hrel
  by_cases hlt : k < n
  ·obtain ⟨b, o, rfl, hbB, c0⟩ := ha.at_ hlt
   clear ha
   by_cases h : sx l k = s
   ·have HR : Hid (l.contains s = true) := zH (by
     rw [List.contains_eq_mem, decide_eq_true_eq, ← h]
     simp [sx, show k < l.length by omega])
    have t := bs_is2 h
    clear h
    go_wp2
    go_ret
    exact ⟨by rw [HR.out]; rfl, rfl⟩
   ·have HQ := zH h
    have t := bs_not2 h
    clear h
    go_wp2
    go_roundw
    case rel => exact ⟨k + 1, by omega, by go_num, zH (no_snocS hno.out HQ.out), by trivial⟩
    case measure => simp [intOf]; omega
  ·obtain rfl : n = k := Nat.le_antisymm (Nat.le_of_not_lt hlt) hk
   have HR : Hid (l.contains s = false) := zH (by
    rw [List.contains_eq_mem, decide_eq_false_iff_not]
    intro hm
    obtain ⟨j, hj, e⟩ := List.getElem_of_mem hm
    exact hno.out j (by omega) (by simp [sx, hj, e]))
   go_wp2
   go_ret
   exact ⟨by rw [HR.out]; rfl, rfl⟩
theorem Zen (w : World) : Calls Tryz.prog 135 #[] w fun e w' => ∃ A, e = .returned (.slice A 8 8) ∧ RX w' A 8 opsL ∧ Below w.heap.size w w' := by
 go_enter Tryz.func135, Tryz.ntmps135
 go_wp2
 go_ret
 refine ⟨_, rfl, ⟨rfl, fun _ => ⟨_, _, rfl, by simp, fun j hj => ?_⟩⟩, bA⟩
 rw [Nat.zero_add]
 have hj' : j = 0 ∨ j = 1 ∨ j = 2 ∨ j = 3 ∨ j = 4 ∨ j = 5 ∨ j = 6 ∨ j = 7 := by omega
 rcases hj' with rfl | rfl | rfl | rfl | rfl | rfl | rfl | rfl <;> exact Zaf _ _ _ _ rfl
set_option maxHeartbeats 1600000 in
theorem laTwo_any (op : Str) (u v : Int) (w : World) (hu : 0 ≤ u ∧ u ≤ 10) :
 Calls Tryz.prog 156 #[.string (bs op), .int .i64 u, .int .i64 v] w fun e w' => e = .returned (.int .i64 (twoW op u v)) ∧ Below w.heap.size w w' := by
 have h2 : IntKind.i64.wrap (2 * u) = 2 * u := by rw [IntKind.wrap_i64] <;> omega
 by_cases huv : u = v
 ·subst huv
  have t0 : (u != u) = false := by simp
  cases ho : opB op with
  | false =>
   have HR : Hid (twoW op u u = 0) := zH (by simp [twoW, ho])
   have HO : Hid (opsL.contains op = false) := zH ho
   clear ho
   go_enter Tryz.func156, Tryz.ntmps156
   go_wp2_with fail
   refine (Zen _).mono ?_
   rintro e w1 ⟨A, rfl, hx, hb⟩
   go_wp2_with fail
   refine (Zdt A 8 8 opsL op _ hx (by omega)).mono ?_
   rintro e w2 ⟨rfl, rfl⟩
   rw [HO.out]
   go_wp2
   go_ret
   exact ⟨by rw [HR.out]; rfl, hb⟩
  | true =>
   have HO : Hid (opsL.contains op = true) := zH ho
   by_cases h42 : op = [42]
   ·subst h42
    have t42 := bs_is (x := [42]) rfl
    by_cases h10 : 10 < 2 * u
    ·have HR : Hid (twoW [42] u u = 0) := zH (by simp [twoW, h10])
     clear ho
     go_enter Tryz.func156, Tryz.ntmps156
     go_wp2_with fail
     refine (Zen _).mono ?_
     rintro e w1 ⟨A, rfl, hx, hb⟩
     go_wp2_with fail
     refine (Zdt A 8 8 opsL [42] _ hx (by omega)).mono ?_
     rintro e w2 ⟨rfl, rfl⟩
     rw [HO.out]
     go_wp2
     go_ret
     exact ⟨by rw [HR.out]; rfl, hb⟩
    ·have HR : Hid (twoW [42] u u = 2 * u) := zH (by simp [twoW, ho]; omega)
     clear ho
     go_enter Tryz.func156, Tryz.ntmps156
     go_wp2_with fail
     refine (Zen _).mono ?_
     rintro e w1 ⟨A, rfl, hx, hb⟩
     go_wp2_with fail
     refine (Zdt A 8 8 opsL [42] _ hx (by omega)).mono ?_
     rintro e w2 ⟨rfl, rfl⟩
     rw [HO.out]
     go_wp2
     go_ret
     exact ⟨by rw [HR.out]; rfl, hb⟩
   have t42 := Zac h42
   by_cases h60 : op = [60]
   ·have HR : Hid (twoW op u u = 1) := zH (by subst h60; simp [twoW, opB])
    have t60 := bs_is h60
    clear ho h60 h42
    go_enter Tryz.func156, Tryz.ntmps156
    go_wp2_with fail
    refine (Zen _).mono ?_
    rintro e w1 ⟨A, rfl, hx, hb⟩
    go_wp2_with fail
    refine (Zdt A 8 8 opsL op _ hx (by omega)).mono ?_
    rintro e w2 ⟨rfl, rfl⟩
    rw [HO.out]
    go_wp2
    go_ret
    exact ⟨by rw [HR.out]; rfl, hb⟩
   have t60 := Zac h60
   by_cases h61 : op = [61]
   ·have HR : Hid (twoW op u u = 1) := zH (by subst h61; simp [twoW, opB])
    have t61 := bs_is h61
    clear ho h61 h60 h42
    go_enter Tryz.func156, Tryz.ntmps156
    go_wp2_with fail
    refine (Zen _).mono ?_
    rintro e w1 ⟨A, rfl, hx, hb⟩
    go_wp2_with fail
    refine (Zdt A 8 8 opsL op _ hx (by omega)).mono ?_
    rintro e w2 ⟨rfl, rfl⟩
    rw [HO.out]
    go_wp2
    go_ret
    exact ⟨by rw [HR.out]; rfl, hb⟩
   have t61 := Zac h61
   by_cases hx : True
   ·have HR : Hid (twoW op u u = u) := zH (by simp [twoW, ho, h42, h60, h61])
    clear ho h61 h60 h42
    go_enter Tryz.func156, Tryz.ntmps156
    go_wp2_with fail
    refine (Zen _).mono ?_
    rintro e w1 ⟨A, rfl, hx, hb⟩
    go_wp2_with fail
    refine (Zdt A 8 8 opsL op _ hx (by omega)).mono ?_
    rintro e w2 ⟨rfl, rfl⟩
    rw [HO.out]
    go_wp2
    go_ret
    exact ⟨by rw [HR.out]; rfl, hb⟩
   ·exact absurd trivial hx
 ·have t0 : (u != v) = true := by simpa using huv
  have HR : Hid (twoW op u v = 0) := zH (by simp [twoW, huv])
  clear huv
  go_enter Tryz.func156, Tryz.ntmps156
  go_wp2
  go_ret
  exact ⟨by rw [HR.out]; rfl, Below.refl _ _⟩
set_option maxHeartbeats 1600000 in
theorem resultWidth_any (op : Str) (u : Int) (w : World) (hu : 0 ≤ u ∧ u ≤ 10) (hop : shortS op) :
 Calls Tryz.prog 149 #[.string (bs op), .int .i64 u] w fun e w' => e = .returned (.int .i64 (twoW op u u)) ∧ w' = w := by
 have h2 : IntKind.i64.wrap (2 * u) = 2 * u := by rw [IntKind.wrap_i64] <;> omega
 have hz : (bs op).size = op.length := bs_size op
 have hop' : op.length ≤ 2097152 := hop
 by_cases h1 : op.length = 1
 ·obtain ⟨c, rfl⟩ : ∃ c, op = [c] := by
   match op, h1 with
   | [c], _ => exact ⟨c, rfl⟩
  have hz1 : (bs [c]).size = 1 := hz
  clear hz hop' hop h1
  have hc := Tryz.strings_Contains_one ⟨#[43, 45, 42, 60, 61, 38, 124, 94]⟩ c
  have hid : decide (0 ≤ Lib.indexByte (⟨#[43, 45, 42, 60, 61, 38, 124, 94]⟩ : ByteArray).data.toList c) = opB [c] := idx_op c
  rw [hid] at hc
  have hc' : ∀ w, Calls Tryz.prog 159 #[.string ⟨#[43, 45, 42, 60, 61, 38, 124, 94]⟩, .string (bs [c])] w fun e w' => e = .returned (.bool (opB [c])) ∧ w' = w := hc
  have HC := zH hc'
  clear hid hc hc'
  cases ho : opB [c] with
  | false =>
   have HR : Hid (twoW [c] u u = 0) := zH (by simp [twoW, ho])
   have HO := zH ho
   clear ho
   go_enter Tryz.func149, Tryz.ntmps149
   go_wp2_with fail
   refine (HC.out _).mono ?_
   rintro e w1 ⟨rfl, rfl⟩
   rw [HO.out]
   go_wp2
   go_ret
   exact ⟨by rw [HR.out]; rfl, by trivial⟩
  | true =>
   have HO := zH ho
   by_cases h42 : [c] = [42]
   ·have t42 := bs_is h42
    have hc42 : c = 42 := by simpa using h42
    by_cases h10 : 10 < 2 * u
    ·have HR : Hid (twoW [c] u u = 0) := zH (by subst hc42; simp [twoW, h10])
     clear ho h42 hc42
     go_enter Tryz.func149, Tryz.ntmps149
     go_wp2_with fail
     refine (HC.out _).mono ?_
     rintro e w1 ⟨rfl, rfl⟩
     rw [HO.out]
     go_wp2
     go_ret
     exact ⟨by rw [HR.out]; rfl, by trivial⟩
    ·have HR : Hid (twoW [c] u u = 2 * u) := zH (by subst hc42; simp [twoW, ho]; omega)
     clear ho h42 hc42
     go_enter Tryz.func149, Tryz.ntmps149
     go_wp2_with fail
     refine (HC.out _).mono ?_
     rintro e w1 ⟨rfl, rfl⟩
     rw [HO.out]
     go_wp2
     go_ret
     exact ⟨by rw [HR.out]; rfl, by trivial⟩
   have t42 := Zac h42
   by_cases h60 : [c] = [60]
   ·have HR : Hid (twoW [c] u u = 1) := zH (by rw [h60]; simp [twoW, opB])
    have t60 := bs_is h60
    clear ho h60 h42
    go_enter Tryz.func149, Tryz.ntmps149
    go_wp2_with fail
    refine (HC.out _).mono ?_
    rintro e w1 ⟨rfl, rfl⟩
    rw [HO.out]
    go_wp2
    go_ret
    exact ⟨by rw [HR.out]; rfl, by trivial⟩
   have t60 := Zac h60
   by_cases h61 : [c] = [61]
   ·have HR : Hid (twoW [c] u u = 1) := zH (by rw [h61]; simp [twoW, opB])
    have t61 := bs_is h61
    clear ho h61 h60 h42
    go_enter Tryz.func149, Tryz.ntmps149
    go_wp2_with fail
    refine (HC.out _).mono ?_
    rintro e w1 ⟨rfl, rfl⟩
    rw [HO.out]
    go_wp2
    go_ret
    exact ⟨by rw [HR.out]; rfl, by trivial⟩
   have t61 := Zac h61
   by_cases hx : True
   ·have HR : Hid (twoW [c] u u = u) := zH (by unfold twoW; rw [if_neg (by simp only [ne_eq, not_true_eq_false, ho, Bool.true_eq_false, h42, false_and, or_self, not_false_eq_true]), if_neg h42, if_neg (by simp only [h60, h61, or_self, not_false_eq_true])])
    clear ho h61 h60 h42
    go_enter Tryz.func149, Tryz.ntmps149
    go_wp2_with fail
    refine (HC.out _).mono ?_
    rintro e w1 ⟨rfl, rfl⟩
    rw [HO.out]
    go_wp2
    go_ret
    exact ⟨by rw [HR.out]; rfl, by trivial⟩
   ·exact absurd trivial hx
 ·have t1 : ((op.length : Int) != 1) = true := by simp; omega
  have HR : Hid (twoW op u u = 0) := zH (by
   have : opB op = false := by
    cases hc : opB op with
    | false => rfl
    | true => obtain ⟨c, rfl⟩ := opB_one hc; simp at h1
   simp [twoW, this])
  go_enter Tryz.func149, Tryz.ntmps149
  go_wp2
  go_ret
  exact ⟨by rw [HR.out]; rfl, by trivial⟩
end Go.Proofs.YtenknpcbbcbciaaGreat
