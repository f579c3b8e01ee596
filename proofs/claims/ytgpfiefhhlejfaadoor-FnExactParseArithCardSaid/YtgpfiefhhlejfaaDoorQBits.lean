/- Contracts of small functions: ranges, bits, primes, tests of lists, closures handed to the library's search. Lengths up to 2^21. -/
import Derived.Test.YtgpfiefhhlejfaaDoorQPlain
namespace Go.Proofs.YtgpfiefhhlejfaaDoor
open Go.RowKit
set_option linter.unusedVariables false
set_option linter.unusedSimpArgs false

theorem within_any (n lo hi : Int) (r : Bool) (hr : inB lo hi n = r) (w : World) :
    Calls Tryd.prog 58 #[.int .i64 n, .int .i64 lo, .int .i64 hi] w fun e w' => e = .returned (.bool r) ∧ w = w' := by
  subst hr
  by_cases h1 : lo ≤ n
  · by_cases h2 : n ≤ hi
    · go_enter Tryd.func58, Tryd.ntmps58
      go_wp2
      go_ret
      exact ⟨by rw [inB_t ⟨h1, h2⟩]; rfl, rfl⟩
    · go_enter Tryd.func58, Tryd.ntmps58
      go_wp2
      go_ret
      exact ⟨by rw [inB_f (by omega)]; rfl, rfl⟩
  · go_enter Tryd.func58, Tryd.ntmps58
    go_wp2
    go_ret
    exact ⟨by rw [inB_f (by omega)]; rfl, rfl⟩

theorem l1In_any (n lo hi : Int) (r : Bool) (hr : inB lo hi n = r) (w : World) :
    Calls Tryd.prog 50 #[.int .i64 n, .int .i64 lo, .int .i64 hi] w fun e w' => e = .returned (.bool r) ∧ w = w' := by
  subst hr
  by_cases h1 : lo ≤ n
  · by_cases h2 : n ≤ hi
    · go_enter Tryd.func50, Tryd.ntmps50
      go_wp2
      go_ret
      exact ⟨by rw [inB_t ⟨h1, h2⟩]; rfl, rfl⟩
    · go_enter Tryd.func50, Tryd.ntmps50
      go_wp2
      go_ret
      exact ⟨by rw [inB_f (by omega)]; rfl, rfl⟩
  · go_enter Tryd.func50, Tryd.ntmps50
    go_wp2
    go_ret
    exact ⟨by rw [inB_f (by omega)]; rfl, rfl⟩

theorem IsPrime_any (p : Int) (w : World) : Calls Tryd.prog 70 #[.int .i64 p] w fun e w' => e = .returned (.bool (primeB p)) ∧ w = w' := by
  by_cases hp : 2 ≤ p ∧ p ≤ 251
  · obtain ⟨hp1, hp2⟩ := hp
    go_enter Tryd.func70, Tryd.ntmps70
    go_wp2_with (go_at_call 58; refine (within_any _ _ _ true (inB_t (by omega)) _).mono ?_; rintro e w' ⟨rfl, rfl⟩)
    go_loop [3] (fun i => ∃ k : Nat, 2 ≤ k ∧ k ≤ 16 ∧ i = .int .i64 k ∧ noDiv p k) (fun i => 17 - (intOf i).toNat)
    case atStart => exact ⟨2, by omega, by omega, rfl, noDiv_two p⟩
    case round =>
      obtain ⟨k, hk2, hk16, rfl, hnd⟩ := hrel
      have hkk0 : (0 : Int) ≤ (k : Int) * k := Int.mul_nonneg (by omega) (by omega)
      have hkk1 : (k : Int) * k ≤ 16 * 16 := Int.mul_le_mul (by omega) (by omega) (by omega) (by omega)
      by_cases hle : (k : Int) * k ≤ p
      · have hk15 : k < 16 := by
          rcases Nat.lt_or_ge k 16 with h | h
          · exact h
          · have : (16 : Int) * 16 ≤ (k : Int) * k := Int.mul_le_mul (by omega) (by omega) (by omega) (by omega)
            omega
        have hkne : ((k : Int) == 0) = false := by simp; omega
        have hk2' : (2 : Int) ≤ (k : Int) := by omega
        by_cases hd : (p % (k : Int) == 0) = true
        · have hf := primeB_div hk2 hk15 hle (by simpa using hd)
          have HF := Lib.hid hf
          clear hf hnd
          go_wp2
          go_ret
          exact ⟨by rw [HF.out]; rfl, rfl⟩
        · have hd' : (p % (k : Int) == 0) = false := by simpa using hd
          have hnd2 := noDiv_succ hnd hd'
          clear hd
          go_wp2
          go_round
          case rel => exact ⟨k + 1, by omega, by omega, by go_num, hnd2⟩
          case measure => simp [intOf]; omega
      · have hf := primeB_none hp1 hp2 (by omega) hnd
        have HF := Lib.hid hf
        clear hf hnd
        go_wp2
        go_ret
        exact ⟨by rw [HF.out]; rfl, rfl⟩
  · have HF := Lib.hid (primeB_out hp)
    go_enter Tryd.func70, Tryd.ntmps70
    go_wp2_with (go_at_call 58; refine (within_any _ _ _ false (inB_f hp) _).mono ?_; rintro e w' ⟨rfl, rfl⟩)
    go_ret
    exact ⟨by rw [HF.out]; rfl, rfl⟩

theorem fpGood_any (p : Int) (w : World) : Calls Tryd.prog 66 #[.int .i64 p] w fun e w' => e = .returned (.bool (primeB p)) ∧ w = w' := by
  by_cases hp : 2 ≤ p ∧ p ≤ 251
  · obtain ⟨hp1, hp2⟩ := hp
    go_enter Tryd.func66, Tryd.ntmps66
    go_wp2_with (go_at_call 50; refine (l1In_any _ _ _ true (inB_t (by omega)) _).mono ?_; rintro e w' ⟨rfl, rfl⟩)
    go_loop [3] (fun i => ∃ k : Nat, 2 ≤ k ∧ k ≤ 16 ∧ i = .int .i64 k ∧ noDiv p k) (fun i => 17 - (intOf i).toNat)
    case atStart => exact ⟨2, by omega, by omega, rfl, noDiv_two p⟩
    case round =>
      obtain ⟨k, hk2, hk16, rfl, hnd⟩ := hrel
      have hkk0 : (0 : Int) ≤ (k : Int) * k := Int.mul_nonneg (by omega) (by omega)
      have hkk1 : (k : Int) * k ≤ 16 * 16 := Int.mul_le_mul (by omega) (by omega) (by omega) (by omega)
      by_cases hle : (k : Int) * k ≤ p
      · have hk15 : k < 16 := by
          rcases Nat.lt_or_ge k 16 with h | h
          · exact h
          · have : (16 : Int) * 16 ≤ (k : Int) * k := Int.mul_le_mul (by omega) (by omega) (by omega) (by omega)
            omega
        have hkne : ((k : Int) == 0) = false := by simp; omega
        have hk2' : (2 : Int) ≤ (k : Int) := by omega
        by_cases hd : (p % (k : Int) == 0) = true
        · have hf := primeB_div hk2 hk15 hle (by simpa using hd)
          have HF := Lib.hid hf
          clear hf hnd
          go_wp2
          go_ret
          exact ⟨by rw [HF.out]; rfl, rfl⟩
        · have hd' : (p % (k : Int) == 0) = false := by simpa using hd
          have hnd2 := noDiv_succ hnd hd'
          clear hd
          go_wp2
          go_round
          case rel => exact ⟨k + 1, by omega, by omega, by go_num, hnd2⟩
          case measure => simp [intOf]; omega
      · have hf := primeB_none hp1 hp2 (by omega) hnd
        have HF := Lib.hid hf
        clear hf hnd
        go_wp2
        go_ret
        exact ⟨by rw [HF.out]; rfl, rfl⟩
  · have HF := Lib.hid (primeB_out hp)
    go_enter Tryd.func66, Tryd.ntmps66
    go_wp2_with (go_at_call 50; refine (l1In_any _ _ _ false (inB_f hp) _).mono ?_; rintro e w' ⟨rfl, rfl⟩)
    go_ret
    exact ⟨by rw [HF.out]; rfl, rfl⟩

set_option maxHeartbeats 400000 in
theorem l1All_any (A : Option Addr) (n c : Nat) (lo hi : Int) (xs : List Int) (w : World) (ha : RI w A n xs) (hn : n ≤ 2097152) :
    Calls Tryd.prog 53 #[.slice A n c, .int .i64 lo, .int .i64 hi] w fun e w' => e = .returned (.bool (allB lo hi xs)) ∧ w = w' := by
  have hl := ha.len
  go_enter Tryd.func53, Tryd.ntmps53
  go_wp2
  go_loop [11] (fun i => ∃ k : Nat, k ≤ n ∧ i = .int .i64 k ∧ Hid (allB lo hi (xs.take k) = true)) (fun i => n - (intOf i).toNat)
  case atStart => exact ⟨0, Nat.zero_le _, rfl, rfl⟩
  case round =>
    obtain ⟨k, hk, rfl, hall⟩ := hrel
    by_cases hlt : k < n
    · obtain ⟨b, o, rfl, hbB, c1⟩ := ha.at_ hlt
      clear ha
      cases hd : inB lo hi (gi xs k) with
      | true =>
        have HD := Lib.hid hd
        clear hd
        go_wp2_with (go_at_call 50; refine (l1In_any _ _ _ true HD.out _).mono ?_; rintro e w' ⟨rfl, rfl⟩)
        go_round
        case rel => exact ⟨k + 1, by omega, by go_num, by show _ = _; rw [allB_take (by omega), hall.out, HD.out]; rfl⟩
        case measure => simp [intOf]; omega
      | false =>
        have HD := Lib.hid hd
        clear hd
        go_wp2_with (go_at_call 50; refine (l1In_any _ _ _ false HD.out _).mono ?_; rintro e w' ⟨rfl, rfl⟩)
        go_ret
        exact ⟨by rw [allB_false (by omega) HD.out]; rfl, rfl⟩
    · obtain rfl : k = n := by omega
      go_wp2
      go_ret
      refine ⟨?_, rfl⟩
      have := hall.out
      rw [List.take_of_length_le (by omega)] at this
      rw [this]; rfl

end Go.Proofs.YtgpfiefhhlejfaaDoor
