/- Contracts of small functions: ranges, bits, primes, tests of lists, closures handed to the library's search. Lengths up to 2^21. -/
import Derived.Test.YtgenehiiakdadaaQPlain
namespace Go.Proofs.Ytgenehiiakdadaa
open Go.RowKit
set_option linter.unusedVariables false
set_option linter.unusedSimpArgs false

theorem within_any (n lo hi : Int) (r : Bool) (hr : inB lo hi n = r) (w : World) :
    Calls Try.prog 47 #[.int .i64 n, .int .i64 lo, .int .i64 hi] w fun e w' => e = .returned (.bool r) ∧ w = w' := by
  subst hr
  by_cases h1 : lo ≤ n
  · by_cases h2 : n ≤ hi
    · go_enter Try.func47, Try.ntmps47
      go_wp2
      go_ret
      exact ⟨by rw [inB_t ⟨h1, h2⟩]; rfl, rfl⟩
    · go_enter Try.func47, Try.ntmps47
      go_wp2
      go_ret
      exact ⟨by rw [inB_f (by omega)]; rfl, rfl⟩
  · go_enter Try.func47, Try.ntmps47
    go_wp2
    go_ret
    exact ⟨by rw [inB_f (by omega)]; rfl, rfl⟩

theorem l1In_any (n lo hi : Int) (r : Bool) (hr : inB lo hi n = r) (w : World) :
    Calls Try.prog 52 #[.int .i64 n, .int .i64 lo, .int .i64 hi] w fun e w' => e = .returned (.bool r) ∧ w = w' := by
  subst hr
  by_cases h1 : lo ≤ n
  · by_cases h2 : n ≤ hi
    · go_enter Try.func52, Try.ntmps52
      go_wp2
      go_ret
      exact ⟨by rw [inB_t ⟨h1, h2⟩]; rfl, rfl⟩
    · go_enter Try.func52, Try.ntmps52
      go_wp2
      go_ret
      exact ⟨by rw [inB_f (by omega)]; rfl, rfl⟩
  · go_enter Try.func52, Try.ntmps52
    go_wp2
    go_ret
    exact ⟨by rw [inB_f (by omega)]; rfl, rfl⟩

set_option maxHeartbeats 400000 in
theorem l1All_any (A : Option Addr) (n c : Nat) (lo hi : Int) (xs : List Int) (w : World) (ha : RI w A n xs) (hn : n ≤ 2097152) :
    Calls Try.prog 54 #[.slice A n c, .int .i64 lo, .int .i64 hi] w fun e w' => e = .returned (.bool (allB lo hi xs)) ∧ w = w' := by
  have hl := ha.len
  go_enter Try.func54, Try.ntmps54
  go_wp2
  go_loop [11] (fun i => ∃ k : Nat, k ≤ n ∧ i = .int .i64 k ∧ Hid (allB lo hi (xs.take k) = true)) (fun i => n - (intOf i).toNat)
  case atStart => exact ⟨0, Nat.zero_le _, rfl, rfl⟩
  case round =>
    obtain ⟨k, hk, rfl, hall⟩ := hrel
    by_cases hlt : k < n
    · obtain ⟨b, o, rfl, hbB, c1⟩ := ha.at_ hlt
      clear ha
      cases hd : inB lo hi (gi xs k) with
      | true =>
        have HD := Lib.hid hd
        clear hd
        go_wp2_with (go_at_call 52; refine (l1In_any _ _ _ true HD.out _).mono ?_; rintro e w' ⟨rfl, rfl⟩)
        go_round
        case rel => exact ⟨k + 1, by omega, by go_num, by show _ = _; rw [allB_take (by omega), hall.out, HD.out]; rfl⟩
        case measure => simp [intOf]; omega
      | false =>
        have HD := Lib.hid hd
        clear hd
        go_wp2_with (go_at_call 52; refine (l1In_any _ _ _ false HD.out _).mono ?_; rintro e w' ⟨rfl, rfl⟩)
        go_ret
        exact ⟨by rw [allB_false (by omega) HD.out]; rfl, rfl⟩
    · obtain rfl : k = n := by omega
      go_wp2
      go_ret
      refine ⟨?_, rfl⟩
      have := hall.out
      rw [List.take_of_length_le (by omega)] at this
      rw [this]; rfl

end Go.Proofs.Ytgenehiiakdadaa
