/- The laws' own comparison of two lists. Lengths up to 2^21. -/
import Derived.Test.YtgenehiiakdadaaQTable
namespace Go.Proofs.Ytgenehiiakdadaa
open Go.RowKit
set_option linter.unusedVariables false
set_option linter.unusedSimpArgs false

set_option maxHeartbeats 400000 in
theorem sameInts_any (A B : Option Addr) (n c m d : Nat) (xs ys : List Int) (w : World) (ha : RI w A n xs) (hb : RI w B m ys) (hn : n ≤ 2097152) (hm : m ≤ 2097152) :
    Calls Try.prog 16 #[.slice A n c, .slice B m d] w fun e w' => e = .returned (.bool (sameB xs ys)) ∧ ∃ j, w' = w.drewN j := by
  have hl := ha.len
  have hm' := hb.len
  by_cases h0 : n = m
  · subst h0
    have hne : ((n : Int) != n) = false := by simp
    go_enter Try.func16, Try.ntmps16
    go_wp2
    go_loopw [13] (fun i wr => ∃ k j : Nat, k ≤ n ∧ i = .int .i64 k ∧ wr = w.drewN j ∧ Hid (∀ q, q < k → gi xs q = gi ys q)) (fun i _ => n - (intOf i).toNat)
    case atStart => exact ⟨0, 0, Nat.zero_le _, rfl, rfl, Lib.hid fun q hq => absurd hq (by omega)⟩
    case round =>
      obtain ⟨k, j, hk, rfl, rfl, hq⟩ := hrel
      by_cases hlt : k < n
      · obtain ⟨b, o, rfl, hbB, e1⟩ := ha.at_ hlt
        obtain ⟨b', o', rfl, hbB', e2⟩ := hb.at_ hlt
        by_cases h1 : gi xs k = gi ys k
        · have H1 := Lib.hid h1
          rw [← h1] at e2
          clear h1
          have hnx : (gi xs k != gi xs k) = false := by simp
          generalize hX : gi xs k = X at *
          clear ha hb
          go_wp2_with fail
          go_quiet (fail)
          go_wp2
          go_roundw
          case rel => exact ⟨k + 1, _, by omega, by go_num, by first | rfl | exact World.drewN_drewN _ _ _, Lib.hid fun q hq' => by
            rcases Nat.lt_or_ge q k with h | h
            · exact hq.out q h
            · obtain rfl : q = k := by omega
              exact hX.trans H1.out⟩
          case measure => simp [intOf]; omega
        · have H1 := Lib.hid h1
          have hnx : (gi xs k != gi ys k) = true := by simpa using h1
          clear h1
          have HR : Hid (sameB xs ys = false) := Lib.hid (sameB_at H1.out)
          generalize gi xs k = X at *
          generalize gi ys k = Y at *
          clear ha hb
          go_wp2_with fail
          go_quiet (fail)
          go_wp2
          go_ret
          exact ⟨by rw [HR.out]; rfl, _, by first | rfl | exact World.drewN_drewN _ _ _⟩
      · obtain rfl : k = n := by omega
        have HR : Hid (sameB xs ys = true) := Lib.hid (sameB_all (by omega) fun q hq' => hq.out q (by omega))
        go_wp2
        go_ret
        exact ⟨by rw [HR.out]; rfl, _, rfl⟩
  · have h1 : ((n : Int) != m) = true := by simp; omega
    have HR : Hid (sameB xs ys = false) := Lib.hid (sameB_len (by omega))
    go_enter Try.func16, Try.ntmps16
    go_wp2
    go_ret
    exact ⟨by rw [HR.out]; rfl, 0, rfl⟩

end Go.Proofs.Ytgenehiiakdadaa
