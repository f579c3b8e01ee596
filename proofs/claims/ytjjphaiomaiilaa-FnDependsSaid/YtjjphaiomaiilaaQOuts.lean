/- Contracts of the bits of a number, the number of bits, the outs of a circuit. -/
import Derived.Test.YtjjphaiomaiilaaQNum
import Derived.Test.YtjjphaiomaiilaaQEval2
namespace Go.Proofs.Ytjjphaiomaiilaa
open Go.RowKit
set_option linter.unusedVariables false
set_option linter.unusedSimpArgs false

theorem or_shift {z x : Int} {i : Nat} (hz : 0 ≤ z ∧ z < 2 ^ i) (hx : 0 ≤ x ∧ x ≤ 1) (hi : i < 40) : bits .or .i64 z (wrap64 (x * 2 ^ i)) = z + x * 2 ^ i := by
  obtain ⟨Z, rfl⟩ := Int.eq_ofNat_of_zero_le hz.1
  obtain ⟨X, rfl⟩ := Int.eq_ofNat_of_zero_le hx.1
  have hX : X ≤ 1 := by omega
  have h1 : Z < 2 ^ i := by have := hz.2; exact_mod_cast this
  have h2 : 2 ^ i ≤ 2 ^ 40 := Nat.pow_le_pow_right (by omega) (by omega)
  have h3 : (2 : Nat) ^ 40 = 1099511627776 := by decide
  have h5 : X * 2 ^ i ≤ 1 * 2 ^ i := Nat.mul_le_mul_right _ hX
  have h4 : ((X : Int) * 2 ^ i) = ((X * 2 ^ i : Nat) : Int) := by rw [Int.natCast_mul, Int.natCast_pow]; rfl
  have h6 : wrap64 ((X : Int) * 2 ^ i) = ((X * 2 ^ i : Nat) : Int) := by rw [h4]; exact IntWalk.wrap64_in ((X * 2 ^ i : Nat) : Int) (by omega)
  rw [h6, h4, bor_nat (by omega) (by omega), or_place h1]; omega
theorem bnext {a b c : World} (h : Below a.heap.size a b) (k : Below b.heap.size b c) : Below a.heap.size a c := h.trans (k.mono h.size)

theorem btOf_any (n k : Nat) (w : World) (hn : n ≤ 1099511627776) (hk : k ≤ 1000000) : Calls Try.prog 33 #[.int .i64 n, .int .i64 k] w (RetI w (bitsN n k)) := by
  go_enter Try.func33, Try.ntmps33
  go_wp2
  go_loopw [5, 0, 1] (fun v a b wr => ∃ (i : Nat) (A' : Option Addr) (c' : Nat), i ≤ k ∧ b = .int .i64 ((k - i : Nat) : Int) ∧ a = .int .i64 ((n / 2 ^ i : Nat) : Int) ∧ v = .slice A' i c' ∧ Own wr w.heap.size wr.heap.size (.slice A' i c') i (bitsN n i) ∧ Below w.heap.size w wr) (fun _ _ b _ => (intOf b).toNat)
  case atStart => exact ⟨0, _, _, Nat.zero_le _, rfl, by simp, rfl, Own.none_ _ _ _, Below.refl _ _⟩
  case round =>
    obtain ⟨i, A', c', hi, rfl, rfl, rfl, hown, hbw⟩ := hrel
    by_cases hlt : i < k
    · have hsn : Hid (bitsN n (i + 1) = bitsN n i ++ [((n / 2 ^ i % 2 : Nat) : Int)]) := Lib.hid (bitsN_snoc n i)
      have hdv : Hid (n / 2 ^ (i + 1) = n / 2 ^ i / 2) := Lib.hid (by rw [Nat.pow_succ, Nat.div_div_eq_div_mul])
      have hle : n / 2 ^ i ≤ n := Nat.div_le_self _ _
      generalize n / 2 ^ i = z at *
      have hz := hbw.size
      rw [Int.natCast_emod] at hsn
      have hownA := hown.alloc (.cells #[.int .i64 ((z : Int) % 2)] 3)
      have hbA := hbw.alloc hz (.cells #[.int .i64 ((z : Int) % 2)] 3)
      go_wp2_with (at_builtin; refine wpList_app _ rfl _ _ rfl rfl hownA rfl (RI_one _ _ _ _ (by simp)) (by omega) (by first | omega | (simp; done) | (simp; omega)) ?_; intro A5 c5 w5 hown5 hg5 hat5)
      have hb5 := below_app hbA hownA hg5 (by simp; omega) (Nat.le_refl _)
      rw [show [(z : Int) % ((2 : Nat) : Int)] = [(z : Int) % 2] from rfl] at hsn
      rw [← hsn.out] at hown5
      clear hbA hownA hg5 hat5 hown hbw
      go_wp2
      go_roundw
      case rel => exact ⟨i + 1, _, _, by omega, by go_num, by rw [hdv.out]; go_num, rfl, hown5, hb5⟩
      case measure => simp [intOf]; omega
    · obtain rfl : i = k := by omega
      go_wp2
      go_ret
      exact RetI.mk_ (bitsN_len _ _) rfl hown hbw

theorem bitsOf_any (n k : Nat) (w : World) (hn : n ≤ 1099511627776) (hk : k ≤ 40) : Calls Try.prog 41 #[.int .i64 n, .int .i64 k] w (RetI w (bitsN n k)) := by
  go_enter Try.func41, Try.ntmps41
  go_wp2
  go_loopw [5, 9] (fun v b wr => ∃ (i : Nat) (A' : Option Addr) (c' : Nat), i ≤ k ∧ b = .int .i64 i ∧ v = .slice A' i c' ∧ Own wr w.heap.size wr.heap.size (.slice A' i c') i (bitsN n i) ∧ Below w.heap.size w wr) (fun _ b _ => k - (intOf b).toNat)
  case atStart => exact ⟨0, _, _, Nat.zero_le _, rfl, rfl, by simpa [bitsN, tab_zero] using Own_new0 w w.heap.size (Nat.le_refl _), (Below.refl _ _).alloc (Nat.le_refl _) _⟩
  case round =>
    obtain ⟨i, A', c', hi, rfl, rfl, hown, hbw⟩ := hrel
    by_cases hlt : i < k
    · have hsn : Hid (bitsN n (i + 1) = bitsN n i ++ [((n / 2 ^ i % 2 : Nat) : Int)]) := Lib.hid (bitsN_snoc n i)
      have hz := hbw.size
      have hle : n / 2 ^ i ≤ n := Nat.div_le_self _ _
      have hq : Hid (bits .and .i64 ((n : Int) / 2 ^ i) 1 = ((n / 2 ^ i % 2 : Nat) : Int)) := Lib.hid (by
        have h1 := band_nat (a := n / 2 ^ i) (b := 1) (by omega) (by omega)
        rw [and_one] at h1
        rw [← h1]; simp [Int.natCast_ediv, Int.natCast_pow])
      rw [← hq.out] at hsn
      have hownA := hown.alloc (.cells #[.int .i64 (bits .and .i64 ((n : Int) / 2 ^ i) 1)] 3)
      have hbA := hbw.alloc hz (.cells #[.int .i64 (bits .and .i64 ((n : Int) / 2 ^ i) 1)] 3)
      go_wp2_with (at_builtin; refine wpList_app _ rfl _ _ rfl rfl hownA rfl (RI_one _ _ _ _ (by simp)) (by omega) (by first | omega | (simp; done) | (simp; omega)) ?_; intro A5 c5 w5 hown5 hg5 hat5)
      have hb5 := below_app hbA hownA hg5 (by simp; omega) (Nat.le_refl _)
      rw [← hsn.out] at hown5
      clear hbA hownA hg5 hat5 hown hbw
      go_wp2
      go_roundw
      case rel => exact ⟨i + 1, _, _, by omega, by go_num, rfl, hown5, hb5⟩
      case measure => simp [intOf]; omega
    · obtain rfl : i = k := by omega
      go_wp2
      go_ret
      exact RetI.mk_ (bitsN_len _ _) rfl hown hbw

set_option maxRecDepth 100000 in
set_option maxHeartbeats 800000 in
theorem ciOuts_any (x y : Int) (Ag : Option Addr) (ng cg : Nat) (Ao : Option Addr) (no co : Nat) (A : Option Addr) (n c : Nat) (gs : List G3) (os inp : List Int) (w : World) (hr : RG w Ag ng gs ∧ RI w Ao no os) (ha : RI w A n inp) (hi : allB 0 1 inp = true) (hgat : gatesB n gs ng = true) (hos : allB 0 (((n + ng : Nat) : Int) - 1) os = true) (hng : ng ≤ 300) (hno : no ≤ 40) (hn : n ≤ 40) :
    Calls Try.prog 32 #[.agg #[.int .i64 x, .int .i64 y, .slice Ag ng cg, .slice Ao no co], .slice A n c] w (RetI w (pick (vals gs inp ng) os)) := by
  have hB : Below w.heap.size w (w.alloc (.cells #[.int .i64 x, .int .i64 y, .slice Ag ng cg, .slice Ao no co] 26)) := (Below.refl _ _).alloc (Nat.le_refl _) _
  have hvl : Hid ((vals gs inp ng).length = n + ng) := Lib.hid (by rw [vals_len, ha.len])
  have hB1 := below_drewN hB 1
  go_enter Try.func32, Try.ntmps32
  go_wp2_with fail
  go_region_held3 (fun w' => w'.cell? ⟨w.heap.size, 0, none⟩ = some (.int .i64 x) ∧ w'.cell? ⟨w.heap.size, 1, none⟩ = some (.int .i64 y) ∧ w'.cell? ⟨w.heap.size, 2, none⟩ = some (.slice Ag ng cg) ∧ w'.cell? ⟨w.heap.size, 3, none⟩ = some (.slice Ao no co))
    (first | go_keep | (go_split_ands; exact ⟨cell_below (by assumption) hbP, cell_below (by assumption) hbP, cell_below (by assumption) hbP, cell_below (by assumption) hbP⟩) | (go_split_ands; exact ⟨cell_below (by assumption) hbV, cell_below (by assumption) hbV, cell_below (by assumption) hbV, cell_below (by assumption) hbV⟩) | ((try dsimp only); (repeat' apply And.intro) <;> go_keep))
    (first | (go_at_call 43; refine (ciValues_any x y Ag ng cg Ao no co A n c gs inp _ (hr.1.below hB1 (Nat.le_refl _)) (ha.below hB1 (Nat.le_refl _)) hi hgat (by omega) (by omega)).mono ?_; rintro e W3 hV; obtain ⟨AV, cV, rfl, hownV, hbV⟩ := hV.open_ hvl.out) | (go_at_call 42; refine (ciPick_any AV Ao (n + ng) cV no co (vals gs inp ng) os _ hownV.reads (hr.2.below (hB1.trans (hbV.mono hB1.size)) (Nat.le_refl _)) (by omega) (by omega) hos).mono ?_; rintro e W4 hP; obtain ⟨AP, cP, rfl, hownP, hbP⟩ := hP.open_ (pick_len _ _)))
  have hB2 := hB1.trans (hbV.mono hB1.size)
  go_wp2
  go_ret
  exact RetI.mk_ (pick_len _ _) rfl (hownP.lo_ hB2.size) (hB2.trans (hbP.mono hB2.size))

end Go.Proofs.Ytjjphaiomaiilaa
