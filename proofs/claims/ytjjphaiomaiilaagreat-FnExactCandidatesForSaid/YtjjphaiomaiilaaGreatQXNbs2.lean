/- Contracts: the numbers of bits. Ten numbers of ten bits at most. -/
import Derived.Test.YtjjphaiomaiilaaGreatQXNbs
namespace Go.Proofs.YtjjphaiomaiilaaGreat
open Go.RowKit
set_option linter.unusedVariables false
set_option linter.unusedSimpArgs false
set_option maxRecDepth 100000 in
set_option maxHeartbeats 1600000 in
theorem numbersOf_any (A B : Option Addr) (n c m d : Nat) (ws bits : List Int) (w : World) (ha : RI w A n ws) (hb : RI w B m bits) (hn : n ≤ 100) (hm : m ≤ 1000) (hmd : m ≤ d) (hw : ∀ z ∈ ws, 1 ≤ z ∧ z ≤ 10) (hbd : allB 0 1 bits = true) (hs : offs ws n = m) :
    Calls Tryz.prog 65 #[.slice B m d, .slice A n c] w (RetI w (numK ws bits n)) := by
  have hl := ha.len
  have hso := Lib.hid (fun k (hk : k < n) => offs_succ hw (by omega : k < ws.length))
  have hle := Lib.hid (fun k (hk : k < n) => offs_le hw (by omega : k + 1 ≤ n) (by omega : n ≤ ws.length))
  rw [hs] at hle
  go_enter Tryz.func65, Tryz.ntmps65
  go_wp2
  go_loopw [0, 5, 11] (fun x v i wr => ∃ (k M D : Nat) (A' : Option Addr) (c' : Nat) (Bk : Option Addr), k ≤ n ∧ i = .int .i64 k ∧ v = .slice A' k c' ∧ x = .slice Bk M D ∧ Hid (M = m - offs ws k) ∧ Hid (D = d - offs ws k) ∧ RI w Bk M (bits.drop (offs ws k)) ∧ Own wr w.heap.size wr.heap.size (.slice A' k c') k (numK ws bits k) ∧ Below w.heap.size w wr) (fun _ _ i _ => n - (intOf i).toNat)
  case atStart => exact ⟨0, m, d, _, _, _, Nat.zero_le _, rfl, rfl, rfl, Lib.hid rfl, Lib.hid rfl, hb, by first | exact Own.none_ _ _ _ | (simpa [numK, tab_zero] using Own_new0 w w.heap.size (Nat.le_refl _)), by first | exact Below.refl _ _ | exact (Below.refl _ _).alloc (Nat.le_refl _) _⟩
  case round =>
    obtain ⟨k, M, D, A', c', Bk, hk, rfl, rfl, rfl, hM, hD, hBk, hown, hbw⟩ := hrel
    by_cases hlt : k < n
    · obtain ⟨b, o, rfl, hbB, c1⟩ := (ha.below hbw (Nat.le_refl _)).at_ hlt
      have h1 := hw _ (gi_mem (xs := ws) (j := k) (by omega))
      have h3 := hso.out k hlt
      have h4 := hle.out k hlt
      have hsn : Hid (numK ws bits (k + 1) = numK ws bits k ++ [numN ((bits.drop (offs ws k)).take (gi ws k).toNat)]) := Lib.hid (numK_snoc _ _ _)
      obtain ⟨W, hW⟩ := Int.eq_ofNat_of_zero_le (show 0 ≤ gi ws k by omega)
      rw [hW] at c1 h1 h3 hsn
      simp only [Int.toNat_natCast] at h3 hsn
      obtain ⟨F, hF⟩ : ∃ F, Hid (offs ws k = F) := ⟨_, Lib.hid rfl⟩
      rw [hF.out] at h3 hsn hM hD hBk
      have hM' := hM.out
      have hD' := hD.out
      have hMW : W ≤ M := by omega
      have hMD : M ≤ D := by omega
      have hM2 : Hid (M - W = m - offs ws (k + 1)) := Lib.hid (by rw [h3]; omega)
      have hD2 : Hid (D - W = d - offs ws (k + 1)) := Lib.hid (by rw [h3]; omega)
      have hdr : Hid ((bits.drop F).drop W = bits.drop (offs ws (k + 1))) := Lib.hid (by rw [h3, List.drop_drop])
      have hM1000 : M ≤ 1000 := by omega
      clear hM hD hM' hD' hW h3 h4
      obtain ⟨q, o2, rfl, hq, _⟩ := hBk.at_ (k := 0) (by omega)
      have ht := (hBk.below hbw (Nat.le_refl _)).take_ hMW
      obtain ⟨TA, hT1, hT2⟩ := slice_from q o2 M D W hMW hMD
      have hBn := hT1 w _ hBk
      rw [hdr.out] at hBn
      have hball : allB 0 1 ((bits.drop F).take W) = true := allB_take_ (allB_drop_ hbd F) W
      clear hT1 hdr
      obtain ⟨xs, hxs⟩ : ∃ xs, Hid ((bits.drop F).take W = xs) := ⟨_, Lib.hid rfl⟩
      rw [hxs.out] at ht hball hsn
      have hz := hbw.size
      have hi0 : (0 : Int) ≤ (W : Int) := by omega
      have hi1 : ((W : Nat) : Int) ≤ ((D : Nat) : Int) := by omega
      have hi2 : ((W : Nat) : Int) ≤ ((M : Nat) : Int) := by omega
      have hownA := fun j : Nat => (hown.drewN j).alloc (.cells #[.int .i64 (numN xs)] 3)
      have hbA := (below_drewN hbw 1).alloc hz (.cells #[.int .i64 (numN xs)] 3)
      go_wp2_with fail
      go_region_held3 (fun w' => True) (first | trivial) (first | (go_at_call 110; refine (number_any (some ⟨q, o2, none⟩) W D xs _ (ht.drewN 1) (by omega) hball).mono ?_; rintro e w2 ⟨rfl, rfl⟩) | (refine step_appI _ (by rfl) _ _ (by rfl) (by rfl) (hownA 1) (by rfl) (RI_one _ _ _ _ (by simp)) (by omega) (by first | omega | (simp; done) | (simp; omega)) ?_; intro A5 c5 w5 hown5 hg5 hat5 hk5))
      have hb5 := below_app hbA (hownA 1) hg5 (by simp; omega) (Nat.le_refl _)
      rw [← hsn.out] at hown5
      clear hbA hownA hg5 hat5 hown hbw
      go_wp2
      go_roundw
      case rel => exact ⟨k + 1, _, _, _, _, _, by omega, by go_num, rfl, rfl, hM2, hD2, hBn, hown5, hb5⟩
      case measure => simp [intOf]; omega
    · obtain rfl : n = k := by omega
      go_wp2
      go_ret
      exact RetI.mk_ (numK_len _ _ _) rfl hown hbw
end Go.Proofs.YtjjphaiomaiilaaGreat
