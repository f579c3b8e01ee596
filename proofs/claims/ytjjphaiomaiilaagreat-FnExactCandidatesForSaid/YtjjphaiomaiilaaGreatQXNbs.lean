/- Contracts: the bits of numbers, the numbers of bits. Ten numbers of ten bits at most. -/
import Derived.Test.YtjjphaiomaiilaaGreatQA
namespace Go.Proofs.YtjjphaiomaiilaaGreat
open Go.RowKit
set_option linter.unusedVariables false
set_option linter.unusedSimpArgs false
theorem slice_from (q o m d k : Nat) (hk : k ≤ m) (hm : m ≤ d) : ∃ TA : Option Addr, (∀ (w : World) (xs : List Int), RI w (some ⟨q, o, none⟩) m xs → RI w TA (m - k) (xs.drop k)) ∧
    ∀ W : World, (Instr.slice 30 (.slice (some ⟨q, o, none⟩) m d) (some (.int .i64 k)) none none).run Tryz.prog W = .ok (.slice TA (m - k) (d - k)) W := by
  have hu : Tryz.prog.elem 30 = 3 := by kernel_rfl
  by_cases h : d = k
  · subst h
    obtain rfl : m = d := by omega
    refine ⟨some ⟨q, o, none⟩, fun w xs h => ⟨by have := h.1; simp; omega, fun h => absurd h (by omega)⟩, fun W => ?_⟩
    rw [run_slice_l W 30 _ _ _ (by rw [hu]; exact Tryz.underlying30) .i64 (m : Int) (by omega) (by omega)]
    go_simp
  · refine ⟨some ⟨q, o + k, none⟩, fun w xs h => h.drop_ hk, fun W => ?_⟩
    rw [run_slice_l W 30 _ _ _ (by rw [hu]; exact Tryz.underlying30) .i64 (k : Int) (by omega) (by omega)]
    go_simp
set_option maxHeartbeats 1600000 in
theorem coBits_any (A B : Option Addr) (n c m d : Nat) (ws ns : List Int) (w : World) (ha : RI w A n ws) (hb : RI w B n ns) (hn : n ≤ 100) (hw : ∀ z ∈ ws, 1 ≤ z ∧ z ≤ 10) (hf : ∀ k, k < n → 0 ≤ gi ns k ∧ gi ns k ≤ 1023) :
    Calls Tryz.prog 68 #[.slice A n c, .slice B n d] w (RetI w (bitsK ws ns n)) := by
  have hl := ha.len
  have hlb := hb.len
  have hso := Lib.hid (fun k (hk : k < n) => offs_succ hw (by omega : k < ws.length))
  have hbl := Lib.hid (fun k (hk : k ≤ n) => bitsK_len hw ns k (by omega))
  have hof : Hid (∀ k, k ≤ n → offs ws k ≤ 10 * k) := Lib.hid (fun k hk => by
    have := (sumI_le (M := 10) (fun z hz => by have := hw z hz; omega) k (by omega : k ≤ ws.length)).2
    unfold offs; omega)
  go_enter Tryz.func68, Tryz.ntmps68
  go_wp2
  go_loopw [5, 10] (fun v i wr => ∃ (k : Nat) (A' : Option Addr) (c' : Nat), k ≤ n ∧ i = .int .i64 k ∧ v = .slice A' (offs ws k) c' ∧ Own wr w.heap.size wr.heap.size (.slice A' (offs ws k) c') (offs ws k) (bitsK ws ns k) ∧ Below w.heap.size w wr) (fun _ i _ => n - (intOf i).toNat)
  case atStart => exact ⟨0, _, _, Nat.zero_le _, rfl, rfl, by first | exact Own.none_ _ _ _ | (simpa [bitsK, offs_zero] using Own_new0 w w.heap.size (Nat.le_refl _)), by first | exact Below.refl _ _ | exact (Below.refl _ _).alloc (Nat.le_refl _) _⟩
  case round =>
    obtain ⟨k, A', c', hk, rfl, rfl, hown, hbw⟩ := hrel
    by_cases hlt : k < n
    · obtain ⟨b, o, rfl, hbB, c1⟩ := (ha.below hbw (Nat.le_refl _)).at_ hlt
      obtain ⟨b2, o2, rfl, hbB2, c2⟩ := (hb.below hbw (Nat.le_refl _)).at_ hlt
      have h1 := hw _ (gi_mem (xs := ws) (j := k) (by omega))
      have h2 := hf k hlt
      have h3 := hso.out k hlt
      have h4 := hof.out k (by omega)
      have hsn : Hid (bitsK ws ns (k + 1) = bitsK ws ns k ++ bitsN (gi ns k).toNat (gi ws k).toNat) := Lib.hid rfl
      obtain ⟨W, hW⟩ := Int.eq_ofNat_of_zero_le (show 0 ≤ gi ws k by omega)
      obtain ⟨N, hN⟩ := Int.eq_ofNat_of_zero_le h2.1
      rw [hW] at c1 h1 h3 hsn
      rw [hN] at c2 h2 hsn
      simp only [Int.toNat_natCast] at h3 hsn
      obtain ⟨F, hF⟩ : ∃ F, Hid (offs ws k = F) := ⟨_, Lib.hid rfl⟩
      have hs3 := Lib.hid h3
      rw [hF.out] at hs3 hown h4 h3 ⊢
      clear hW hN
      have hz := hbw.size
      go_wp2_with fail
      refine (btOf_any N W _ (by omega) (by omega)).mono ?_
      rintro e w2 hT
      obtain ⟨A2, d2, rfl, ho2, hb2⟩ := RetI.open_ (n := W) hT (bitsN_len N W)
      have hown2 := hown.below hb2 (.inl (Nat.le_refl _))
      have hb3 := hbw.trans (hb2.mono hz)
      have hz3 := hb2.size
      go_wp2_with (at_builtin; refine wpList_app _ rfl _ _ rfl rfl hown2 rfl ho2.reads (by omega) (by first | omega | (simp; done) | (simp; omega)) ?_; intro A5 c5 w5 hown5 hg5 hat5)
      have hb5 := below_app hb3 hown2 hg5 (by omega) (Nat.le_refl _)
      rw [← hsn.out] at hown5
      clear hown2 hb3 hb2 ho2 hg5 hat5 hown hbw
      go_wp2
      go_roundw
      case rel => exact ⟨k + 1, _, _, by omega, by go_num, by rw [hs3.out], by rw [hs3.out]; exact hown5, hb5⟩
      case measure => simp [intOf]; omega
    · obtain rfl : n = k := by omega
      go_wp2
      go_ret
      exact RetI.mk_ (hbl.out n (Nat.le_refl _)) rfl hown hbw
set_option maxHeartbeats 1600000 in
theorem inputBits_any (A B : Option Addr) (n c m d : Nat) (ws ns : List Int) (w : World) (ha : RI w A n ws) (hb : RI w B n ns) (hn : n ≤ 100) (hw : ∀ z ∈ ws, 1 ≤ z ∧ z ≤ 10) (hf : ∀ k, k < n → 0 ≤ gi ns k ∧ gi ns k ≤ 1023) :
    Calls Tryz.prog 71 #[.slice B n d, .slice A n c] w (RetI w (bitsK ws ns n)) := by
  have hl := ha.len
  have hlb := hb.len
  have hso := Lib.hid (fun k (hk : k < n) => offs_succ hw (by omega : k < ws.length))
  have hbl := Lib.hid (fun k (hk : k ≤ n) => bitsK_len hw ns k (by omega))
  have hof : Hid (∀ k, k ≤ n → offs ws k ≤ 10 * k) := Lib.hid (fun k hk => by
    have := (sumI_le (M := 10) (fun z hz => by have := hw z hz; omega) k (by omega : k ≤ ws.length)).2
    unfold offs; omega)
  go_enter Tryz.func71, Tryz.ntmps71
  go_wp2
  go_loopw [5, 11] (fun v i wr => ∃ (k : Nat) (A' : Option Addr) (c' : Nat), k ≤ n ∧ i = .int .i64 k ∧ v = .slice A' (offs ws k) c' ∧ Own wr w.heap.size wr.heap.size (.slice A' (offs ws k) c') (offs ws k) (bitsK ws ns k) ∧ Below w.heap.size w wr) (fun _ i _ => n - (intOf i).toNat)
  case atStart => exact ⟨0, _, _, Nat.zero_le _, rfl, rfl, by first | exact Own.none_ _ _ _ | (simpa [bitsK, offs_zero] using Own_new0 w w.heap.size (Nat.le_refl _)), by first | exact Below.refl _ _ | exact (Below.refl _ _).alloc (Nat.le_refl _) _⟩
  case round =>
    obtain ⟨k, A', c', hk, rfl, rfl, hown, hbw⟩ := hrel
    by_cases hlt : k < n
    · obtain ⟨b, o, rfl, hbB, c1⟩ := (ha.below hbw (Nat.le_refl _)).at_ hlt
      obtain ⟨b2, o2, rfl, hbB2, c2⟩ := (hb.below hbw (Nat.le_refl _)).at_ hlt
      have h1 := hw _ (gi_mem (xs := ws) (j := k) (by omega))
      have h2 := hf k hlt
      have h3 := hso.out k hlt
      have h4 := hof.out k (by omega)
      have hsn : Hid (bitsK ws ns (k + 1) = bitsK ws ns k ++ bitsN (gi ns k).toNat (gi ws k).toNat) := Lib.hid rfl
      obtain ⟨W, hW⟩ := Int.eq_ofNat_of_zero_le (show 0 ≤ gi ws k by omega)
      obtain ⟨N, hN⟩ := Int.eq_ofNat_of_zero_le h2.1
      rw [hW] at c1 h1 h3 hsn
      rw [hN] at c2 h2 hsn
      simp only [Int.toNat_natCast] at h3 hsn
      obtain ⟨F, hF⟩ : ∃ F, Hid (offs ws k = F) := ⟨_, Lib.hid rfl⟩
      have hs3 := Lib.hid h3
      rw [hF.out] at hs3 hown h4 h3 ⊢
      clear hW hN
      have hz := hbw.size
      go_wp2_with fail
      refine (bitsOf_any N W _ (by omega) (by omega)).mono ?_
      rintro e w2 hT
      obtain ⟨A2, d2, rfl, ho2, hb2⟩ := RetI.open_ (n := W) hT (bitsN_len N W)
      have hown2 := hown.below hb2 (.inl (Nat.le_refl _))
      have hb3 := hbw.trans (hb2.mono hz)
      have hz3 := hb2.size
      go_wp2_with (at_builtin; refine wpList_app _ rfl _ _ rfl rfl hown2 rfl ho2.reads (by omega) (by first | omega | (simp; done) | (simp; omega)) ?_; intro A5 c5 w5 hown5 hg5 hat5)
      have hb5 := below_app hb3 hown2 hg5 (by omega) (Nat.le_refl _)
      rw [← hsn.out] at hown5
      clear hown2 hb3 hb2 ho2 hg5 hat5 hown hbw
      go_wp2
      go_roundw
      case rel => exact ⟨k + 1, _, _, by omega, by go_num, by rw [hs3.out], by rw [hs3.out]; exact hown5, hb5⟩
      case measure => simp [intOf]; omega
    · obtain rfl : n = k := by omega
      go_wp2
      go_ret
      exact RetI.mk_ (hbl.out n (Nat.le_refl _)) rfl hown hbw
end Go.Proofs.YtjjphaiomaiilaaGreat
