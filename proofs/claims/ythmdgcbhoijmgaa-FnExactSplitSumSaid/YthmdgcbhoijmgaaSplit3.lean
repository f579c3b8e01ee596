/- Contracts of SplitSum. Lengths up to 2^21. -/
import Derived.Test.YthmdgcbhoijmgaaSplit2
namespace Go.Proofs.Ythmdgcbhoijmgaa
open Go.RowKit
set_option linter.unusedVariables false
set_option linter.unusedSimpArgs false

/-- The first shares. -/
def ssL (p key : Int) (n : Nat) : List Int := tab n fun i => dg ([key, (i : Int), 13] ++ [p]) % p
/-- Shares of values. -/
def splitSF (p key : Int) (n : Nat) (xs : List Int) : Option (List Int × List Int) := if sharesB p n xs && inB 0 1000000000 key then some (ssL p key n, tab n fun i => (gi xs i - gi (ssL p key n) i) % p) else none
theorem splitSF_len (p key : Int) (n : Nat) (xs : List Int) : ((splitSF p key n xs).getD ([], [])).1.length ≤ 64 ∧ ((splitSF p key n xs).getD ([], [])).2.length ≤ 64 := by
  unfold splitSF
  split
  · rename_i h
    simp only [Bool.and_eq_true] at h
    have := (sharesB_bd h.1).2.2.1
    simp [tab_len, ssL]; omega
  · simp
theorem ssL_shares {p key : Int} {n : Nat} {xs : List Int} (h : sharesB p n xs = true) : sharesB p n (ssL p key n) = true := by
  have hb := sharesB_bd h
  have hp : primeB p = true := by simp only [sharesB, elemsB, Bool.and_eq_true] at h; exact h.1.1
  have ha : allB 0 (p - 1) (ssL p key n) = true := allB_iff.2 fun x hx => by
    obtain ⟨j, _, rfl⟩ := mem_tab hx
    have h0 := Int.emod_nonneg (dg ([key, (j : Int), 13] ++ [p])) (show p ≠ 0 by omega)
    have h1 := Int.emod_lt_of_pos (dg ([key, (j : Int), 13] ++ [p])) (show 0 < p by omega)
    omega
  simp only [sharesB, elemsB, hp, ha, Bool.true_and, decide_eq_true_eq]
  exact hb.2.2.1

theorem SplitSum_1_any (x y : Int) (w : World) (h1 : 0 ≤ x ∧ x ≤ 251) (h2 : 0 ≤ y ∧ y ≤ 251) :
    Calls Try.prog 81 #[.int .i64 x, .int .i64 y] w fun e w' => e = .returned (.int .i64 (x - y)) ∧ w = w' := by
  obtain ⟨h3, h4⟩ := h1
  obtain ⟨h5, h6⟩ := h2
  go_enter Try.func81, Try.ntmps81
  go_wp2
  go_ret
  exact ⟨rfl, rfl⟩

set_option maxRecDepth 100000 in
set_option maxHeartbeats 2000000 in
theorem SplitSum_any {p key : Int} {A : Option Addr} {n c : Nat} {xs : List Int} {w : World} (r0 : RI w A n xs) (b0 : n ≤ 2097152) :
    Calls Try.prog 48 #[.int .i64 p, .int .i64 key, .slice A n c] w (RetO2 w (splitSF p key n xs)) := by
  go_enter Try.func48, Try.ntmps48
  go_wp2_with fail
  refine (areShares_any p A n c xs _ r0 b0).mono ?_
  rintro e w1 ⟨rfl, hb1⟩
  cases h1 : sharesB p n xs with
  | false =>
    go_wp2
    go_ret3
    exact RetO2.none_ hb1 (by simp [splitSF, h1]) rfl
  | true =>
    have hp := sharesB_bd h1
    have H1 := Lib.hid h1; clear h1
    obtain ⟨hp0, hp1, hn40, hx⟩ := hp
    go_wp2_with fail
    refine (isKey_any key _).mono ?_
    rintro e w2 ⟨rfl, rfl⟩
    cases h2 : inB 0 1000000000 key with
    | false =>
      go_wp2
      go_ret3
      exact RetO2.none_ hb1 (by simp [splitSF, h2]) rfl
    | true =>
      have hk := inB_iff.1 h2
      obtain ⟨hk0, hk1⟩ := hk
      have hR : Hid (splitSF p key n xs = some (ssL p key n, tab n fun i => (gi xs i - gi (ssL p key n) i) % p)) := Lib.hid (by unfold splitSF; rw [H1.out, h2]; rfl)
      clear h2
      have hst := And.intro (Own_new0 w1 w.heap.size hb1.size).now (hb1.alloc hb1.size (.cells #[] 3))
      clear hb1
      go_wp2
      go_loopw [9, 25] (fun v i wr => ∃ (k : Nat) (A' : Option Addr) (c' : Nat), k ≤ n ∧ i = .int .i64 k ∧ v = .slice A' k c' ∧ Own wr w.heap.size wr.heap.size (.slice A' k c') k (ssL p key k) ∧ Below w.heap.size w wr) (fun _ i _ => n - (intOf i).toNat)
      case atStart => exact ⟨0, _, _, Nat.zero_le _, rfl, rfl, hst.1, hst.2⟩
      case round =>
        clear hst
        obtain ⟨k, A', c', hk, rfl, rfl, hown, hbw⟩ := hrel
        by_cases hlt : k < n
        · have hsn : Hid (ssL p key (k + 1) = ssL p key k ++ [dg ([key, (k : Int), 13] ++ [p]) % p]) := Lib.hid (tab_snoc k _)
          have hz := hbw.size
          have hb0 := hbw.alloc hz (.cells #[.int .i64 key, .int .i64 k, .int .i64 13] 3)
          have hown0 := hown.alloc (.cells #[.int .i64 key, .int .i64 k, .int .i64 13] 3)
          clear hown hbw
          go_wp2_with fail
          refine (numberFrom_any _ _ _ _ p _ (RI_new3 _ _ _ _ _) (by omega) (fun x hx => by simp at hx; omega) (by omega) (by omega)).mono ?_
          rintro e w2 ⟨rfl, hb2⟩
          have hb3 : Below w.heap.size w w2 := hb0.trans (hb2.mono (by simp; omega))
          have hown3 := hown0.below hb2 (.inl (Nat.le_refl _))
          have hz3 := hb3.size
          clear hb0 hown0 hb2
          generalize dg ([key, (k : Int), 13] ++ [p]) % p = D at *
          have hb4 := hb3.alloc hz3 (.cells #[.int .i64 D] 3)
          have hown4 := hown3.alloc (.cells #[.int .i64 D] 3)
          clear hb3 hown3
          go_wp2_with (at_builtin; refine wpList_app _ rfl _ _ rfl rfl hown4 rfl (RI_new1 _ _ _) (by omega) (by simp; omega) ?_; intro A5 c5 w5 hown5 hg5 hat5)
          have hb5 := below_app hb4 hown4 hg5 (by simp; omega) (Nat.le_refl _)
          rw [← hsn.out] at hown5
          clear hb4 hown4 hg5 hat5
          go_wp2
          go_roundw
          case rel => exact ⟨k + 1, _, _, by omega, by go_num, rfl, hown5, hb5⟩
          case measure => simp [intOf]; omega
        · obtain rfl : k = n := by omega
          have hf : sharesB p k xs = true → sharesB p k (ssL p key k) = true → ∀ x ∈ xs, ∀ y ∈ ssL p key k, ∀ w1, Below wr.heap.size wr w1 → (-1152921504606846976 ≤ x - y ∧ x - y ≤ 1152921504606846976) ∧ Calls Try.prog 81 (#[.int .i64 x, .int .i64 y] ++ #[]) w1 fun e w' => e = .returned (.int .i64 (x - y)) ∧ w1 = w' := by
            intro h1 h2 x hx y hy w1 _
            have := (sharesB_bd h1).2.2.2 x hx
            have := (sharesB_bd h2).2.2.2 y hy
            exact ⟨by omega, SplitSum_1_any x y w1 (by omega) (by omega)⟩
          have hf := Lib.hid hf
          have hS : Hid (shF p k k xs (ssL p key k) (fun i => gi xs i - gi (ssL p key k) i) = some (tab k fun i => (gi xs i - gi (ssL p key k) i) % p)) := Lib.hid (by
            unfold shF; rw [H1.out, ssL_shares H1.out]; simp)
          have hz := hbw.size
          go_wp2_with fail
          refine (combined_sh 81 Try.call81 #[] (fun x y => x - y) (r0.below hbw (Nat.le_refl _)) b0 hown.reads b0 hf.out).mono ?_
          rintro e w3 ⟨A3, c3, rfl, hown3, hb3⟩
          rw [hS.out] at *
          simp only [Option.getD_some, tab_len] at hown3 ⊢
          have hown' := hown.below hb3 (.inl (Nat.le_refl _))
          go_wp2
          go_ret3
          exact RetO2.some_ (hbw.trans (hb3.mono hz)) hR.out (tab_len _ _) (tab_len _ _) rfl hown' hown3 hz hb3.size

set_option maxRecDepth 100000 in
set_option maxHeartbeats 2000000 in
theorem shSplitSum_any {p key : Int} {A : Option Addr} {n c : Nat} {xs : List Int} {w : World} (r0 : RI w A n xs) (hs : sharesB p n xs = true) (hk : 0 ≤ key ∧ key ≤ 1000000000) :
    Calls Try.prog 78 #[.int .i64 p, .int .i64 key, .slice A n c] w fun e w' => ∃ A2 c2 A3 c3 mid, e = .returned (.tuple #[.slice A2 n c2, .slice A3 n c3]) ∧ Own w' w.heap.size mid (.slice A2 n c2) n (ssL p key n) ∧ Own w' mid w'.heap.size (.slice A3 n c3) n (tab n fun i => (gi xs i + -1 * gi (ssL p key n) i) % p) ∧
      (w.heap.size ≤ mid ∧ mid ≤ w'.heap.size) ∧ Below w.heap.size w w' := by
  obtain ⟨hk0, hk1⟩ := hk
  obtain ⟨hp0, hp1, hn40, hx⟩ := sharesB_bd hs
  have H1 := Lib.hid hs; clear hs
  have hst : True := trivial
  go_enter Try.func78, Try.ntmps78
  go_wp2
  go_loopw [8, 12] (fun v i wr => ∃ (k : Nat) (A' : Option Addr) (c' : Nat), k ≤ n ∧ i = .int .i64 k ∧ v = .slice A' k c' ∧ Own wr w.heap.size wr.heap.size (.slice A' k c') k (ssL p key k) ∧ Below w.heap.size w wr) (fun _ i _ => n - (intOf i).toNat)
  case atStart => exact ⟨0, _, _, Nat.zero_le _, rfl, rfl, Own.none_ _ _ _, Below.refl _ _⟩
  case round =>
    clear hst
    obtain ⟨k, A', c', hk, rfl, rfl, hown, hbw⟩ := hrel
    by_cases hlt : k < n
    · have hsn : Hid (ssL p key (k + 1) = ssL p key k ++ [dg ([key, (k : Int), 13] ++ [p]) % p]) := Lib.hid (tab_snoc k _)
      have hz := hbw.size
      have hb0 := hbw.alloc hz (.cells #[.int .i64 key, .int .i64 k, .int .i64 13] 3)
      have hown0 := hown.alloc (.cells #[.int .i64 key, .int .i64 k, .int .i64 13] 3)
      clear hown hbw
      go_wp2_with fail
      refine (dgBelow_any _ _ _ _ p _ (RI_new3 _ _ _ _ _) (by omega) (fun x hx => by simp at hx; omega) (by omega) (by omega)).mono ?_
      rintro e w2 ⟨rfl, hb2⟩
      have hb3 : Below w.heap.size w w2 := hb0.trans (hb2.mono (by simp; omega))
      have hown3 := hown0.below hb2 (.inl (Nat.le_refl _))
      have hz3 := hb3.size
      clear hb0 hown0 hb2
      generalize dg ([key, (k : Int), 13] ++ [p]) % p = D at *
      have hb4 := hb3.alloc hz3 (.cells #[.int .i64 D] 3)
      have hown4 := hown3.alloc (.cells #[.int .i64 D] 3)
      clear hb3 hown3
      go_wp2_with (at_builtin; refine wpList_app _ rfl _ _ rfl rfl hown4 rfl (RI_new1 _ _ _) (by omega) (by simp; omega) ?_; intro A5 c5 w5 hown5 hg5 hat5)
      have hb5 := below_app hb4 hown4 hg5 (by simp; omega) (Nat.le_refl _)
      rw [← hsn.out] at hown5
      clear hb4 hown4 hg5 hat5
      go_wp2
      go_roundw
      case rel => exact ⟨k + 1, _, _, by omega, by go_num, rfl, hown5, hb5⟩
      case measure => simp [intOf]; omega
    · obtain rfl : k = n := by omega
      have hz := hbw.size
      have hy := (sharesB_bd (ssL_shares (key := key) H1.out)).2.2.2
      go_wp2_with fail
      refine (shSum_any p (-1) A A' k c k c' xs _ _ (r0.below hbw (Nat.le_refl _)) hown.reads (by omega) (Nat.le_refl _) (by omega) (fun x h => by have := hx x h; omega) (fun x h => by have := hy x h; omega) (by omega)).mono ?_
      rintro e w3 ⟨A3, c3, rfl, hown3, hb3⟩
      have hown' := hown.below hb3 (.inl (Nat.le_refl _))
      go_wp2
      go_ret2
      exact ⟨_, _, _, _, _, rfl, hown', hown3, ⟨hz, hb3.size⟩, hbw.trans (hb3.mono hz)⟩

set_option maxHeartbeats 400000 in
theorem spec_SplitSum_any {p key : Int} {A : Option Addr} {n c : Nat} {xs : List Int} {w : World} (r0 : RI w A n xs) (b0 : n ≤ 2097152) :
    Calls Try.prog 47 #[.int .i64 p, .int .i64 key, .slice A n c] w (RetO2 w (splitSF p key n xs)) := by
  go_enter Try.func47, Try.ntmps47
  go_wp2_with fail
  refine (shKey_any key _).mono ?_
  rintro e w1 ⟨rfl, rfl⟩
  cases h1 : inB 0 1000000000 key with
  | false =>
    go_wp2
    go_ret3
    exact RetO2.none_ (Below.refl _ _) (by simp [splitSF, h1]) rfl
  | true =>
    have hk := inB_iff.1 h1
    have H1 := Lib.hid h1; clear h1
    go_wp2_with fail
    refine (shValues_any p A n c xs _ r0 b0).mono ?_
    rintro e w1 ⟨rfl, hb1⟩
    cases h2 : sharesB p n xs with
    | false =>
      go_wp2
      go_ret3
      exact RetO2.none_ hb1 (by simp [splitSF, h2]) rfl
    | true =>
      have hR : Hid (splitSF p key n xs = some (ssL p key n, tab n fun i => (gi xs i + -1 * gi (ssL p key n) i) % p)) := Lib.hid (by
        unfold splitSF; rw [H1.out, h2]
        refine congrArg (fun z => some (ssL p key n, z)) (tab_congr fun j hj => ?_)
        congr 1; omega)
      have H2 := Lib.hid h2; clear h2
      have hz := hb1.size
      go_wp2_with fail
      refine (shSplitSum_any (r0.below hb1 (Nat.le_refl _)) H2.out hk).mono ?_
      rintro e w3 ⟨A2, c2, A3, c3, mid, rfl, hown2, hown3, ⟨hm1, hm2⟩, hb3⟩
      go_wp2
      go_ret3
      exact RetO2.some_ (hb1.trans (hb3.mono hz)) hR.out (tab_len _ _) (tab_len _ _) rfl (hown2.lo_ hz) hown3 (by omega) hm2

end Go.Proofs.Ythmdgcbhoijmgaa
