/- Contracts of the functions that split values and bits into shares. Lengths up to 2^21. -/
import Derived.Test.YthmdgcbhoijmgaaXor
import Derived.Test.YthmdgcbhoijmgaaSum
namespace Go.Proofs.Ythmdgcbhoijmgaa
open Go.RowKit
set_option linter.unusedVariables false
set_option linter.unusedSimpArgs false

/-- The value at x of the polynomial with these coefficients. -/
def pol (p x : Int) (cs : List Int) : Int := cs.foldr (fun c acc => (acc * x + c) % p) 0
theorem pol_bd {p x : Int} (hp : 0 < p) (cs : List Int) : 0 ≤ pol p x cs ∧ pol p x cs < p := by
  cases cs with
  | nil => simp [pol]; omega
  | cons c cs => exact ⟨Int.emod_nonneg _ (by omega), Int.emod_lt_of_pos _ hp⟩
theorem pol_drop {p x : Int} {cs : List Int} {k : Nat} (h : k < cs.length) : pol p x (cs.drop k) = (pol p x (cs.drop (k + 1)) * x + gi cs k) % p := by
  rw [List.drop_eq_getElem_cons h, gi_lt h]; rfl
/-- The coefficients of a value's polynomial. -/
def cfL (p key value : Int) (m : Nat) : List Int := value :: tab m fun i => dg ([key, (i : Int) + 1, 14] ++ [p]) % p
theorem cfL_len (p key value : Int) (m : Nat) : (cfL p key value m).length = m + 1 := by simp [cfL, tab_len]
theorem cfL_snoc (p key value : Int) (m : Nat) : cfL p key value (m + 1) = cfL p key value m ++ [dg ([key, (m : Int) + 1, 14] ++ [p]) % p] := by simp [cfL, tab_snoc]
theorem cfL_bd {p key value : Int} (hp : 0 < p) (hv : 0 ≤ value ∧ value < p) (m : Nat) : ∀ x ∈ cfL p key value m, 0 ≤ x ∧ x < p := by
  intro x hx
  rcases List.mem_cons.1 hx with rfl | hx
  · exact hv
  · obtain ⟨j, _, rfl⟩ := mem_tab hx
    exact ⟨Int.emod_nonneg _ (by omega), Int.emod_lt_of_pos _ hp⟩
/-- The shares of a value. -/
def thL (p key value : Int) (n t : Nat) : List Int := tab n fun i => pol p ((i : Int) + 1) (cfL p key value (t - 1))
/-- The shares of a value, for a key, a number of holders and a threshold that are asked for. -/
def thF (p key value n t : Int) : Option (List Int) := if elemB p value && inB 0 1000000000 key && inB 1 10 n && decide (n < p) && inB 1 n t then some (thL p key value n.toNat t.toNat) else none
theorem thF_len (p key value n t : Int) : ((thF p key value n t).getD []).length ≤ 10 := by
  unfold thF
  split
  · rename_i h
    simp only [Bool.and_eq_true] at h
    have := inB_iff.1 h.1.1.2
    simp [thL, tab_len]; omega
  · simp

set_option maxHeartbeats 400000 in
theorem evalPoly_any (p x : Int) (A : Option Addr) (n c : Nat) (cs : List Int) (w : World) (ha : RI w A n cs) (hn : n ≤ 2097152) (hp : 0 < p ∧ p ≤ 1000000) (hx : 0 ≤ x ∧ x ≤ 1000000) (hc : ∀ y ∈ cs, 0 ≤ y ∧ y ≤ 1000000) :
    Calls Try.prog 95 #[.int .i64 p, .slice A n c, .int .i64 x] w fun e w' => e = .returned (.int .i64 (pol p x cs)) ∧ w = w' := by
  obtain ⟨hp0, hp1⟩ := hp
  obtain ⟨hx0, hx1⟩ := hx
  have hl := ha.len
  have hpne : ¬ p = 0 := by omega
  go_enter Try.func95, Try.ntmps95
  go_wp2
  go_loop [7, 8] (fun s i => ∃ (k : Nat) (q : Int), k ≤ n ∧ i = .int .i64 ((k : Int) - 1) ∧ s = .int .i64 q ∧ Hid (q = pol p x (cs.drop k)) ∧ 0 ≤ q ∧ q < p) (fun _ i => (intOf i + 1).toNat)
  case atStart => exact ⟨n, 0, Nat.le_refl _, rfl, rfl, Lib.hid (by rw [List.drop_of_length_le (by omega)]; rfl), by omega, by omega⟩
  case round =>
    obtain ⟨k, q, hk, rfl, rfl, hq, hq0, hq1⟩ := hrel
    by_cases hlt : 0 < k
    · obtain ⟨j, rfl⟩ : ∃ j, k = j + 1 := ⟨k - 1, by omega⟩
      obtain ⟨b, o, rfl, hbB, c1⟩ := ha.at_ (k := j) (by omega)
      have hX := hc _ (gi_mem (xs := cs) (j := j) (by omega))
      have hs : Hid ((q * x + gi cs j) % p = pol p x (cs.drop j)) := Lib.hid (by rw [pol_drop (by omega), hq.out])
      have e1 : (((j + 1 : Nat) : Int) - 1) = (j : Int) := by omega
      rw [e1]
      clear e1 ha hc
      generalize gi cs j = X at *
      obtain ⟨hX0, hX1⟩ := hX
      have hm0 : 0 ≤ q * x := Int.mul_nonneg hq0 hx0
      have hm1 : q * x ≤ 1000000 * 1000000 := Int.mul_le_mul (by omega) (by omega) hx0 (by omega)
      have hr0 := Int.emod_nonneg (q * x + X) (show p ≠ 0 by omega)
      have hr1 := Int.emod_lt_of_pos (q * x + X) hp0
      have hj1 : (j : Int) < n := by omega
      go_wp2
      go_round
      case rel => exact ⟨j, _, by omega, rfl, rfl, hs, hr0, hr1⟩
      case measure => simp [intOf]
    · obtain rfl : k = 0 := by omega
      have hf : Hid (q = pol p x cs) := Lib.hid (by have := hq.out; rwa [List.drop_zero] at this)
      clear hq ha hc
      go_wp2
      go_ret
      exact ⟨by rw [← hf.out]; rfl, rfl⟩

set_option maxHeartbeats 400000 in
theorem fpEval_any (p x : Int) (A : Option Addr) (n c : Nat) (cs : List Int) (w : World) (ha : RI w A n cs) (hn : n ≤ 2097152) (hp : 0 < p ∧ p ≤ 1000000) (hx : 0 ≤ x ∧ x ≤ 1000000) (hc : ∀ y ∈ cs, 0 ≤ y ∧ y ≤ 1000000) :
    Calls Try.prog 94 #[.int .i64 p, .slice A n c, .int .i64 x] w fun e w' => e = .returned (.int .i64 (pol p x cs)) ∧ w = w' := by
  obtain ⟨hp0, hp1⟩ := hp
  obtain ⟨hx0, hx1⟩ := hx
  have hl := ha.len
  have hpne : ¬ p = 0 := by omega
  go_enter Try.func94, Try.ntmps94
  go_wp2
  go_loop [7, 8] (fun s i => ∃ (k : Nat) (q : Int), k ≤ n ∧ i = .int .i64 ((k : Int) - 1) ∧ s = .int .i64 q ∧ Hid (q = pol p x (cs.drop k)) ∧ 0 ≤ q ∧ q < p) (fun _ i => (intOf i + 1).toNat)
  case atStart => exact ⟨n, 0, Nat.le_refl _, rfl, rfl, Lib.hid (by rw [List.drop_of_length_le (by omega)]; rfl), by omega, by omega⟩
  case round =>
    obtain ⟨k, q, hk, rfl, rfl, hq, hq0, hq1⟩ := hrel
    by_cases hlt : 0 < k
    · obtain ⟨j, rfl⟩ : ∃ j, k = j + 1 := ⟨k - 1, by omega⟩
      obtain ⟨b, o, rfl, hbB, c1⟩ := ha.at_ (k := j) (by omega)
      have hX := hc _ (gi_mem (xs := cs) (j := j) (by omega))
      have hs : Hid ((q * x + gi cs j) % p = pol p x (cs.drop j)) := Lib.hid (by rw [pol_drop (by omega), hq.out])
      have e1 : (((j + 1 : Nat) : Int) - 1) = (j : Int) := by omega
      rw [e1]
      clear e1 ha hc
      generalize gi cs j = X at *
      obtain ⟨hX0, hX1⟩ := hX
      have hm0 : 0 ≤ q * x := Int.mul_nonneg hq0 hx0
      have hm1 : q * x ≤ 1000000 * 1000000 := Int.mul_le_mul (by omega) (by omega) hx0 (by omega)
      have hr0 := Int.emod_nonneg (q * x + X) (show p ≠ 0 by omega)
      have hr1 := Int.emod_lt_of_pos (q * x + X) hp0
      have hj1 : (j : Int) < n := by omega
      go_wp2
      go_round
      case rel => exact ⟨j, _, by omega, rfl, rfl, hs, hr0, hr1⟩
      case measure => simp [intOf]
    · obtain rfl : k = 0 := by omega
      have hf : Hid (q = pol p x cs) := Lib.hid (by have := hq.out; rwa [List.drop_zero] at this)
      clear hq ha hc
      go_wp2
      go_ret
      exact ⟨by rw [← hf.out]; rfl, rfl⟩

set_option maxRecDepth 100000 in
set_option maxHeartbeats 4000000 in
theorem splitThreshold_any (p key value : Int) (n t : Nat) (w : World) (hp : 2 ≤ p ∧ p ≤ 251) (hk : 0 ≤ key ∧ key ≤ 1000000000) (hv : 0 ≤ value ∧ value < p) (hn : n ≤ 1000) (ht : 1 ≤ t ∧ t ≤ 1000) :
    Calls Try.prog 76 #[.int .i64 p, .int .i64 key, .int .i64 value, .int .i64 n, .int .i64 t] w fun e w' => ∃ A' c', e = .returned (.slice A' n c') ∧ Own w' w.heap.size w'.heap.size (.slice A' n c') n (thL p key value n t) ∧ Below w.heap.size w w' := by
  obtain ⟨hp0, hp1⟩ := hp
  obtain ⟨hk0, hk1⟩ := hk
  obtain ⟨ht0, ht1⟩ := ht
  have h0 := Own_new1 w value w.heap.size (Nat.le_refl _)
  have hB : Below w.heap.size w (w.alloc (.cells #[.int .i64 value] 3)) := (Below.refl _ _).alloc (Nat.le_refl _) _
  have hB2 := hB.alloc (by simp) (.cells #[] 3)
  have hO : Own ((w.alloc (.cells #[.int .i64 value] 3)).alloc (.cells #[] 3)) w.heap.size ((w.alloc (.cells #[.int .i64 value] 3)).alloc (.cells #[] 3)).heap.size (.slice (some ⟨w.heap.size + 1, 0, none⟩) 0 0) 0 [] := by
    have h := (Own_new0 (w.alloc (.cells #[.int .i64 value] 3)) w.heap.size (by simp)).now
    rwa [show (w.alloc (.cells #[.int .i64 value] 3)).heap.size = w.heap.size + 1 from by simp] at h
  go_enter Try.func76, Try.ntmps76
  go_wp2
  go_loopw [11, 13] (fun v i wr => ∃ (j : Nat) (A' : Option Addr) (c' : Nat), j + 1 ≤ t ∧ i = .int .i64 ((j : Int) + 1) ∧ v = .slice A' (j + 1) c' ∧ Own wr w.heap.size wr.heap.size (.slice A' (j + 1) c') (j + 1) (cfL p key value j) ∧ Below w.heap.size w wr ∧ Own wr w.heap.size wr.heap.size (.slice (some ⟨w.heap.size + 1, 0, none⟩) 0 0) 0 [] ∧ Apart (.slice A' (j + 1) c') (.slice (some ⟨w.heap.size + 1, 0, none⟩) 0 0)) (fun _ i _ => t - (intOf i).toNat)
  case atStart => exact ⟨0, _, _, ht0, rfl, rfl, (h0.alloc _).now, hB2, hO, fun g h1 h2 => by simp [Value.ownBlock] at h1 h2; omega⟩
  case round =>
    clear h0 hB hB2 hO
    obtain ⟨j, A', c', hj, rfl, rfl, hown, hbw, hout, hap⟩ := hrel
    by_cases hlt : j + 1 < t
    · have hsn := Lib.hid (cfL_snoc p key value j)
      have hz := hbw.size
      have hb0 := hbw.alloc hz (.cells #[.int .i64 key, .int .i64 ((j : Int) + 1), .int .i64 14] 3)
      have hown0 := hown.alloc (.cells #[.int .i64 key, .int .i64 ((j : Int) + 1), .int .i64 14] 3)
      have hout0 := hout.alloc (.cells #[.int .i64 key, .int .i64 ((j : Int) + 1), .int .i64 14] 3)
      clear hown hbw hout
      go_wp2_with fail
      refine (numberFrom_any _ _ _ _ p _ (RI_new3 _ _ _ _ _) (by omega) (fun x hx => by simp at hx; omega) (by omega) (by omega)).mono ?_
      rintro e w2 ⟨rfl, hb2⟩
      have hb3 : Below w.heap.size w w2 := hb0.trans (hb2.mono (by simp; omega))
      have hown3 := hown0.below hb2 (.inl (Nat.le_refl _))
      have hout3 := hout0.below hb2 (.inl (Nat.le_refl _))
      have hr0 := Int.emod_nonneg (dg ([key, (j : Int) + 1, 14] ++ [p])) (show p ≠ 0 by omega)
      have hr1 := Int.emod_lt_of_pos (dg ([key, (j : Int) + 1, 14] ++ [p])) (show 0 < p by omega)
      have hz3 := hb3.size
      clear hb0 hown0 hb2 hout0
      generalize dg ([key, (j : Int) + 1, 14] ++ [p]) % p = D at *
      have hb4 := hb3.alloc hz3 (.cells #[.int .i64 D] 3)
      have hown4 := hown3.alloc (.cells #[.int .i64 D] 3)
      have hout4 := hout3.alloc (.cells #[.int .i64 D] 3)
      clear hb3 hown3 hout3
      go_wp2_with (at_builtin; refine wpList_app _ rfl _ _ rfl rfl hown4 rfl (RI_new1 _ _ _) (by omega) (by simp; omega) ?_; intro A5 c5 w5 hown5 hg5 hat5)
      have hb5 := below_app hb4 hown4 hg5 (by simp; omega) (Nat.le_refl _)
      have hout5 := (hout4.apart hg5 hap.symm_).now
      have hap5 := (hap.symm_.app hout4 (Nat.le_refl _) hat5).symm_
      rw [← hsn.out] at hown5
      clear hb4 hown4 hg5 hat5
      go_wp2
      go_roundw
      case rel => exact ⟨j + 1, _, _, by omega, by go_num, rfl, hown5, hb5, hout5, hap5⟩
      case measure => simp [intOf]; omega
    · obtain rfl : j = t - 1 := by omega
      have hco := Lib.hid (cfL_bd (key := key) (show 0 < p by omega) hv (t - 1))
      have HR : Hid (thL p key value n t = tab n fun i => pol p ((i : Int) + 1) (cfL p key value (t - 1))) := rfl
      generalize cfL p key value (t - 1) = cs at *
      have htl2 : t - 1 + 1 ≤ 1000 := by omega
      have hge : (t : Int) ≤ ((t - 1 : Nat) : Int) + 1 := by omega
      clear hj hlt
      generalize t - 1 + 1 = tl at *
      go_wp2
      go_loopw [12, 14] (fun v i wr2 => ∃ (j : Nat) (A2 : Option Addr) (c2 : Nat), j ≤ n ∧ i = .int .i64 ((j : Int) + 1) ∧ v = .slice A2 j c2 ∧ Own wr2 w.heap.size wr2.heap.size (.slice A2 j c2) j (tab j fun i => pol p ((i : Int) + 1) cs) ∧ Below w.heap.size w wr2 ∧ Own wr2 w.heap.size wr2.heap.size (.slice A' tl c') tl cs ∧ Apart (.slice A' tl c') (.slice A2 j c2)) (fun _ i _ => n + 1 - (intOf i).toNat)
      case atStart => exact ⟨0, _, _, Nat.zero_le _, rfl, rfl, hout, hbw, hown, hap⟩
      case round =>
        clear hown hbw hout hap
        obtain ⟨k, A2, c2, hk, rfl, rfl, hout, hbw, hown, hap⟩ := hrel
        by_cases hlt : k < n
        · have hsn : Hid (tab (k + 1) (fun i => pol p ((i : Int) + 1) cs) = tab k (fun i => pol p ((i : Int) + 1) cs) ++ [pol p ((k : Int) + 1) cs]) := Lib.hid (tab_snoc k _)
          have hz := hbw.size
          go_wp2_with fail
          refine (evalPoly_any p _ A' tl c' cs _ hown.reads (by omega) (by omega) (by omega) (fun y hy => by have := hco.out y hy; omega)).mono ?_
          rintro e w2 ⟨rfl, rfl⟩
          generalize pol p ((k : Int) + 1) cs = D at *
          have hb4 := hbw.alloc hz (.cells #[.int .i64 D] 3)
          have hown4 := hown.alloc (.cells #[.int .i64 D] 3)
          have hout4 := hout.alloc (.cells #[.int .i64 D] 3)
          clear hbw hown hout
          go_wp2_with (at_builtin; refine wpList_app _ rfl _ _ rfl rfl hout4 rfl (RI_new1 _ _ _) (by omega) (by simp; omega) ?_; intro A5 c5 w5 hown5 hg5 hat5)
          have hb5 := below_app hb4 hout4 hg5 (by simp; omega) (Nat.le_refl _)
          have hown5' := (hown4.apart hg5 hap).now
          have hap5 := hap.app hown4 (Nat.le_refl _) hat5
          rw [← hsn.out] at hown5
          clear hb4 hown4 hout4 hg5 hat5 hap
          go_wp2
          go_roundw
          case rel => exact ⟨k + 1, _, _, by omega, by go_num, rfl, hown5, hb5, hown5', hap5⟩
          case measure => simp [intOf]; omega
        · obtain rfl : k = n := by omega
          clear hown hap
          go_wp2
          go_ret
          exact ⟨_, _, rfl, by rw [HR.out]; exact hout, hbw⟩

set_option maxRecDepth 100000 in
set_option maxHeartbeats 4000000 in
theorem thSplit_any (p key value : Int) (n t : Nat) (w : World) (hp : 2 ≤ p ∧ p ≤ 251) (hk : 0 ≤ key ∧ key ≤ 1000000000) (hv : 0 ≤ value ∧ value < p) (hn : n ≤ 1000) (ht : 1 ≤ t ∧ t ≤ 1000) :
    Calls Try.prog 74 #[.int .i64 p, .int .i64 key, .int .i64 value, .int .i64 n, .int .i64 t] w fun e w' => ∃ A' c', e = .returned (.slice A' n c') ∧ Own w' w.heap.size w'.heap.size (.slice A' n c') n (thL p key value n t) ∧ Below w.heap.size w w' := by
  obtain ⟨hp0, hp1⟩ := hp
  obtain ⟨hk0, hk1⟩ := hk
  obtain ⟨ht0, ht1⟩ := ht
  have h0 := Own_new1 w value w.heap.size (Nat.le_refl _)
  have hB : Below w.heap.size w (w.alloc (.cells #[.int .i64 value] 3)) := (Below.refl _ _).alloc (Nat.le_refl _) _
  go_enter Try.func74, Try.ntmps74
  go_wp2
  go_loopw [11, 12] (fun v i wr => ∃ (j : Nat) (A' : Option Addr) (c' : Nat), j + 1 ≤ t ∧ i = .int .i64 ((j : Int) + 1) ∧ v = .slice A' (j + 1) c' ∧ Own wr w.heap.size wr.heap.size (.slice A' (j + 1) c') (j + 1) (cfL p key value j) ∧ Below w.heap.size w wr) (fun _ i _ => t - (intOf i).toNat)
  case atStart => exact ⟨0, _, _, ht0, rfl, rfl, h0.now, hB⟩
  case round =>
    clear h0 hB
    obtain ⟨j, A', c', hj, rfl, rfl, hown, hbw⟩ := hrel
    by_cases hlt : j + 1 < t
    · have hsn := Lib.hid (cfL_snoc p key value j)
      have hz := hbw.size
      have hb0 := hbw.alloc hz (.cells #[.int .i64 key, .int .i64 ((j : Int) + 1), .int .i64 14] 3)
      have hown0 := hown.alloc (.cells #[.int .i64 key, .int .i64 ((j : Int) + 1), .int .i64 14] 3)
      clear hown hbw
      go_wp2_with fail
      refine (dgBelow_any _ _ _ _ p _ (RI_new3 _ _ _ _ _) (by omega) (fun x hx => by simp at hx; omega) (by omega) (by omega)).mono ?_
      rintro e w2 ⟨rfl, hb2⟩
      have hb3 : Below w.heap.size w w2 := hb0.trans (hb2.mono (by simp; omega))
      have hown3 := hown0.below hb2 (.inl (Nat.le_refl _))
      have hr0 := Int.emod_nonneg (dg ([key, (j : Int) + 1, 14] ++ [p])) (show p ≠ 0 by omega)
      have hr1 := Int.emod_lt_of_pos (dg ([key, (j : Int) + 1, 14] ++ [p])) (show 0 < p by omega)
      have hz3 := hb3.size
      clear hb0 hown0 hb2
      generalize dg ([key, (j : Int) + 1, 14] ++ [p]) % p = D at *
      have hb4 := hb3.alloc hz3 (.cells #[.int .i64 D] 3)
      have hown4 := hown3.alloc (.cells #[.int .i64 D] 3)
      clear hb3 hown3
      go_wp2_with (at_builtin; refine wpList_app _ rfl _ _ rfl rfl hown4 rfl (RI_new1 _ _ _) (by omega) (by simp; omega) ?_; intro A5 c5 w5 hown5 hg5 hat5)
      have hb5 := below_app hb4 hown4 hg5 (by simp; omega) (Nat.le_refl _)
      rw [← hsn.out] at hown5
      clear hb4 hown4 hg5 hat5
      go_wp2
      go_roundw
      case rel => exact ⟨j + 1, _, _, by omega, by go_num, rfl, hown5, hb5⟩
      case measure => simp [intOf]; omega
    · obtain rfl : j = t - 1 := by omega
      have hco := Lib.hid (cfL_bd (key := key) (show 0 < p by omega) hv (t - 1))
      have HR : Hid (thL p key value n t = tab n fun i => pol p ((i : Int) + 1) (cfL p key value (t - 1))) := rfl
      generalize cfL p key value (t - 1) = cs at *
      have htl2 : t - 1 + 1 ≤ 1000 := by omega
      have hge : (t : Int) ≤ ((t - 1 : Nat) : Int) + 1 := by omega
      clear hj hlt
      generalize t - 1 + 1 = tl at *
      go_wp2
      go_loopw [13, 14] (fun v i wr2 => ∃ (j : Nat) (A2 : Option Addr) (c2 : Nat), j ≤ n ∧ i = .int .i64 ((j : Int) + 1) ∧ v = .slice A2 j c2 ∧ Own wr2 w.heap.size wr2.heap.size (.slice A2 j c2) j (tab j fun i => pol p ((i : Int) + 1) cs) ∧ Below w.heap.size w wr2 ∧ Own wr2 w.heap.size wr2.heap.size (.slice A' tl c') tl cs ∧ Apart (.slice A' tl c') (.slice A2 j c2)) (fun _ i _ => n + 1 - (intOf i).toNat)
      case atStart => exact ⟨0, _, _, Nat.zero_le _, rfl, rfl, Own.none_ _ _ _, hbw, hown, Apart.none_ _ _ _⟩
      case round =>
        clear hown hbw
        obtain ⟨k, A2, c2, hk, rfl, rfl, hout, hbw, hown, hap⟩ := hrel
        by_cases hlt : k < n
        · have hsn : Hid (tab (k + 1) (fun i => pol p ((i : Int) + 1) cs) = tab k (fun i => pol p ((i : Int) + 1) cs) ++ [pol p ((k : Int) + 1) cs]) := Lib.hid (tab_snoc k _)
          have hz := hbw.size
          go_wp2_with fail
          refine (fpEval_any p _ A' tl c' cs _ hown.reads (by omega) (by omega) (by omega) (fun y hy => by have := hco.out y hy; omega)).mono ?_
          rintro e w2 ⟨rfl, rfl⟩
          generalize pol p ((k : Int) + 1) cs = D at *
          have hb4 := hbw.alloc hz (.cells #[.int .i64 D] 3)
          have hown4 := hown.alloc (.cells #[.int .i64 D] 3)
          have hout4 := hout.alloc (.cells #[.int .i64 D] 3)
          clear hbw hown hout
          go_wp2_with (at_builtin; refine wpList_app _ rfl _ _ rfl rfl hout4 rfl (RI_new1 _ _ _) (by omega) (by simp; omega) ?_; intro A5 c5 w5 hown5 hg5 hat5)
          have hb5 := below_app hb4 hout4 hg5 (by simp; omega) (Nat.le_refl _)
          have hown5' := (hown4.apart hg5 hap).now
          have hap5 := hap.app hown4 (Nat.le_refl _) hat5
          rw [← hsn.out] at hown5
          clear hb4 hown4 hout4 hg5 hat5 hap
          go_wp2
          go_roundw
          case rel => exact ⟨k + 1, _, _, by omega, by go_num, rfl, hown5, hb5, hown5', hap5⟩
          case measure => simp [intOf]; omega
        · obtain rfl : k = n := by omega
          clear hown hap
          go_wp2
          go_ret
          exact ⟨_, _, rfl, by rw [HR.out]; exact hout, hbw⟩

end Go.Proofs.Ythmdgcbhoijmgaa
