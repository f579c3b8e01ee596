/- Contracts of SplitThreshold, SplitBits, RefreshBits, SplitSum. Lengths up to 2^21. -/
import Derived.Test.YthmdgcbhoijmgaaSplit
import Derived.Test.YthmdgcbhoijmgaaLaw
namespace Go.Proofs.Ythmdgcbhoijmgaa
open Go.RowKit
set_option linter.unusedVariables false
set_option linter.unusedSimpArgs false

/-- A call that began at w returns two new slices and true; or two empty ones and false. -/
def RetO2 (w : World) (o : Option (List Int × List Int)) (e : Ending) (w' : World) : Prop :=
  ∃ A' c' A2 c2 mid, e = .returned (.tuple #[.slice A' (o.getD ([], [])).1.length c', .slice A2 (o.getD ([], [])).2.length c2, .bool o.isSome]) ∧
    Own w' w.heap.size mid (.slice A' (o.getD ([], [])).1.length c') (o.getD ([], [])).1.length (o.getD ([], [])).1 ∧ Own w' mid w'.heap.size (.slice A2 (o.getD ([], [])).2.length c2) (o.getD ([], [])).2.length (o.getD ([], [])).2 ∧
    (w.heap.size ≤ mid ∧ mid ≤ w'.heap.size) ∧ Below w.heap.size w w'
theorem RetO2.none_ {w : World} {o : Option (List Int × List Int)} {e : Ending} {w' : World} (hb : Below w.heap.size w w') (ho : o = none) (he : e = .returned (.tuple #[.slice none 0 0, .slice none 0 0, .bool false])) : RetO2 w o e w' := by
  subst ho; exact ⟨none, 0, none, 0, w.heap.size, he, Own.none_ _ _ _, Own.none_ _ _ _, ⟨Nat.le_refl _, hb.size⟩, hb⟩
theorem RetO2.some_ {w : World} {o : Option (List Int × List Int)} {zs ys : List Int} {n m mid : Nat} {A' A2 : Option Addr} {c' c2 : Nat} {e : Ending} {w' : World} (hb : Below w.heap.size w w') (ho : o = some (zs, ys)) (hn : zs.length = n) (hm : ys.length = m)
    (he : e = .returned (.tuple #[.slice A' n c', .slice A2 m c2, .bool true])) (hw : Own w' w.heap.size mid (.slice A' n c') n zs) (hw2 : Own w' mid w'.heap.size (.slice A2 m c2) m ys) (h1 : w.heap.size ≤ mid) (h2 : mid ≤ w'.heap.size) : RetO2 w o e w' := by
  subst ho; subst hn; subst hm; exact ⟨A', c', A2, c2, mid, he, hw, hw2, ⟨h1, h2⟩, hb⟩

theorem isKey_any (k : Int) (w : World) : Calls Try.prog 68 #[.int .i64 k] w fun e w' => e = .returned (.bool (inB 0 1000000000 k)) ∧ w = w' := by
  go_enter Try.func68, Try.ntmps68
  go_wp2_with fail
  refine (within_any k 0 1000000000 _ rfl _).mono ?_
  rintro e w1 ⟨rfl, rfl⟩
  go_wp2
  go_ret
  exact ⟨rfl, rfl⟩

theorem shKey_any (k : Int) (w : World) : Calls Try.prog 64 #[.int .i64 k] w fun e w' => e = .returned (.bool (inB 0 1000000000 k)) ∧ w = w' := by
  go_enter Try.func64, Try.ntmps64
  go_wp2_with fail
  refine (l1In_any k 0 1000000000 _ rfl _).mono ?_
  rintro e w1 ⟨rfl, rfl⟩
  go_wp2
  go_ret
  exact ⟨rfl, rfl⟩

theorem otKey_any (k : Int) (w : World) : Calls Try.prog 73 #[.int .i64 k] w fun e w' => e = .returned (.bool (inB 0 1000000000 k)) ∧ w = w' := by
  go_enter Try.func73, Try.ntmps73
  go_wp2_with fail
  refine (l1In_any k 0 1000000000 _ rfl _).mono ?_
  rintro e w1 ⟨rfl, rfl⟩
  go_wp2
  go_ret
  exact ⟨rfl, rfl⟩

set_option maxRecDepth 100000 in
set_option maxHeartbeats 400000 in
theorem SplitThreshold_any {p key value n t : Int} {w : World} (hn : (Lit.int .i64 n).wf = true) :
    Calls Try.prog 44 #[.int .i64 p, .int .i64 key, .int .i64 value, .int .i64 n, .int .i64 t] w (RetO w (thF p key value n t)) := by
  go_enter Try.func44, Try.ntmps44
  go_wp2_with fail
  refine (isElement_any p value _).mono ?_
  rintro e w1 ⟨rfl, rfl⟩
  cases h1 : elemB p value with
  | false =>
    go_wp2
    go_ret2
    exact RetO.none_ (Below.refl _ _) (by simp [thF, h1]) rfl
  | true =>
    obtain ⟨hp0, hp1, hv0, hv1⟩ := elemB_bd h1
    have H1 := Lib.hid h1; clear h1
    go_wp2_with fail
    refine (isKey_any key _).mono ?_
    rintro e w1 ⟨rfl, rfl⟩
    cases h2 : inB 0 1000000000 key with
    | false =>
      go_wp2
      go_ret2
      exact RetO.none_ (Below.refl _ _) (by simp [thF, h2]) rfl
    | true =>
      have hk := inB_iff.1 h2
      have H2 := Lib.hid h2; clear h2
      by_cases hm : 10 ≤ p - 1
      · have hmin : inB 1 10 n = (inB 1 10 n && decide (n < p)) := by
          cases h : inB 1 10 n with
          | false => rfl
          | true => have := inB_iff.1 h; simp; omega
        go_wp2_with fail
        refine (within_any n 1 10 _ rfl _).mono ?_
        rintro e w1 ⟨rfl, rfl⟩
        cases h3 : inB 1 10 n with
        | false =>
          go_wp2
          go_ret2
          exact RetO.none_ (Below.refl _ _) (by rw [hmin] at h3; unfold thF; rw [Bool.and_assoc (_ && _) (inB 1 10 n), h3]; simp) rfl
        | true =>
          have hn1 := inB_iff.1 h3
          rw [hmin] at h3
          have H3 := Lib.hid h3; clear h3
          go_wp2_with fail
          refine (within_any t 1 n _ rfl _).mono ?_
          rintro e w1 ⟨rfl, rfl⟩
          cases h4 : inB 1 n t with
          | false =>
            go_wp2
            go_ret2
            exact RetO.none_ (Below.refl _ _) (by simp [thF, h4]) rfl
          | true =>
            have ht := inB_iff.1 h4
            have hR : Hid (thF p key value n t = some (thL p key value n.toNat t.toNat)) := Lib.hid (by
              unfold thF; rw [Bool.and_assoc (_ && _) (inB 1 10 n), H1.out, H2.out, H3.out, h4]; rfl)
            clear h4
            obtain ⟨N, rfl⟩ : ∃ N : Nat, n = N := ⟨n.toNat, by omega⟩
            obtain ⟨T, rfl⟩ : ∃ T : Nat, t = T := ⟨t.toNat, by omega⟩
            rw [Int.toNat_natCast, Int.toNat_natCast] at hR
            go_wp2_with fail
            refine (splitThreshold_any p key value N T _ (by omega) hk (by omega) (by omega) (by omega)).mono ?_
            rintro e w1 ⟨A1, c1, rfl, hown1, hb1⟩
            go_wp2
            go_ret2
            exact RetO.some_ hb1 hR.out (tab_len _ _) rfl hown1
      · have hmin : inB 1 (p - 1) n = (inB 1 10 n && decide (n < p)) := by
          rw [Bool.eq_iff_iff]; simp only [Bool.and_eq_true, decide_eq_true_eq, inB_iff]; omega
        have hm' : p - 1 < 10 := by omega
        go_wp2_with fail
        refine (within_any n 1 (p - 1) _ rfl _).mono ?_
        rintro e w1 ⟨rfl, rfl⟩
        cases h3 : inB 1 (p - 1) n with
        | false =>
          go_wp2
          go_ret2
          exact RetO.none_ (Below.refl _ _) (by rw [hmin] at h3; unfold thF; rw [Bool.and_assoc (_ && _) (inB 1 10 n), h3]; simp) rfl
        | true =>
          have hn1 := inB_iff.1 h3
          rw [hmin] at h3
          have H3 := Lib.hid h3; clear h3
          go_wp2_with fail
          refine (within_any t 1 n _ rfl _).mono ?_
          rintro e w1 ⟨rfl, rfl⟩
          cases h4 : inB 1 n t with
          | false =>
            go_wp2
            go_ret2
            exact RetO.none_ (Below.refl _ _) (by simp [thF, h4]) rfl
          | true =>
            have ht := inB_iff.1 h4
            have hR : Hid (thF p key value n t = some (thL p key value n.toNat t.toNat)) := Lib.hid (by
              unfold thF; rw [Bool.and_assoc (_ && _) (inB 1 10 n), H1.out, H2.out, H3.out, h4]; rfl)
            clear h4
            obtain ⟨N, rfl⟩ : ∃ N : Nat, n = N := ⟨n.toNat, by omega⟩
            obtain ⟨T, rfl⟩ : ∃ T : Nat, t = T := ⟨t.toNat, by omega⟩
            rw [Int.toNat_natCast, Int.toNat_natCast] at hR
            go_wp2_with fail
            refine (splitThreshold_any p key value N T _ (by omega) hk (by omega) (by omega) (by omega)).mono ?_
            rintro e w1 ⟨A1, c1, rfl, hown1, hb1⟩
            go_wp2
            go_ret2
            exact RetO.some_ hb1 hR.out (tab_len _ _) rfl hown1

set_option maxHeartbeats 400000 in
theorem thHolders_any (p n t : Int) (w : World) : Calls Try.prog 72 #[.int .i64 p, .int .i64 n, .int .i64 t] w fun e w' => e = .returned (.bool (primeB p && inB 1 10 n && decide (n < p) && inB 1 n t)) ∧ w = w' := by
  go_enter Try.func72, Try.ntmps72
  go_wp2_with fail
  refine (fpGood_any p _).mono ?_
  rintro e w1 ⟨rfl, rfl⟩
  cases h1 : primeB p with
  | false =>
    go_wp2
    go_ret
    exact ⟨by rw [h1]; rfl, rfl⟩
  | true =>
    go_wp2_with fail
    refine (l1In_any n 1 10 _ rfl _).mono ?_
    rintro e w1 ⟨rfl, rfl⟩
    cases h2 : inB 1 10 n with
    | false =>
      go_wp2
      go_ret
      exact ⟨by rw [h1, h2]; rfl, rfl⟩
    | true =>
      by_cases h3 : n < p
      · have H3 : Hid (decide (n < p) = true) := Lib.hid (by simpa using h3)
        go_wp2_with fail
        refine (l1In_any t 1 n _ rfl _).mono ?_
        rintro e w1 ⟨rfl, rfl⟩
        go_wp2
        go_ret
        exact ⟨by first | (rw [h1, h2, H3.out]; rfl) | (rw [H3.out]; rfl), rfl⟩
      · have H3 : Hid (decide (n < p) = false) := Lib.hid (by simpa using h3)
        go_wp2
        go_ret
        exact ⟨by first | (rw [h1, h2, H3.out]; rfl) | (rw [H3.out]; rfl), rfl⟩

set_option maxHeartbeats 400000 in
theorem spec_SplitThreshold_any {p key value n t : Int} {w : World} (hn : (Lit.int .i64 n).wf = true) :
    Calls Try.prog 43 #[.int .i64 p, .int .i64 key, .int .i64 value, .int .i64 n, .int .i64 t] w (RetO w (thF p key value n t)) := by
  have hF : Hid (thF p key value n t = if (primeB p && inB 1 10 n && decide (n < p) && inB 1 n t) && inB 0 1000000000 key && inB 0 (p - 1) value then some (thL p key value n.toNat t.toNat) else none) := Lib.hid (by
    unfold thF elemB
    cases primeB p <;> cases inB 1 10 n <;> cases decide (n < p) <;> cases inB 1 n t <;> cases inB 0 1000000000 key <;> cases inB 0 (p - 1) value <;> rfl)
  go_enter Try.func43, Try.ntmps43
  go_wp2_with fail
  refine (thHolders_any p n t _).mono ?_
  rintro e w1 ⟨rfl, rfl⟩
  cases h1 : (primeB p && inB 1 10 n && decide (n < p) && inB 1 n t) with
  | false =>
    go_wp2
    go_ret2
    exact RetO.none_ (Below.refl _ _) (by rw [hF.out, h1]; rfl) rfl
  | true =>
    have H1 := Lib.hid h1
    simp only [Bool.and_eq_true, decide_eq_true_eq] at h1
    have hp := primeB_bd h1.1.1.1
    have hn := inB_iff.1 h1.1.1.2
    have ht := inB_iff.1 h1.2
    have hnp := h1.1.2
    clear h1
    go_wp2_with fail
    refine (otKey_any key _).mono ?_
    rintro e w1 ⟨rfl, rfl⟩
    cases h2 : inB 0 1000000000 key with
    | false =>
      go_wp2
      go_ret2
      exact RetO.none_ (Below.refl _ _) (by rw [hF.out, h2]; simp) rfl
    | true =>
      have hk := inB_iff.1 h2
      have H2 := Lib.hid h2; clear h2
      obtain ⟨hp0, hp1⟩ := hp
      go_wp2_with fail
      refine (l1In_any value 0 (p - 1) _ rfl _).mono ?_
      rintro e w1 ⟨rfl, rfl⟩
      cases h3 : inB 0 (p - 1) value with
      | false =>
        go_wp2
        go_ret2
        exact RetO.none_ (Below.refl _ _) (by rw [hF.out, h3]; simp) rfl
      | true =>
        have hv := inB_iff.1 h3
        obtain ⟨N, rfl⟩ : ∃ N : Nat, n = N := ⟨n.toNat, by omega⟩
        obtain ⟨T, rfl⟩ : ∃ T : Nat, t = T := ⟨t.toNat, by omega⟩
        have hR : Hid (thF p key value N T = some (thL p key value N T)) := Lib.hid (by rw [hF.out, H1.out, H2.out, h3]; rfl)
        clear h3 hF H1
        go_wp2_with fail
        refine (thSplit_any p key value N T _ (by omega) hk (by omega) (by omega) (by omega)).mono ?_
        rintro e w1 ⟨A1, c1, rfl, hown1, hb1⟩
        go_wp2
        go_ret2
        exact RetO.some_ hb1 hR.out (tab_len _ _) rfl hown1

set_option maxRecDepth 100000 in
set_option maxHeartbeats 800000 in
theorem xored_any (A B : Option Addr) (n c m d : Nat) (xs ys : List Int) (w : World) (ha : RI w A n xs) (hb : RI w B m ys) (hn : n ≤ 2097152) (hnm : n ≤ m) :
    Calls Try.prog 71 #[.slice A n c, .slice B m d] w fun e w' => ∃ A' c', e = .returned (.slice A' n c') ∧ Own w' w.heap.size w'.heap.size (.slice A' n c') n (tab n fun i => bxor (gi xs i) (gi ys i)) ∧ Below w.heap.size w w' := by
  have hB : Below w.heap.size w (w.alloc (.cells #[] 3)) := (Below.refl _ _).alloc (Nat.le_refl _) _
  have h0 := Own_new0 w w.heap.size (Nat.le_refl _)
  go_enter Try.func71, Try.ntmps71
  go_wp2
  go_loopw [5, 10] (fun v i wr => ∃ (k : Nat) (A' : Option Addr) (c' : Nat), k ≤ n ∧ i = .int .i64 k ∧ v = .slice A' k c' ∧ Own wr w.heap.size wr.heap.size (.slice A' k c') k (tab k fun i => bxor (gi xs i) (gi ys i)) ∧ Below w.heap.size w wr) (fun _ i _ => n - (intOf i).toNat)
  case atStart => exact ⟨0, _, _, Nat.zero_le _, rfl, rfl, h0.now, hB⟩
  case round =>
    clear h0 hB
    obtain ⟨k, A', c', hk, rfl, rfl, hown, hbw⟩ := hrel
    by_cases hlt : k < n
    · obtain ⟨b, o, rfl, hbB, c1⟩ := ha.at_ hlt
      obtain ⟨b', o', rfl, hbB', c2⟩ := hb.at_ (k := k) (by omega)
      have hsn : Hid (tab (k + 1) (fun i => bxor (gi xs i) (gi ys i)) = tab k (fun i => bxor (gi xs i) (gi ys i)) ++ [bits .xor .i64 (gi xs k) (gi ys k)]) := Lib.hid (tab_snoc k _)
      have hz := hbw.size
      have e1 := (hbw.cell (p := ⟨b, o + k, none⟩) hbB).trans c1
      have e2 := (hbw.cell (p := ⟨b', o' + k, none⟩) hbB').trans c2
      have g1 : b < wr.heap.size := by omega
      have g2 : b' < wr.heap.size := by omega
      have hk0 : (0 : Int) ≤ (k : Int) := by omega
      have hk1 : (k : Int) < n := by omega
      have hk2 : (k : Int) < m := by omega
      clear ha hb c1 c2
      generalize gi xs k = X at *
      generalize gi ys k = Y at *
      have hbA := (below_drewN hbw 1).alloc hz (.cells #[.int .i64 (bits .xor .i64 X Y)] 3)
      have hownA := (hown.drewN 1).alloc (.cells #[.int .i64 (bits .xor .i64 X Y)] 3)
      go_wp2_with fail
      go_region_held3 (fun w' => w'.cell? ⟨b, o + k, none⟩ = some (.int .i64 X) ∧ w'.cell? ⟨b', o' + k, none⟩ = some (.int .i64 Y)) (first | go_keep | (go_split_ands; exact ⟨keep_app hownA hg5 hbB (by assumption), keep_app hownA hg5 hbB' (by assumption)⟩))
        (first | (refine step_app _ (by rfl) _ _ (by rfl) (by rfl) hownA (by rfl) (RI_new1 _ _ _) (by omega) (by simp; omega) ?_; intro A5 c5 w5 hown5 hg5 hat5))
      have hb5 := below_app hbA hownA hg5 (by simp; omega) (Nat.le_refl _)
      rw [← hsn.out] at hown5
      clear hbA hownA hg5 hat5
      go_wp2
      go_roundw
      case rel => exact ⟨k + 1, _, _, by omega, by go_num, rfl, hown5, hb5⟩
      case measure => simp [intOf]; omega
    · obtain rfl : k = n := by omega
      go_wp2
      go_ret
      exact ⟨_, _, rfl, hown, hbw⟩

/-- Shares of bits. -/
def splitBF (key : Int) (n : Nat) (xs : List Int) : Option (List Int × List Int) := if inB 0 1000000000 key && bitsB n 64 xs then some (bitsL [key, 11] n, tab n fun i => bxor (gi xs i) (gi (bitsL [key, 11] n) i)) else none
/-- Other shares of the same bits. -/
def refreshF (key : Int) (n m : Nat) (xs ys : List Int) : Option (List Int × List Int) := if inB 0 1000000000 key && bitsB n 64 xs && bitsB m 64 ys && decide (n = m) then some (tab n (fun i => bxor (gi xs i) (gi (bitsL [key, 12] n) i)), tab n fun i => bxor (gi ys i) (gi (bitsL [key, 12] n) i)) else none
theorem splitBF_len (key : Int) (n : Nat) (xs : List Int) : ((splitBF key n xs).getD ([], [])).1.length ≤ 64 ∧ ((splitBF key n xs).getD ([], [])).2.length ≤ 64 := by
  unfold splitBF
  split
  · rename_i h
    simp only [Bool.and_eq_true] at h
    have := (bitsB_bd h.2).1
    simp [tab_len, bitsL_len]; omega
  · simp
theorem refreshF_len (key : Int) (n m : Nat) (xs ys : List Int) : ((refreshF key n m xs ys).getD ([], [])).1.length ≤ 64 ∧ ((refreshF key n m xs ys).getD ([], [])).2.length ≤ 64 := by
  unfold refreshF
  split
  · rename_i h
    simp only [Bool.and_eq_true] at h
    have := (bitsB_bd h.1.1.2).1
    simp [tab_len, bitsL_len]; omega
  · simp
theorem words_key {key : Int} (h : 0 ≤ key ∧ key ≤ 1000000000) (z : Int) (hz : 0 ≤ z ∧ z ≤ 1000) : wordsP [key, z] := wordsP_two (by omega) (by omega)

set_option maxHeartbeats 400000 in
theorem SplitBits_any {key : Int} {A : Option Addr} {n c : Nat} {xs : List Int} {w : World} (r0 : RI w A n xs) (b0 : n ≤ 2097152) :
    Calls Try.prog 46 #[.int .i64 key, .slice A n c] w (RetO2 w (splitBF key n xs)) := by
  go_enter Try.func46, Try.ntmps46
  go_wp2_with fail
  refine (isKey_any key _).mono ?_
  rintro e w1 ⟨rfl, rfl⟩
  cases h1 : inB 0 1000000000 key with
  | false =>
    go_wp2
    go_ret3
    exact RetO2.none_ (Below.refl _ _) (by simp [splitBF, h1]) rfl
  | true =>
    have hk := inB_iff.1 h1
    have H1 := Lib.hid h1; clear h1
    go_wp2_with fail
    refine (AreBits_any A n c xs _ r0 b0).mono ?_
    rintro e w1 ⟨rfl, hb1⟩
    cases h2 : bitsB n 64 xs with
    | false =>
      go_wp2
      go_ret3
      exact RetO2.none_ hb1 (by simp [splitBF, h2]) rfl
    | true =>
      have hn := (bitsB_bd h2).1
      have hR : Hid (splitBF key n xs = some (bitsL [key, 11] n, tab n fun i => bxor (gi xs i) (gi (bitsL [key, 11] n) i))) := Lib.hid (by unfold splitBF; rw [H1.out, h2]; rfl)
      clear h2 H1
      have hb2 := hb1.alloc hb1.size (.cells #[.int .i64 key, .int .i64 11] 3)
      have hz1 := hb1.size
      go_wp2_with fail
      refine (bitsFrom_any _ 2 _ n [key, 11] _ (RI_new2 _ _ _ _) (by omega) (words_key hk 11 (by omega)) (by omega)).mono ?_
      rintro e w2 ⟨A2, c2, rfl, hown2, hb3⟩
      have hb4 := hb2.trans (hb3.mono (by simp; omega))
      have hz2 := hb3.size
      clear hb2 hb3
      go_wp2_with fail
      refine (xored_any A A2 n c n c2 xs _ _ (r0.below hb4 (Nat.le_refl _)) hown2.reads b0 (Nat.le_refl _)).mono ?_
      rintro e w3 ⟨A3, c3, rfl, hown3, hb3⟩
      have hown2' := (hown2.below hb3 (.inl (Nat.le_refl _))).lo_ (lo' := w.heap.size) (by simp; omega)
      go_wp2
      go_ret3
      exact RetO2.some_ (hb4.trans (hb3.mono hb4.size)) hR.out (bitsL_len _ _) (tab_len _ _) rfl hown2' hown3 hb4.size hb3.size

theorem shSplit_any {key : Int} {A : Option Addr} {n c : Nat} {xs : List Int} {w : World} (r0 : RI w A n xs) (b0 : n ≤ 64) (hk : 0 ≤ key ∧ key ≤ 1000000000) :
    Calls Try.prog 77 #[.int .i64 key, .slice A n c] w fun e w' => ∃ A2 c2 A3 c3 mid, e = .returned (.tuple #[.slice A2 n c2, .slice A3 n c3]) ∧ Own w' w.heap.size mid (.slice A2 n c2) n (bitsL [key, 11] n) ∧ Own w' mid w'.heap.size (.slice A3 n c3) n (tab n fun i => bxor (gi xs i) (gi (bitsL [key, 11] n) i)) ∧
      (w.heap.size ≤ mid ∧ mid ≤ w'.heap.size) ∧ Below w.heap.size w w' := by
  have hb2 := (Below.refl w.heap.size w).alloc (Nat.le_refl _) (.cells #[.int .i64 key, .int .i64 11] 3)
  go_enter Try.func77, Try.ntmps77
  go_wp2_with fail
  refine (dgBits_any _ 2 _ n [key, 11] _ (RI_new2 _ _ _ _) (by omega) (words_key hk 11 (by omega)) (by omega)).mono ?_
  rintro e w2 ⟨A2, c2, rfl, hown2, hb3⟩
  have hb4 := hb2.trans (hb3.mono (by simp))
  have hz2 := hb3.size
  clear hb2 hb3
  go_wp2_with fail
  refine (btXor_any A A2 n c n c2 xs _ _ (r0.below hb4 (Nat.le_refl _)) hown2.reads (by omega) (Nat.le_refl _)).mono ?_
  rintro e w3 ⟨A3, c3, rfl, hown3, hb3⟩
  have hown2' := (hown2.below hb3 (.inl (Nat.le_refl _))).lo_ (lo' := w.heap.size) (by simp)
  go_wp2
  go_ret2
  exact ⟨_, _, _, _, _, rfl, hown2', hown3, ⟨hb4.size, hb3.size⟩, hb4.trans (hb3.mono hb4.size)⟩

set_option maxHeartbeats 400000 in
theorem spec_SplitBits_any {key : Int} {A : Option Addr} {n c : Nat} {xs : List Int} {w : World} (r0 : RI w A n xs) (b0 : n ≤ 2097152) :
    Calls Try.prog 45 #[.int .i64 key, .slice A n c] w (RetO2 w (splitBF key n xs)) := by
  go_enter Try.func45, Try.ntmps45
  go_wp2_with fail
  refine (shKey_any key _).mono ?_
  rintro e w1 ⟨rfl, rfl⟩
  cases h1 : inB 0 1000000000 key with
  | false =>
    go_wp2
    go_ret3
    exact RetO2.none_ (Below.refl _ _) (by simp [splitBF, h1]) rfl
  | true =>
    have hk := inB_iff.1 h1
    have H1 := Lib.hid h1; clear h1
    go_wp2_with fail
    refine (spec_AreBits_any A n c xs _ r0 b0).mono ?_
    rintro e w1 ⟨rfl, rfl⟩
    cases h2 : bitsB n 64 xs with
    | false =>
      go_wp2
      go_ret3
      exact RetO2.none_ (Below.refl _ _) (by simp [splitBF, h2]) rfl
    | true =>
      have hn := (bitsB_bd h2).1
      have hR : Hid (splitBF key n xs = some (bitsL [key, 11] n, tab n fun i => bxor (gi xs i) (gi (bitsL [key, 11] n) i))) := Lib.hid (by unfold splitBF; rw [H1.out, h2]; rfl)
      clear h2 H1
      go_wp2_with fail
      refine (shSplit_any r0 hn hk).mono ?_
      rintro e w3 ⟨A2, c2, A3, c3, mid, rfl, hown2, hown3, ⟨hm1, hm2⟩, hb3⟩
      go_wp2
      go_ret3
      exact RetO2.some_ hb3 hR.out (bitsL_len _ _) (tab_len _ _) rfl hown2 hown3 hm1 hm2

set_option maxRecDepth 100000 in
set_option maxHeartbeats 800000 in
theorem RefreshBits_any {key : Int} {A B : Option Addr} {n c m d : Nat} {xs ys : List Int} {w : World} (r0 : RI w A n xs) (b0 : n ≤ 2097152) (r1 : RI w B m ys) (b1 : m ≤ 2097152) :
    Calls Try.prog 42 #[.int .i64 key, .slice A n c, .slice B m d] w (RetO2 w (refreshF key n m xs ys)) := by
  go_enter Try.func42, Try.ntmps42
  go_wp2_with fail
  refine (isKey_any key _).mono ?_
  rintro e w1 ⟨rfl, rfl⟩
  cases h1 : inB 0 1000000000 key with
  | false =>
    go_wp2
    go_ret3
    exact RetO2.none_ (Below.refl _ _) (by simp [refreshF, h1]) rfl
  | true =>
    have hk := inB_iff.1 h1
    have H1 := Lib.hid h1; clear h1
    go_wp2_with fail
    refine (AreBits_any A n c xs _ r0 b0).mono ?_
    rintro e w1 ⟨rfl, hb1⟩
    cases h2 : bitsB n 64 xs with
    | false =>
      go_wp2
      go_ret3
      exact RetO2.none_ hb1 (by simp [refreshF, h2]) rfl
    | true =>
      have hn := (bitsB_bd h2).1
      have H2 := Lib.hid h2; clear h2
      go_wp2_with fail
      refine (AreBits_any B m d ys _ (r1.below hb1 (Nat.le_refl _)) b1).mono ?_
      rintro e w2 ⟨rfl, hb2⟩
      have hb1 := hb1.trans (hb2.mono hb1.size)
      clear hb2
      cases h3 : bitsB m 64 ys with
      | false =>
        go_wp2
        go_ret3
        exact RetO2.none_ hb1 (by simp [refreshF, h3]) rfl
      | true =>
        have H3 := Lib.hid h3; clear h3
        by_cases hnm : n = m
        · subst hnm
          have hne : ((n : Int) != n) = false := by simp
          have hR : Hid (refreshF key n n xs ys = some (tab n (fun i => bxor (gi xs i) (gi (bitsL [key, 12] n) i)), tab n fun i => bxor (gi ys i) (gi (bitsL [key, 12] n) i))) := Lib.hid (by unfold refreshF; rw [H1.out, H2.out, H3.out]; simp)
          clear H1 H2 H3
          have hb2' := hb1.alloc hb1.size (.cells #[.int .i64 key, .int .i64 12] 3)
          have hz1 := hb1.size
          go_wp2_with fail
          refine (bitsFrom_any _ 2 _ n [key, 12] _ (RI_new2 _ _ _ _) (by omega) (words_key hk 12 (by omega)) (by omega)).mono ?_
          rintro e w3 ⟨A3, c3, rfl, hown3, hb3⟩
          have hb4 := hb2'.trans (hb3.mono (by simp; omega))
          clear hb2' hb3
          go_wp2_with fail
          refine (xored_any A A3 n c n c3 xs _ _ (r0.below hb4 (Nat.le_refl _)) hown3.reads b0 (Nat.le_refl _)).mono ?_
          rintro e w4 ⟨A4, c4, rfl, hown4, hb5⟩
          have hb6 := hb4.trans (hb5.mono hb4.size)
          have hrd := hown3.reads.below hb5 (Nat.le_refl _)
          have hz4 := hb4.size
          have hz5 := hb5.size
          clear hown3 hb4
          go_wp2_with fail
          refine (xored_any B A3 n d n c3 ys _ _ (r1.below hb6 (Nat.le_refl _)) hrd b0 (Nat.le_refl _)).mono ?_
          rintro e w6 ⟨A6, c6, rfl, hown6, hb7⟩
          have hown4' := (hown4.below hb7 (.inl (Nat.le_refl _))).lo_ (lo' := w.heap.size) (by omega)
          go_wp2
          go_ret3
          exact RetO2.some_ (hb6.trans (hb7.mono hb6.size)) hR.out (tab_len _ _) (tab_len _ _) rfl hown4' hown6 hb6.size hb7.size
        · have hne : ((n : Int) != m) = true := by simp; omega
          go_wp2
          go_ret3
          exact RetO2.none_ hb1 (by simp [refreshF, hnm]) rfl

set_option maxRecDepth 100000 in
set_option maxHeartbeats 800000 in
theorem spec_RefreshBits_any {key : Int} {A B : Option Addr} {n c m d : Nat} {xs ys : List Int} {w : World} (r0 : RI w A n xs) (b0 : n ≤ 2097152) (r1 : RI w B m ys) (b1 : m ≤ 2097152) :
    Calls Try.prog 41 #[.int .i64 key, .slice A n c, .slice B m d] w (RetO2 w (refreshF key n m xs ys)) := by
  have hb1 := Below.refl w.heap.size w
  go_enter Try.func41, Try.ntmps41
  go_wp2_with fail
  refine (shKey_any key _).mono ?_
  rintro e w1 ⟨rfl, rfl⟩
  cases h1 : inB 0 1000000000 key with
  | false =>
    go_wp2
    go_ret3
    exact RetO2.none_ (Below.refl _ _) (by simp [refreshF, h1]) rfl
  | true =>
    have hk := inB_iff.1 h1
    have H1 := Lib.hid h1; clear h1
    go_wp2_with fail
    refine (spec_AreBits_any A n c xs _ r0 b0).mono ?_
    rintro e w1 ⟨rfl, rfl⟩
    cases h2 : bitsB n 64 xs with
    | false =>
      go_wp2
      go_ret3
      exact RetO2.none_ hb1 (by simp [refreshF, h2]) rfl
    | true =>
      have hn := (bitsB_bd h2).1
      have H2 := Lib.hid h2; clear h2
      go_wp2_with fail
      refine (spec_AreBits_any B m d ys _ r1 b1).mono ?_
      rintro e w1 ⟨rfl, rfl⟩
      cases h3 : bitsB m 64 ys with
      | false =>
        go_wp2
        go_ret3
        exact RetO2.none_ hb1 (by simp [refreshF, h3]) rfl
      | true =>
        have H3 := Lib.hid h3; clear h3
        by_cases hnm : n = m
        · subst hnm
          have hne : ((n : Int) != n) = false := by simp
          have hR : Hid (refreshF key n n xs ys = some (tab n (fun i => bxor (gi xs i) (gi (bitsL [key, 12] n) i)), tab n fun i => bxor (gi ys i) (gi (bitsL [key, 12] n) i))) := Lib.hid (by unfold refreshF; rw [H1.out, H2.out, H3.out]; simp)
          clear H1 H2 H3
          have hb2' := hb1.alloc hb1.size (.cells #[.int .i64 key, .int .i64 12] 3)
          go_wp2_with fail
          refine (dgBits_any _ 2 _ n [key, 12] _ (RI_new2 _ _ _ _) (by omega) (words_key hk 12 (by omega)) (by omega)).mono ?_
          rintro e w3 ⟨A3, c3, rfl, hown3, hb3⟩
          have hb4 := hb2'.trans (hb3.mono (by simp))
          clear hb2' hb3
          go_wp2_with fail
          refine (btXor_any A A3 n c n c3 xs _ _ (r0.below hb4 (Nat.le_refl _)) hown3.reads b0 (Nat.le_refl _)).mono ?_
          rintro e w4 ⟨A4, c4, rfl, hown4, hb5⟩
          have hb6 := hb4.trans (hb5.mono hb4.size)
          have hrd := hown3.reads.below hb5 (Nat.le_refl _)
          have hz4 := hb4.size
          have hz5 := hb5.size
          clear hown3 hb4
          go_wp2_with fail
          refine (btXor_any B A3 n d n c3 ys _ _ (r1.below hb6 (Nat.le_refl _)) hrd b0 (Nat.le_refl _)).mono ?_
          rintro e w6 ⟨A6, c6, rfl, hown6, hb7⟩
          have hown4' := (hown4.below hb7 (.inl (Nat.le_refl _))).lo_ (lo' := w.heap.size) (by omega)
          go_wp2
          go_ret3
          exact RetO2.some_ (hb6.trans (hb7.mono hb6.size)) hR.out (tab_len _ _) (tab_len _ _) rfl hown4' hown6 hb6.size hb7.size
        · have hne : ((n : Int) != m) = true := by simp; omega
          go_wp2
          go_ret3
          exact RetO2.none_ hb1 (by simp [refreshF, hnm]) rfl

end Go.Proofs.Ythmdgcbhoijmgaa
