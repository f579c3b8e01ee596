/- Contracts of ShiftShare and AddHolders. Lengths up to 2^21. -/
import Derived.Test.YthmdgcbhoijmgaaSum2
namespace Go.Proofs.Ythmdgcbhoijmgaa
open Go.RowKit
set_option linter.unusedVariables false
set_option linter.unusedSimpArgs false

theorem ShiftShare_1_any (a b : Addr) (x y k q : Int) (w : World) (hc : w.cell? a = some (.int .i64 k)) (hd : w.cell? b = some (.int .i64 q)) (hk : 0 ≤ k ∧ k ≤ 251) (hq : 0 ≤ q ∧ q ≤ 1) (hx : 0 ≤ x ∧ x ≤ 251) :
    Calls Try.prog 62 #[.int .i64 x, .int .i64 y, .pointer (some a), .pointer (some b)] w fun e w' => e = .returned (.int .i64 (x + (1 - q) * k)) ∧ w = w' := by
  rcases (show q = 0 ∨ q = 1 by omega) with rfl | rfl
  · obtain ⟨hk0, hk1⟩ := hk
    obtain ⟨hx0, hx1⟩ := hx
    clear hq
    go_enter Try.func62, Try.ntmps62
    go_wp2
    go_ret
    exact ⟨ret_int (by omega), rfl⟩
  · obtain ⟨hk0, hk1⟩ := hk
    obtain ⟨hx0, hx1⟩ := hx
    clear hq
    go_enter Try.func62, Try.ntmps62
    go_wp2
    go_ret
    exact ⟨ret_int (by omega), rfl⟩

set_option maxHeartbeats 400000 in
theorem ShiftShare_any {p q k : Int} {A : Option Addr} {n c : Nat} {xs : List Int} {w : World} (r0 : RI w A n xs) (b0 : n ≤ 2097152) :
    Calls Try.prog 36 #[.int .i64 p, .int .i64 q, .slice A n c, .int .i64 k] w (RetO w (shiftF p q n xs k)) := by
  have hB : Below w.heap.size w ((w.alloc (.cells #[.int .i64 q] 3)).alloc (.cells #[.int .i64 k] 3)) := ((Below.refl _ _).alloc (Nat.le_refl _) _).alloc (by simp) _
  go_enter Try.func36, Try.ntmps36
  go_wp2_with fail
  refine (isElement_any p k _).mono ?_
  rintro e w1 ⟨rfl, rfl⟩
  cases h1 : elemB p k with
  | false =>
    go_wp2
    go_ret2
    exact RetO.none_ hB (by unfold shiftF; cases h2 : sharesB p n xs with | false => rfl | true => rw [Bool.true_and]; simp only [elemB, Bool.and_eq_false_iff] at h1; have := sharesB_bd h2; simp only [sharesB, elemsB, Bool.and_eq_true] at h2; rw [h2.1.1] at h1; simp at h1; rw [h1]; rfl) rfl
  | true =>
    have hk := elemB_bd h1
    have hkb : inB 0 (p - 1) k = true := by simp only [elemB, Bool.and_eq_true] at h1; exact h1.2
    clear h1
    go_wp2_with fail
    refine (isBit_any q _).mono ?_
    rintro e w1 ⟨rfl, rfl⟩
    cases h2 : inB 0 1 q with
    | false =>
      go_wp2
      go_ret2
      exact RetO.none_ hB (by simp [shiftF, h2]) rfl
    | true =>
      have hq := inB_iff.1 h2
      have hf : sharesB p n xs = true → sharesB p n xs = true → ∀ x ∈ xs, ∀ y ∈ xs, ∀ w1, Below ((w.alloc (.cells #[.int .i64 q] 3)).alloc (.cells #[.int .i64 k] 3)).heap.size ((w.alloc (.cells #[.int .i64 q] 3)).alloc (.cells #[.int .i64 k] 3)) w1 → (-1152921504606846976 ≤ x + (1 - q) * k ∧ x + (1 - q) * k ≤ 1152921504606846976) ∧
          Calls Try.prog 62 (#[.int .i64 x, .int .i64 y] ++ #[.pointer (some ⟨w.heap.size + 1, 0, none⟩), .pointer (some ⟨w.heap.size, 0, none⟩)]) w1 fun e w' => e = .returned (.int .i64 (x + (1 - q) * k)) ∧ w1 = w' := by
        intro h2 _ x hx y _ w1 hb1
        have hx' := (sharesB_bd h2).2.2.2 x hx
        refine ⟨?_, ShiftShare_1_any _ _ x y k q w1 ?_ ?_ (by omega) hq (by omega)⟩
        · rcases (show q = 0 ∨ q = 1 by omega) with rfl | rfl <;> omega
        · rw [hb1.cell (p := ⟨w.heap.size + 1, 0, none⟩) (by simp)]
          rw [cell_of_row _ (w.heap.size + 1) 0 _ _ _ (by have := heap_alloc_new (w.alloc (.cells #[.int .i64 q] 3)) (.cells #[.int .i64 k] 3); simpa using this)]
          rfl
        · rw [hb1.cell (p := ⟨w.heap.size, 0, none⟩) (by simp; omega)]
          rw [cell_of_row _ w.heap.size 0 _ _ _ ((Below.heap_alloc (w.alloc (.cells #[.int .i64 q] 3)) (.cells #[.int .i64 k] 3) w.heap.size (by simp)).trans (heap_alloc_new w _))]
          rfl
      have hf := Lib.hid hf
      have hR : Hid (shF p n n xs xs (fun i => gi xs i + (1 - q) * k) = shiftF p q n xs k) := Lib.hid (by unfold shF shiftF; rw [hkb, h2]; cases sharesB p n xs <;> simp)
      clear h2
      go_wp2_with fail
      refine (combined_sh 62 Try.call62 #[.pointer (some ⟨w.heap.size + 1, 0, none⟩), .pointer (some ⟨w.heap.size, 0, none⟩)] (fun x y => x + (1 - q) * k) ((r0.alloc _).alloc _) b0 ((r0.alloc _).alloc _) b0 hf.out).mono ?_
      rintro e w1 ⟨A1, c1, rfl, hown1, hb1⟩
      rw [hR.out] at *
      go_wp2
      go_ret2
      exact ⟨_, _, rfl, hown1.lo_ (by simp; omega), hB.trans (hb1.mono (by simp; omega))⟩

set_option maxRecDepth 100000 in
set_option maxHeartbeats 1000000 in
theorem spec_ShiftShare_any {p q k0 : Int} {A : Option Addr} {n c : Nat} {xs : List Int} {w : World} (r0 : RI w A n xs) (b0 : n ≤ 2097152) :
    Calls Try.prog 35 #[.int .i64 p, .int .i64 q, .slice A n c, .int .i64 k0] w (RetO w (shiftF p q n xs k0)) := by
  have hl := r0.len
  go_enter Try.func35, Try.ntmps35
  go_wp2_with fail
  refine (shValues_any p A n c xs _ r0 b0).mono ?_
  rintro e w1 ⟨rfl, hb1⟩
  cases h1 : sharesB p n xs with
  | false =>
    go_wp2
    go_ret2
    exact RetO.none_ hb1 (by simp [shiftF, h1]) rfl
  | true =>
    obtain ⟨hp1, hp2, hn40, hx⟩ := sharesB_bd h1
    have H1 := Lib.hid h1; clear h1
    go_wp2_with fail
    refine (l1In_any k0 0 (p - 1) _ rfl _).mono ?_
    rintro e w2 ⟨rfl, rfl⟩
    cases h2 : inB 0 (p - 1) k0 with
    | false =>
      go_wp2
      go_ret2
      exact RetO.none_ hb1 (by simp [shiftF, h2]) rfl
    | true =>
      obtain ⟨hk0, hk1⟩ := inB_iff.1 h2
      have H2 := Lib.hid h2; clear h2
      go_wp2_with fail
      refine (l1In_any q 0 1 _ rfl _).mono ?_
      rintro e w2 ⟨rfl, rfl⟩
      cases h3 : inB 0 1 q with
      | false =>
        go_wp2
        go_ret2
        exact RetO.none_ hb1 (by simp [shiftF, h3]) rfl
      | true =>
        obtain ⟨hq0, hq1⟩ := inB_iff.1 h3
        have hR : Hid (shiftF p q n xs k0 = some (tab n fun i => (gi xs i + (1 - q) * k0) % p)) := Lib.hid (by unfold shiftF; rw [H1.out, H2.out, h3]; rfl)
        have hm : 0 ≤ (1 - q) * k0 ∧ (1 - q) * k0 ≤ 251 := by rcases (show q = 0 ∨ q = 1 by omega) with rfl | rfl <;> omega
        obtain ⟨hm0, hm1⟩ := hm
        have hpne : ¬ p = 0 := by omega
        clear h3
        go_wp2
        go_loopw [10, 31] (fun v i wr => ∃ (k : Nat) (A' : Option Addr) (c' : Nat), k ≤ n ∧ i = .int .i64 k ∧ v = .slice A' k c' ∧ Own wr w.heap.size wr.heap.size (.slice A' k c') k (tab k fun i => (gi xs i + (1 - q) * k0) % p) ∧ Below w.heap.size w wr) (fun _ i _ => n - (intOf i).toNat)
        case atStart => exact ⟨0, _, _, Nat.zero_le _, rfl, rfl, Own.none_ _ _ _, hb1⟩
        case round =>
          clear hb1
          obtain ⟨k, A', c', hk, rfl, rfl, hown, hbw⟩ := hrel
          by_cases hlt : k < n
          · obtain ⟨b, o, rfl, hbB, c1⟩ := r0.at_ hlt
            have hsn : Hid (tab (k + 1) (fun i => (gi xs i + (1 - q) * k0) % p) = tab k (fun i => (gi xs i + (1 - q) * k0) % p) ++ [(gi xs k + (1 - q) * k0) % p]) := Lib.hid (tab_snoc k _)
            have hz := hbw.size
            have e1 := (hbw.cell (p := ⟨b, o + k, none⟩) hbB).trans c1
            have hX := hx _ (gi_mem (xs := xs) (j := k) (by omega))
            clear r0 c1 hx
            generalize gi xs k = X at *
            obtain ⟨hX0, hX1⟩ := hX
            have hb4 := hbw.alloc hz (.cells #[.int .i64 ((X + (1 - q) * k0) % p)] 3)
            have hown4 := hown.alloc (.cells #[.int .i64 ((X + (1 - q) * k0) % p)] 3)
            clear hbw hown
            go_wp2_with (at_builtin; refine wpList_app _ rfl _ _ rfl rfl hown4 rfl (RI_new1 _ _ _) (by omega) (by simp; omega) ?_; intro A5 c5 w5 hown5 hg5 hat5)
            have hb5 := below_app hb4 hown4 hg5 (by simp; omega) (Nat.le_refl _)
            rw [← hsn.out] at hown5
            clear hb4 hown4 hg5 hat5
            go_wp2
            go_roundw
            case rel => exact ⟨k + 1, _, _, by omega, by go_num, rfl, hown5, hb5⟩
            case measure => simp [intOf]; omega
          · obtain rfl : k = n := by omega
            go_wp2
            go_ret2
            exact RetO.some_ hbw hR.out (tab_len _ _) rfl hown

set_option maxHeartbeats 400000 in
theorem AddHolders_any {p : Int} {A B : Option Addr} {n c m d : Nat} {xs ys : List Int} {w : World} (r0 : RI w A n xs) (b0 : n ≤ 2097152) (r1 : RI w B m ys) (b1 : m ≤ 2097152) :
    Calls Try.prog 34 #[.int .i64 p, .slice A n c, .slice B m d] w (RetO w (addHF p n m xs ys)) := by
  by_cases hn : 10 < n
  · have hn' : (10 : Int) < n := by omega
    have hR : Hid (addHF p n m xs ys = none) := Lib.hid (by simp [addHF]; intros; omega)
    go_enter Try.func34, Try.ntmps34
    go_wp2
    go_ret2
    exact RetO.none_ (Below.refl _ _) hR.out rfl
  · have hn' : (n : Int) ≤ 10 := by omega
    have hR : Hid (shF p n m xs ys (fun i => gi xs i + gi ys i) = addHF p n m xs ys) := Lib.hid (by
      by_cases hnm : n = m
      · subst hnm
        have q1 : ∀ zs, sharesB p n zs = elemsB p zs := fun zs => by unfold sharesB; rw [decide_eq_true (show n ≤ 40 by omega), Bool.and_true]
        unfold shF addHF
        simp only [q1, decide_eq_true (show n ≤ 10 by omega), Bool.and_true]
      · simp [shF, addHF, hnm])
    go_enter Try.func34, Try.ntmps34
    go_wp2_with fail
    refine (AddShares_any r0 b0 r1 b1).mono ?_
    rintro e w1 ⟨A1, c1, rfl, hown1, hb1⟩
    rw [hR.out] at *
    go_wp2
    go_ret2
    exact ⟨_, _, rfl, hown1, hb1⟩

set_option maxRecDepth 100000 in
set_option maxHeartbeats 1000000 in
theorem spec_AddHolders_any {p : Int} {A B : Option Addr} {n c m d : Nat} {xs ys : List Int} {w : World} (r0 : RI w A n xs) (b0 : n ≤ 2097152) (r1 : RI w B m ys) (b1 : m ≤ 2097152) :
    Calls Try.prog 33 #[.int .i64 p, .slice A n c, .slice B m d] w (RetO w (addHF p n m xs ys)) := by
  have hl := r0.len
  have hlb := r1.len
  go_enter Try.func33, Try.ntmps33
  go_wp2_with fail
  refine (fpIn_any p A n c xs _ r0 b0).mono ?_
  rintro e w1 ⟨rfl, rfl⟩
  cases h1 : elemsB p xs with
  | false =>
    go_wp2
    go_ret2
    exact RetO.none_ (Below.refl _ _) (by simp [addHF, h1]) rfl
  | true =>
    obtain ⟨hp1, hp2, hx⟩ := elemsB_bd h1
    have H1 := Lib.hid h1; clear h1
    go_wp2_with fail
    refine (fpIn_any p B m d ys _ r1 b1).mono ?_
    rintro e w1 ⟨rfl, rfl⟩
    cases h2 : elemsB p ys with
    | false =>
      go_wp2
      go_ret2
      exact RetO.none_ (Below.refl _ _) (by simp [addHF, h2]) rfl
    | true =>
      obtain ⟨_, _, hy⟩ := elemsB_bd h2
      have H2 := Lib.hid h2; clear h2
      by_cases hnm : n = m
      · subst hnm
        have hne : ((n : Int) != n) = false := by simp
        by_cases hn : 10 < n
        · have hn' : (10 : Int) < n := by omega
          have hR : Hid (addHF p n n xs ys = none) := Lib.hid (by simp [addHF]; intros; omega)
          go_wp2
          go_ret2
          exact RetO.none_ (Below.refl _ _) hR.out rfl
        · have hn' : (n : Int) ≤ 10 := by omega
          have hR : Hid (addHF p n n xs ys = some (tab n fun i => (gi xs i + gi ys i) % p)) := Lib.hid (by simp [addHF, H1.out, H2.out]; omega)
          have hpne : ¬ p = 0 := by omega
          go_wp2
          go_loopw [8, 35] (fun v i wr => ∃ (k : Nat) (A' : Option Addr) (c' : Nat), k ≤ n ∧ i = .int .i64 k ∧ v = .slice A' k c' ∧ Own wr w.heap.size wr.heap.size (.slice A' k c') k (tab k fun i => (gi xs i + gi ys i) % p) ∧ Below w.heap.size w wr) (fun _ i _ => n - (intOf i).toNat)
          case atStart => exact ⟨0, _, _, Nat.zero_le _, rfl, rfl, Own.none_ _ _ _, Below.refl _ _⟩
          case round =>
            obtain ⟨k, A', c', hk, rfl, rfl, hown, hbw⟩ := hrel
            by_cases hlt : k < n
            · obtain ⟨b, o, rfl, hbB, c1⟩ := r0.at_ hlt
              obtain ⟨b', o', rfl, hbB', c2⟩ := r1.at_ hlt
              have hsn : Hid (tab (k + 1) (fun i => (gi xs i + gi ys i) % p) = tab k (fun i => (gi xs i + gi ys i) % p) ++ [(gi xs k + gi ys k) % p]) := Lib.hid (tab_snoc k _)
              have hz := hbw.size
              have e1 := (hbw.cell (p := ⟨b, o + k, none⟩) hbB).trans c1
              have e2 := (hbw.cell (p := ⟨b', o' + k, none⟩) hbB').trans c2
              have hX := hx _ (gi_mem (xs := xs) (j := k) (by omega))
              have hY := hy _ (gi_mem (xs := ys) (j := k) (by omega))
              clear r0 r1 c1 c2 hx hy
              generalize gi xs k = X at *
              generalize gi ys k = Y at *
              obtain ⟨hX0, hX1⟩ := hX
              obtain ⟨hY0, hY1⟩ := hY
              have hb4 := hbw.alloc hz (.cells #[.int .i64 ((X + Y) % p)] 3)
              have hown4 := hown.alloc (.cells #[.int .i64 ((X + Y) % p)] 3)
              clear hbw hown
              go_wp2_with (at_builtin; refine wpList_app _ rfl _ _ rfl rfl hown4 rfl (RI_new1 _ _ _) (by omega) (by simp; omega) ?_; intro A5 c5 w5 hown5 hg5 hat5)
              have hb5 := below_app hb4 hown4 hg5 (by simp; omega) (Nat.le_refl _)
              rw [← hsn.out] at hown5
              clear hb4 hown4 hg5 hat5
              go_wp2
              go_roundw
              case rel => exact ⟨k + 1, _, _, by omega, by go_num, rfl, hown5, hb5⟩
              case measure => simp [intOf]; omega
            · obtain rfl : k = n := by omega
              go_wp2
              go_ret2
              exact RetO.some_ hbw hR.out (tab_len _ _) rfl hown
      · have hR : Hid (addHF p n m xs ys = none) := Lib.hid (by simp [addHF, hnm])
        have hne : ((n : Int) != m) = true := by simp; omega
        go_wp2
        go_ret2
        exact RetO.none_ (Below.refl _ _) hR.out rfl

end Go.Proofs.Ythmdgcbhoijmgaa
