/- Contracts of the exclusive-or of lists of bits. Lengths up to 2^21. -/
import Derived.Test.YthmdgcbhoijmgaaDigest
import Derived.Test.YthmdgcbhoijmgaaTests
import Derived.Test.YthmdgcbhoijmgaaTab
import Derived.ChangeAlike
namespace Go.Proofs.Ythmdgcbhoijmgaa
open Go.RowKit
set_option linter.unusedVariables false
set_option linter.unusedSimpArgs false

/-- The bits in which two lists differ; none if they are not bits of one length. -/
def xorF (n m : Nat) (xs ys : List Int) : Option (List Int) := if bitsB n 64 xs && bitsB m 64 ys && decide (n = m) then some (tab n fun i => bxor (gi xs i) (gi ys i)) else none
theorem bitsB_bd {n most : Nat} {xs : List Int} (h : bitsB n most xs = true) : n ≤ most ∧ ∀ x ∈ xs, 0 ≤ x ∧ x ≤ 1 := by
  simp only [bitsB, Bool.and_eq_true, decide_eq_true_eq] at h
  exact ⟨h.1, allB_iff.1 h.2⟩
theorem bits_nw {X Y : Int} (hx : 0 ≤ X ∧ X ≤ 1) (hy : 0 ≤ Y ∧ Y ≤ 1) : bits .xor .i64 X Y = bxor X Y := rfl

set_option maxHeartbeats 400000 in
theorem btXor_any (A B : Option Addr) (n c m d : Nat) (xs ys : List Int) (w : World) (ha : RI w A n xs) (hb : RI w B m ys) (hn : n ≤ 2097152) (hnm : n ≤ m) :
    Calls Try.prog 67 #[.slice A n c, .slice B m d] w fun e w' => ∃ A' c', e = .returned (.slice A' n c') ∧ Own w' w.heap.size w'.heap.size (.slice A' n c') n (tab n fun i => bxor (gi xs i) (gi ys i)) ∧ Below w.heap.size w w' := by
  go_enter Try.func67, Try.ntmps67
  go_wp2
  go_loopw [5, 10] (fun v i wr => ∃ (k : Nat) (A' : Option Addr) (c' : Nat), k ≤ n ∧ i = .int .i64 k ∧ v = .slice A' k c' ∧ Own wr w.heap.size wr.heap.size (.slice A' k c') k (tab k fun i => bxor (gi xs i) (gi ys i)) ∧ Below w.heap.size w wr) (fun _ i _ => n - (intOf i).toNat)
  case atStart => exact ⟨0, _, _, Nat.zero_le _, rfl, rfl, Own.none_ _ _ _, Below.refl _ _⟩
  case round =>
    obtain ⟨k, A', c', hk, rfl, rfl, hown, hbw⟩ := hrel
    by_cases hlt : k < n
    · obtain ⟨b, o, rfl, hbB, c1⟩ := ha.at_ hlt
      obtain ⟨b', o', rfl, hbB', c2⟩ := hb.at_ (k := k) (by omega)
      have hsn : Hid (tab (k + 1) (fun i => bxor (gi xs i) (gi ys i)) = tab k (fun i => bxor (gi xs i) (gi ys i)) ++ [bits .xor .i64 (gi xs k) (gi ys k)]) := Lib.hid (tab_snoc k _)
      have hz := hbw.size
      have e1 := (hbw.cell (p := ⟨b, o + k, none⟩) hbB).trans c1
      have e2 := (hbw.cell (p := ⟨b', o' + k, none⟩) hbB').trans c2
      have hlt2 : (k : Int) < m := by omega
      clear ha hb c1 c2
      generalize gi xs k = X at *
      generalize gi ys k = Y at *
      have hb4 := hbw.alloc hz (.cells #[.int .i64 (bits .xor .i64 X Y)] 3)
      have hown4 := hown.alloc (.cells #[.int .i64 (bits .xor .i64 X Y)] 3)
      clear hbw hown
      go_wp2_with (at_builtin; refine wpList_app _ rfl _ _ rfl rfl hown4 rfl (RI_new1 _ _ _) (by omega) (by simp; omega) ?_; intro A5 c5 w5 hown5 hg5 hat5)
      have hb5 := below_app hb4 hown4 hg5 (by simp; omega) (Nat.le_refl _)
      rw [← hsn.out] at hown5
      clear hb4 hown4 hg5 hat5
      go_wp2
      go_roundw
      case rel => exact ⟨k + 1, _, _, by omega, by go_num, rfl, hown5, hb5⟩
      case measure => simp [intOf]; omega
    · obtain rfl : k = n := by omega
      go_wp2
      go_ret
      exact ⟨_, _, rfl, hown, hbw⟩

set_option maxRecDepth 100000 in
set_option maxHeartbeats 1000000 in
theorem XorBits_any (A B : Option Addr) (n c m d : Nat) (xs ys : List Int) (w : World) (ha : RI w A n xs) (hb : RI w B m ys) (hn : n ≤ 2097152) (hm : m ≤ 2097152) :
    Calls Try.prog 50 #[.slice A n c, .slice B m d] w (RetO w (xorF n m xs ys)) := by
  have hl := ha.len
  have hlb := hb.len
  cases h1 : bitsB n 64 xs with
  | false =>
    have hr : Hid (xorF n m xs ys = none) := Lib.hid (by simp [xorF, h1])
    have H1 := Lib.hid h1; clear h1
    go_enter Try.func50, Try.ntmps50
    go_wp2_with fail
    refine (AreBits_any A n c xs _ ha hn).mono ?_
    rintro e w1 ⟨rfl, hb1⟩
    rw [H1.out]
    go_wp2
    go_ret2
    exact RetO.none_ hb1 hr.out rfl
  | true =>
    cases h2 : bitsB m 64 ys with
    | false =>
      have hr : Hid (xorF n m xs ys = none) := Lib.hid (by simp [xorF, h2])
      have H1 := Lib.hid h1; have H2 := Lib.hid h2; clear h1 h2
      go_enter Try.func50, Try.ntmps50
      go_wp2_with fail
      refine (AreBits_any A n c xs _ ha hn).mono ?_
      rintro e w1 ⟨rfl, hb1⟩
      rw [H1.out]
      go_wp2_with fail
      refine (AreBits_any B m d ys _ (hb.below hb1 (Nat.le_refl _)) hm).mono ?_
      rintro e w2 ⟨rfl, hb2⟩
      rw [H2.out]
      go_wp2
      go_ret2
      exact RetO.none_ (hb1.trans (hb2.mono hb1.size)) hr.out rfl
    | true =>
      by_cases hnm : n = m
      · subst hnm
        have hr : Hid (xorF n n xs ys = some (tab n fun i => bxor (gi xs i) (gi ys i))) := Lib.hid (by simp [xorF, h1, h2])
        have H1 := Lib.hid h1; have H2 := Lib.hid h2; clear h1 h2
        have hne : ((n : Int) != n) = false := by simp
        go_enter Try.func50, Try.ntmps50
        go_wp2_with fail
        refine (AreBits_any A n c xs _ ha hn).mono ?_
        rintro e w1 ⟨rfl, hb1⟩
        rw [H1.out]
        go_wp2_with fail
        refine (AreBits_any B n d ys _ (hb.below hb1 (Nat.le_refl _)) hm).mono ?_
        rintro e w2 ⟨rfl, hb2⟩
        rw [H2.out]
        have hb3 := hb1.trans (hb2.mono hb1.size)
        go_wp2_with fail
        refine (Clone_any A n c xs _ (ha.below hb3 (Nat.le_refl _)) hn).mono ?_
        rintro e w3 ⟨A3, c3, rfl, hown3, hb33⟩
        have hb4 := hb3.trans (hb33.mono hb3.size)
        have hown4 := hown3.lo_ hb3.size
        have hgt := hown3.some_
        clear hb1 hb2 hb3 hb33 hown3
        go_wp2
        go_loopw [27] (fun i wr => ∃ (k : Nat), k ≤ n ∧ i = .int .i64 k ∧ Own wr w.heap.size w3.heap.size (.slice A3 n c3) n (tab k (fun i => bxor (gi xs i) (gi ys i)) ++ xs.drop k) ∧ Below w.heap.size w wr ∧ w3.heap.size ≤ wr.heap.size) (fun i _ => n - (intOf i).toNat)
        case atStart => exact ⟨0, Nat.zero_le _, rfl, by simpa [tab_zero] using hown4, hb4, Nat.le_refl _⟩
        case round =>
          clear hown4 hb4
          obtain ⟨k, hk, rfl, hown, hbw, hz⟩ := hrel
          by_cases hlt : k < n
          · obtain ⟨g, rfl, hg1, _, hg2⟩ := hown.some_ (by omega)
            obtain ⟨hoc, hof⟩ := hown.cellAt hlt
            rw [gi_tab_drop hl (Nat.le_refl _) hlt] at hoc
            obtain ⟨b', o', rfl, hbB', c2⟩ := hb.at_ hlt
            have e2 := (hbw.cell (p := ⟨b', o' + k, none⟩) hbB').trans c2
            have hne2 : ¬ b' = g := by omega
            have hk0 : (0 : Int) ≤ (k : Int) := by omega
            have hk1 : (k : Int) < n := by omega
            have hst := (hown.drewN 1).stored k (bits .xor .i64 (gi xs k) (gi ys k))
            obtain ⟨hs1, hs2⟩ := hst
            have hs3 : Hid ((tab k (fun i => bxor (gi xs i) (gi ys i)) ++ xs.drop k).set k (bits .xor .i64 (gi xs k) (gi ys k)) = tab (k + 1) (fun i => bxor (gi xs i) (gi ys i)) ++ xs.drop (k + 1)) := Lib.hid (tab_set hl hlt)
            rw [hs3.out] at hs1
            have hb5 := (below_drewN hbw 1).grown hs2 (by simpa using hbw.size) (fun q hq => by injection hq with hq; omega)
            clear ha hb c2 hgt hs2 hbw hown hl hlb
            generalize gi xs k = X at *
            generalize gi ys k = Y at *
            go_wp2
            go_region
            go_wp2
            go_roundw
            case rel => exact ⟨k + 1, by omega, by go_num, hs1, hb5, by simpa using hz⟩
            case measure => simp [intOf]; omega
          · obtain rfl : k = n := by omega
            rw [List.drop_of_length_le (by omega), List.append_nil] at hown
            go_wp2
            go_ret2
            exact RetO.some_ hbw hr.out (tab_len _ _) rfl (hown.hi_ hz)
      · have hr : Hid (xorF n m xs ys = none) := Lib.hid (by simp [xorF, hnm])
        have H1 := Lib.hid h1; have H2 := Lib.hid h2; clear h1 h2
        have hne : ((n : Int) != m) = true := by simp; omega
        go_enter Try.func50, Try.ntmps50
        go_wp2_with fail
        refine (AreBits_any A n c xs _ ha hn).mono ?_
        rintro e w1 ⟨rfl, hb1⟩
        rw [H1.out]
        go_wp2_with fail
        refine (AreBits_any B m d ys _ (hb.below hb1 (Nat.le_refl _)) hm).mono ?_
        rintro e w2 ⟨rfl, hb2⟩
        rw [H2.out]
        go_wp2
        go_ret2
        exact RetO.none_ (hb1.trans (hb2.mono hb1.size)) hr.out rfl

set_option maxHeartbeats 400000 in
theorem spec_XorBits_any (A B : Option Addr) (n c m d : Nat) (xs ys : List Int) (w : World) (ha : RI w A n xs) (hb : RI w B m ys) (hn : n ≤ 2097152) (hm : m ≤ 2097152) :
    Calls Try.prog 49 #[.slice A n c, .slice B m d] w (RetO w (xorF n m xs ys)) := by
  cases h1 : bitsB n 64 xs with
  | false =>
    have hr : Hid (xorF n m xs ys = none) := Lib.hid (by simp [xorF, h1])
    have H1 := Lib.hid h1; clear h1
    go_enter Try.func49, Try.ntmps49
    go_wp2_with fail
    refine (spec_AreBits_any A n c xs _ ha hn).mono ?_
    rintro e w1 ⟨rfl, rfl⟩
    rw [H1.out]
    go_wp2
    go_ret2
    exact RetO.none_ (Below.refl _ _) hr.out rfl
  | true =>
    cases h2 : bitsB m 64 ys with
    | false =>
      have hr : Hid (xorF n m xs ys = none) := Lib.hid (by simp [xorF, h2])
      have H1 := Lib.hid h1; have H2 := Lib.hid h2; clear h1 h2
      go_enter Try.func49, Try.ntmps49
      go_wp2_with fail
      refine (spec_AreBits_any A n c xs _ ha hn).mono ?_
      rintro e w1 ⟨rfl, rfl⟩
      rw [H1.out]
      go_wp2_with fail
      refine (spec_AreBits_any B m d ys _ hb hm).mono ?_
      rintro e w1 ⟨rfl, rfl⟩
      rw [H2.out]
      go_wp2
      go_ret2
      exact RetO.none_ (Below.refl _ _) hr.out rfl
    | true =>
      by_cases hnm : n = m
      · subst hnm
        have hr : Hid (xorF n n xs ys = some (tab n fun i => bxor (gi xs i) (gi ys i))) := Lib.hid (by simp [xorF, h1, h2])
        have H1 := Lib.hid h1; have H2 := Lib.hid h2; clear h1 h2
        have hne : ((n : Int) != n) = false := by simp
        go_enter Try.func49, Try.ntmps49
        go_wp2_with fail
        refine (spec_AreBits_any A n c xs _ ha hn).mono ?_
        rintro e w1 ⟨rfl, rfl⟩
        rw [H1.out]
        go_wp2_with fail
        refine (spec_AreBits_any B n d ys _ hb hm).mono ?_
        rintro e w1 ⟨rfl, rfl⟩
        rw [H2.out]
        go_wp2_with fail
        refine (btXor_any _ _ _ _ _ _ _ _ _ ha hb hn (Nat.le_refl _)).mono ?_
        rintro e w3 ⟨A3, c3, rfl, hown3, hb3⟩
        go_wp2
        go_ret2
        exact RetO.some_ hb3 hr.out (tab_len _ _) rfl hown3
      · have hr : Hid (xorF n m xs ys = none) := Lib.hid (by simp [xorF, hnm])
        have H1 := Lib.hid h1; have H2 := Lib.hid h2; clear h1 h2
        have hne : ((n : Int) != m) = true := by simp; omega
        go_enter Try.func49, Try.ntmps49
        go_wp2_with fail
        refine (spec_AreBits_any A n c xs _ ha hn).mono ?_
        rintro e w1 ⟨rfl, rfl⟩
        rw [H1.out]
        go_wp2_with fail
        refine (spec_AreBits_any B m d ys _ hb hm).mono ?_
        rintro e w1 ⟨rfl, rfl⟩
        rw [H2.out]
        go_wp2
        go_ret2
        exact RetO.none_ (Below.refl _ _) hr.out rfl

end Go.Proofs.Ythmdgcbhoijmgaa
