/- Contracts of sums, products and shifts of shares. Lengths up to 2^21. -/
import Derived.Test.YthmdgcbhoijmgaaShare
import Derived.Test.YthmdgcbhoijmgaaLaw
namespace Go.Proofs.Ythmdgcbhoijmgaa
open Go.RowKit
set_option linter.unusedVariables false
set_option linter.unusedSimpArgs false

/-- For two lists of shares of one length: the residues of f. -/
def shF (p : Int) (n m : Nat) (xs ys : List Int) (f : Nat → Int) : Option (List Int) := if (sharesB p n xs && sharesB p m ys && decide (n = m)) then some (tab n fun i => f i % p) else none
theorem shF_len (p : Int) (n m : Nat) (xs ys : List Int) (f : Nat → Int) : ((shF p n m xs ys f).getD []).length ≤ 40 := by
  unfold shF
  split
  · rename_i h
    simp only [Bool.and_eq_true, decide_eq_true_eq] at h
    simpa [tab_len] using (sharesB_bd h.1.1).2.2.1
  · simp
theorem shF_congr {p : Int} {n m : Nat} {xs ys : List Int} {f g : Nat → Int} (hx : xs.length = n) (h : sharesB p n xs = true → sharesB p m ys = true → ∀ i, i < n → n = m → f i % p = g i % p) : shF p n m xs ys f = shF p n m xs ys g := by
  unfold shF
  split
  · rename_i hc
    simp only [Bool.and_eq_true, decide_eq_true_eq] at hc
    exact congrArg some (tab_congr fun j hj => h hc.1.1 hc.1.2 j hj hc.2)
  · rfl
theorem and3 {a b c r : Bool} (h : (a && b && c) = r) (hr : r = true) : a = true ∧ b = true ∧ c = true := by
  subst hr; simpa [Bool.and_eq_true, and_assoc] using h

theorem combined_sh (f : FuncId) (hcf : ∀ args w, Sem.run Try.prog (callFunc f args) w = .ok (.enter f args) w) (cap : Array Value) (g : Int → Int → Int) {p : Int} {A B : Option Addr} {n c m d : Nat} {xs ys : List Int} {w : World}
    (r0 : RI w A n xs) (b0 : n ≤ 2097152) (r1 : RI w B m ys) (b1 : m ≤ 2097152)
    (hf : sharesB p n xs = true → sharesB p m ys = true → ∀ x ∈ xs, ∀ y ∈ ys, ∀ w1, Below w.heap.size w w1 → (-1152921504606846976 ≤ g x y ∧ g x y ≤ 1152921504606846976) ∧ Calls Try.prog f (#[.int .i64 x, .int .i64 y] ++ cap) w1 fun e w' => e = .returned (.int .i64 (g x y)) ∧ w1 = w') :
    Calls Try.prog 56 #[.int .i64 p, .slice A n c, .slice B m d, .func (.func f) #[] cap] w (RetO w (shF p n m xs ys fun i => g (gi xs i) (gi ys i))) :=
  combined_any f hcf cap g p A B n c m d xs ys w r0 b0 r1 b1 _ rfl (fun h => by
    obtain ⟨h1, h2, _⟩ := and3 rfl h
    exact Lib.hid (hf h1 h2))

theorem AddShares_1_any (x y : Int) (w : World) (h1 : -1152921504606846976 ≤ x ∧ x ≤ 1152921504606846976) (h2 : -1152921504606846976 ≤ y ∧ y ≤ 1152921504606846976) :
    Calls Try.prog 61 #[.int .i64 x, .int .i64 y] w fun e w' => e = .returned (.int .i64 (x + y)) ∧ w = w' := by
  obtain ⟨h3, h4⟩ := h1
  obtain ⟨h5, h6⟩ := h2
  go_enter Try.func61, Try.ntmps61
  go_wp2
  go_ret
  exact ⟨rfl, rfl⟩

theorem AddShares_any {p : Int} {A B : Option Addr} {n c m d : Nat} {xs ys : List Int} {w : World} (r0 : RI w A n xs) (b0 : n ≤ 2097152) (r1 : RI w B m ys) (b1 : m ≤ 2097152) :
    Calls Try.prog 32 #[.int .i64 p, .slice A n c, .slice B m d] w (RetO w (shF p n m xs ys fun i => gi xs i + gi ys i)) := by
  have hf : sharesB p n xs = true → sharesB p m ys = true → ∀ x ∈ xs, ∀ y ∈ ys, ∀ w1, Below w.heap.size w w1 → (-1152921504606846976 ≤ x + y ∧ x + y ≤ 1152921504606846976) ∧ Calls Try.prog 61 (#[.int .i64 x, .int .i64 y] ++ #[]) w1 fun e w' => e = .returned (.int .i64 (x + y)) ∧ w1 = w' := by
    intro h1 h2 x hx y hy w1 _
    have := (sharesB_bd h1).2.2.2 x hx
    have := (sharesB_bd h2).2.2.2 y hy
    have := sharesB_bd h1
    exact ⟨by omega, AddShares_1_any x y w1 (by omega) (by omega)⟩
  have hf := Lib.hid hf
  go_enter Try.func32, Try.ntmps32
  go_wp2_with fail
  refine (combined_sh 61 Try.call61 #[] (fun x y => x + y) r0 b0 r1 b1 hf.out).mono ?_
  rintro e w1 ⟨A1, c1, rfl, hown1, hb1⟩
  go_wp2
  go_ret2
  exact ⟨_, _, rfl, hown1, hb1⟩

set_option maxHeartbeats 800000 in
theorem shSum_any (p k0 : Int) (A B : Option Addr) (n c m d : Nat) (xs ys : List Int) (w : World) (ha : RI w A n xs) (hb : RI w B m ys) (hn : n ≤ 2097152) (hnm : n ≤ m) (hp : 0 < p ∧ p ≤ 1000000)
    (hx : ∀ x ∈ xs, 0 ≤ x ∧ x ≤ 1000000) (hy : ∀ y ∈ ys, 0 ≤ y ∧ y ≤ 1000000) (hk : -1000000 ≤ k0 ∧ k0 ≤ 1000000) :
    Calls Try.prog 60 #[.int .i64 p, .slice A n c, .slice B m d, .int .i64 k0] w fun e w' => ∃ A' c', e = .returned (.slice A' n c') ∧ Own w' w.heap.size w'.heap.size (.slice A' n c') n (tab n fun i => (gi xs i + k0 * gi ys i) % p) ∧ Below w.heap.size w w' := by
  obtain ⟨hp1, hp2⟩ := hp
  obtain ⟨hk1, hk2⟩ := hk
  have hl := ha.len
  have hlb := hb.len
  go_enter Try.func60, Try.ntmps60
  go_wp2
  go_loopw [9, 14] (fun v i wr => ∃ (k : Nat) (A' : Option Addr) (c' : Nat), k ≤ n ∧ i = .int .i64 k ∧ v = .slice A' k c' ∧ Own wr w.heap.size wr.heap.size (.slice A' k c') k (tab k fun i => (gi xs i + k0 * gi ys i) % p) ∧ Below w.heap.size w wr) (fun _ i _ => n - (intOf i).toNat)
  case atStart => exact ⟨0, _, _, Nat.zero_le _, rfl, rfl, Own.none_ _ _ _, Below.refl _ _⟩
  case round =>
    obtain ⟨k, A', c', hk, rfl, rfl, hown, hbw⟩ := hrel
    by_cases hlt : k < n
    · obtain ⟨b, o, rfl, hbB, c1⟩ := ha.at_ hlt
      obtain ⟨b', o', rfl, hbB', c2⟩ := hb.at_ (k := k) (by omega)
      have hsn : Hid (tab (k + 1) (fun i => (gi xs i + k0 * gi ys i) % p) = tab k (fun i => (gi xs i + k0 * gi ys i) % p) ++ [(gi xs k + k0 * gi ys k) % p]) := Lib.hid (tab_snoc k _)
      have hz := hbw.size
      have e1 := (hbw.cell (p := ⟨b, o + k, none⟩) hbB).trans c1
      have e2 := (hbw.cell (p := ⟨b', o' + k, none⟩) hbB').trans c2
      have hlt2 : (k : Int) < m := by omega
      have hX := hx _ (gi_mem (xs := xs) (j := k) (by omega))
      have hY := hy _ (gi_mem (xs := ys) (j := k) (by omega))
      clear ha hb c1 c2 hx hy
      generalize gi xs k = X at *
      generalize gi ys k = Y at *
      obtain ⟨hX0, hX1⟩ := hX
      obtain ⟨hY0, hY1⟩ := hY
      have hm1 : k0 * Y ≤ 1000000 * 1000000 := by
        rcases Int.le_total 0 k0 with h | h
        · exact Int.mul_le_mul hk2 hY1 hY0 (by omega)
        · have : k0 * Y ≤ 0 := Int.mul_nonpos_of_nonpos_of_nonneg h hY0
          omega
      have hm2 : -(1000000 * 1000000) ≤ k0 * Y := by
        rcases Int.le_total 0 k0 with h | h
        · have : 0 ≤ k0 * Y := Int.mul_nonneg h hY0
          omega
        · have : (-k0) * Y ≤ 1000000 * 1000000 := Int.mul_le_mul (by omega) hY1 hY0 (by omega)
          rw [Int.neg_mul] at this
          omega
      go_wp2_with fail
      refine (btMod_any (X + k0 * Y) p _ hp1 (by omega) (by omega) (by omega)).mono ?_
      rintro e w1 ⟨rfl, rfl⟩
      generalize (X + k0 * Y) % p = R at *
      have hb4 := hbw.alloc hz (.cells #[.int .i64 R] 3)
      have hown4 := hown.alloc (.cells #[.int .i64 R] 3)
      clear hbw hown
      go_wp2_with (at_builtin; refine wpList_app _ rfl _ _ rfl rfl hown4 rfl (RI_new1 _ _ _) (by omega) (by simp; omega) ?_; intro A5 c5 w5 hown5 hg5 hat5)
      have hb5 := below_app hb4 hown4 hg5 (by simp; omega) (Nat.le_refl _)
      rw [← hsn.out] at hown5
      clear hb4 hown4 hg5 hat5
      go_wp2
      go_roundw
      case rel => exact ⟨k + 1, _, _, by omega, by go_num, rfl, hown5, hb5⟩
      case measure => simp [intOf]; omega
    · obtain rfl : k = n := by omega
      go_wp2
      go_ret
      exact ⟨_, _, rfl, hown, hbw⟩

set_option maxHeartbeats 400000 in
theorem spec_AddShares_any {p : Int} {A B : Option Addr} {n c m d : Nat} {xs ys : List Int} {w : World} (r0 : RI w A n xs) (b0 : n ≤ 2097152) (r1 : RI w B m ys) (b1 : m ≤ 2097152) :
    Calls Try.prog 31 #[.int .i64 p, .slice A n c, .slice B m d] w (RetO w (shF p n m xs ys fun i => gi xs i + gi ys i)) := by
  cases h1 : sharesB p n xs with
  | false =>
    have hr : Hid (shF p n m xs ys (fun i => gi xs i + gi ys i) = none) := Lib.hid (by simp [shF, h1])
    have H1 := Lib.hid h1; clear h1
    go_enter Try.func31, Try.ntmps31
    go_wp2_with fail
    refine (shValues_any p A n c xs _ r0 b0).mono ?_
    rintro e w1 ⟨rfl, hb1⟩
    rw [H1.out]
    go_wp2
    go_ret2
    exact RetO.none_ hb1 hr.out rfl
  | true =>
    obtain ⟨hp1, hp2, hn40, hx⟩ := sharesB_bd h1
    cases h2 : sharesB p m ys with
    | false =>
      have hr : Hid (shF p n m xs ys (fun i => gi xs i + gi ys i) = none) := Lib.hid (by simp [shF, h2])
      have H1 := Lib.hid h1; have H2 := Lib.hid h2; clear h1 h2
      go_enter Try.func31, Try.ntmps31
      go_wp2_with fail
      refine (shValues_any p A n c xs _ r0 b0).mono ?_
      rintro e w1 ⟨rfl, hb1⟩
      rw [H1.out]
      go_wp2_with fail
      refine (shValues_any p B m d ys _ (r1.below hb1 (Nat.le_refl _)) b1).mono ?_
      rintro e w2 ⟨rfl, hb2⟩
      rw [H2.out]
      go_wp2
      go_ret2
      exact RetO.none_ (hb1.trans (hb2.mono hb1.size)) hr.out rfl
    | true =>
      obtain ⟨_, _, hm40, hy⟩ := sharesB_bd h2
      by_cases hnm : n = m
      · subst hnm
        have hr : Hid (shF p n n xs ys (fun i => gi xs i + gi ys i) = some (tab n fun i => (gi xs i + 1 * gi ys i) % p)) := Lib.hid (by simp [shF, h1, h2])
        have H1 := Lib.hid h1; have H2 := Lib.hid h2; clear h1 h2
        have hne : ((n : Int) != n) = false := by simp
        go_enter Try.func31, Try.ntmps31
        go_wp2_with fail
        refine (shValues_any p A n c xs _ r0 b0).mono ?_
        rintro e w1 ⟨rfl, hb1⟩
        rw [H1.out]
        go_wp2_with fail
        refine (shValues_any p B n d ys _ (r1.below hb1 (Nat.le_refl _)) b1).mono ?_
        rintro e w2 ⟨rfl, hb2⟩
        rw [H2.out]
        have hb3 := hb1.trans (hb2.mono hb1.size)
        go_wp2_with fail
        refine (shSum_any p 1 A B n c n d xs ys _ (r0.below hb3 (Nat.le_refl _)) (r1.below hb3 (Nat.le_refl _)) b0 (Nat.le_refl _) (by omega) (fun x h => by have := hx x h; omega) (fun x h => by have := hy x h; omega) (by omega)).mono ?_
        rintro e w3 ⟨A3, c3, rfl, hown3, hb33⟩
        go_wp2
        go_ret2
        exact RetO.some_ (hb3.trans (hb33.mono hb3.size)) hr.out (tab_len _ _) rfl (hown3.lo_ hb3.size)
      · have hr : Hid (shF p n m xs ys (fun i => gi xs i + gi ys i) = none) := Lib.hid (by simp [shF, hnm])
        have H1 := Lib.hid h1; have H2 := Lib.hid h2; clear h1 h2
        have hne : ((n : Int) != m) = true := by simp; omega
        go_enter Try.func31, Try.ntmps31
        go_wp2_with fail
        refine (shValues_any p A n c xs _ r0 b0).mono ?_
        rintro e w1 ⟨rfl, hb1⟩
        rw [H1.out]
        go_wp2_with fail
        refine (shValues_any p B m d ys _ (r1.below hb1 (Nat.le_refl _)) b1).mono ?_
        rintro e w2 ⟨rfl, hb2⟩
        rw [H2.out]
        go_wp2
        go_ret2
        exact RetO.none_ (hb1.trans (hb2.mono hb1.size)) hr.out rfl

theorem JoinSum_any {p : Int} {A B : Option Addr} {n c m d : Nat} {xs ys : List Int} {w : World} (r0 : RI w A n xs) (b0 : n ≤ 2097152) (r1 : RI w B m ys) (b1 : m ≤ 2097152) :
    Calls Try.prog 38 #[.int .i64 p, .slice A n c, .slice B m d] w (RetO w (shF p n m xs ys fun i => gi xs i + gi ys i)) := by
  go_enter Try.func38, Try.ntmps38
  go_wp2_with fail
  refine (AddShares_any r0 b0 r1 b1).mono ?_
  rintro e w1 ⟨A1, c1, rfl, hown1, hb1⟩
  go_wp2
  go_ret2
  exact ⟨_, _, rfl, hown1, hb1⟩

theorem spec_JoinSum_any {p : Int} {A B : Option Addr} {n c m d : Nat} {xs ys : List Int} {w : World} (r0 : RI w A n xs) (b0 : n ≤ 2097152) (r1 : RI w B m ys) (b1 : m ≤ 2097152) :
    Calls Try.prog 37 #[.int .i64 p, .slice A n c, .slice B m d] w (RetO w (shF p n m xs ys fun i => gi xs i + gi ys i)) := by
  go_enter Try.func37, Try.ntmps37
  go_wp2_with fail
  refine (spec_AddShares_any r0 b0 r1 b1).mono ?_
  rintro e w1 ⟨A1, c1, rfl, hown1, hb1⟩
  go_wp2
  go_ret2
  exact ⟨_, _, rfl, hown1, hb1⟩

end Go.Proofs.Ythmdgcbhoijmgaa
