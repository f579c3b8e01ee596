/- Contracts of scaled and shifted shares, of inner products, of sums for holders. Lengths up to 2^21. -/
import Derived.Test.YthmdgcbhoijmgaaSum
namespace Go.Proofs.Ythmdgcbhoijmgaa
open Go.RowKit
set_option linter.unusedVariables false
set_option linter.unusedSimpArgs false

/-- A call that began at w returns a number and true; or 0 and false. -/
def RetZO (w : World) (o : Option Int) (e : Ending) (w' : World) : Prop := e = .returned (.tuple #[.int .i64 (o.getD 0), .bool o.isSome]) ∧ Below w.heap.size w w'
/-- f 0 + f 1 + .. + f (n-1) -/
def psum (f : Nat → Int) : Nat → Int
  | 0 => 0
  | n + 1 => psum f n + f n
theorem psum_mod (f : Nat → Int) (p : Int) (n : Nat) : psum (fun i => f i % p) n % p = psum f n % p := by
  induction n with
  | zero => rfl
  | succ n ih =>
    show (psum (fun i => f i % p) n + f n % p) % p = (psum f n + f n) % p
    rw [Int.add_emod, ih, Int.emod_emod_of_dvd _ (Int.dvd_refl p), ← Int.add_emod]
theorem psum_bd {f : Nat → Int} {B : Int} (n : Nat) (h : ∀ i, i < n → 0 ≤ f i ∧ f i ≤ B) : 0 ≤ psum f n ∧ psum f n ≤ n * B := by
  induction n with
  | zero => simp [psum]
  | succ n ih =>
    have h1 := ih fun i hi => h i (by omega)
    have h2 := h n (by omega)
    refine ⟨by show 0 ≤ psum f n + f n; omega, ?_⟩
    show psum f n + f n ≤ _
    rw [show ((n + 1 : Nat) : Int) = (n : Int) + 1 from rfl, Int.add_mul]
    omega
theorem psum_congr {f g : Nat → Int} (n : Nat) (h : ∀ i, i < n → f i = g i) : psum f n = psum g n := by
  induction n with
  | zero => rfl
  | succ n ih => show psum f n + f n = psum g n + g n; rw [ih fun i hi => h i (by omega), h n (by omega)]
/-- An inner product. -/
def innerF (p : Int) (n m : Nat) (xs ys : List Int) : Option Int := if (sharesB p n xs && sharesB p m ys && decide (n = m)) then some (psum (fun i => gi xs i * gi ys i) n % p) else none
/-- Products with an element. -/
def scaleF (p : Int) (n : Nat) (xs : List Int) (k : Int) : Option (List Int) := if (sharesB p n xs && inB 0 (p - 1) k) then some (tab n fun i => gi xs i * k % p) else none
/-- Sums with an element for party 0. -/
def shiftF (p party : Int) (n : Nat) (xs : List Int) (k : Int) : Option (List Int) := if (sharesB p n xs && inB 0 (p - 1) k && inB 0 1 party) then some (tab n fun i => (gi xs i + (1 - party) * k) % p) else none
/-- Sums of shares for at most 10 holders. -/
def addHF (p : Int) (n m : Nat) (xs ys : List Int) : Option (List Int) := if (elemsB p xs && elemsB p ys && decide (n = m) && decide (n ≤ 10)) then some (tab n fun i => (gi xs i + gi ys i) % p) else none
theorem scaleF_len (p : Int) (n : Nat) (xs : List Int) (k : Int) : ((scaleF p n xs k).getD []).length ≤ 40 := by
  unfold scaleF
  split
  · rename_i h
    simp only [Bool.and_eq_true] at h
    simpa [tab_len] using (sharesB_bd h.1).2.2.1
  · simp
theorem shiftF_len (p party : Int) (n : Nat) (xs : List Int) (k : Int) : ((shiftF p party n xs k).getD []).length ≤ 40 := by
  unfold shiftF
  split
  · rename_i h
    simp only [Bool.and_eq_true] at h
    simpa [tab_len] using (sharesB_bd h.1.1).2.2.1
  · simp
theorem addHF_len (p : Int) (n m : Nat) (xs ys : List Int) : ((addHF p n m xs ys).getD []).length ≤ 40 := by
  unfold addHF
  split
  · rename_i h
    simp only [Bool.and_eq_true, decide_eq_true_eq] at h
    simp [tab_len]; omega
  · simp
theorem elem_mul {p x y : Int} (hx : 0 ≤ x ∧ x < p) (hy : 0 ≤ y ∧ y < p) (hp : p ≤ 251) : 0 ≤ x * y ∧ x * y ≤ 63001 := by
  refine ⟨Int.mul_nonneg hx.1 hy.1, ?_⟩
  have : x * y ≤ 251 * 251 := Int.mul_le_mul (by omega) (by omega) hy.1 (by omega)
  omega

theorem ScaleShare_1_any (a : Addr) (x y k : Int) (w : World) (hc : w.cell? a = some (.int .i64 k)) (h0 : 0 ≤ x * k) (h1 : x * k ≤ 63001) :
    Calls Try.prog 63 #[.int .i64 x, .int .i64 y, .pointer (some a)] w fun e w' => e = .returned (.int .i64 (x * k)) ∧ w = w' := by
  go_enter Try.func63, Try.ntmps63
  go_wp2
  go_ret
  exact ⟨rfl, rfl⟩

set_option maxHeartbeats 400000 in
theorem ScaleShare_any {p k : Int} {A : Option Addr} {n c : Nat} {xs : List Int} {w : World} (r0 : RI w A n xs) (b0 : n ≤ 2097152) :
    Calls Try.prog 40 #[.int .i64 p, .slice A n c, .int .i64 k] w (RetO w (scaleF p n xs k)) := by
  have hB : Below w.heap.size w (w.alloc (.cells #[.int .i64 k] 3)) := (Below.refl _ _).alloc (Nat.le_refl _) _
  go_enter Try.func40, Try.ntmps40
  go_wp2_with fail
  refine (isElement_any p k _).mono ?_
  rintro e w1 ⟨rfl, rfl⟩
  cases h1 : elemB p k with
  | false =>
    go_wp2
    go_ret2
    exact RetO.none_ hB (by unfold scaleF; cases h2 : sharesB p n xs with | false => rfl | true => rw [Bool.true_and]; simp only [elemB, Bool.and_eq_false_iff] at h1; have := sharesB_bd h2; simp only [sharesB, elemsB, Bool.and_eq_true] at h2; rw [h2.1.1] at h1; simp at h1; rw [h1]; rfl) rfl
  | true =>
    have hk := elemB_bd h1
    have hkb : inB 0 (p - 1) k = true := by simp only [elemB, Bool.and_eq_true] at h1; exact h1.2
    have hf : sharesB p n xs = true → sharesB p n xs = true → ∀ x ∈ xs, ∀ y ∈ xs, ∀ w1, Below (w.alloc (.cells #[.int .i64 k] 3)).heap.size (w.alloc (.cells #[.int .i64 k] 3)) w1 → (-1152921504606846976 ≤ x * k ∧ x * k ≤ 1152921504606846976) ∧ Calls Try.prog 63 (#[.int .i64 x, .int .i64 y] ++ #[.pointer (some ⟨w.heap.size, 0, none⟩)]) w1 fun e w' => e = .returned (.int .i64 (x * k)) ∧ w1 = w' := by
      intro h2 _ x hx y _ w1 hb1
      have hx' := (sharesB_bd h2).2.2.2 x hx
      have hm := elem_mul hx' ⟨hk.2.2.1, hk.2.2.2⟩ hk.2.1
      refine ⟨by omega, ScaleShare_1_any _ x y k w1 ?_ hm.1 hm.2⟩
      rw [hb1.cell (p := ⟨w.heap.size, 0, none⟩) (by simp)]
      rw [cell_of_row _ w.heap.size 0 _ _ _ (heap_alloc_new w _)]
      rfl
    have hf := Lib.hid hf
    have hR : Hid (shF p n n xs xs (fun i => gi xs i * k) = scaleF p n xs k) := Lib.hid (by unfold shF scaleF; rw [hkb]; cases sharesB p n xs <;> simp)
    clear h1
    go_wp2_with fail
    refine (combined_sh 63 Try.call63 #[.pointer (some ⟨w.heap.size, 0, none⟩)] (fun x y => x * k) (r0.alloc _) b0 (r0.alloc _) b0 hf.out).mono ?_
    rintro e w1 ⟨A1, c1, rfl, hown1, hb1⟩
    rw [hR.out] at *
    go_wp2
    go_ret2
    exact ⟨_, _, rfl, hown1.lo_ (by simp), hB.trans (hb1.mono (by simp))⟩

set_option maxHeartbeats 400000 in
theorem spec_ScaleShare_any {p k : Int} {A : Option Addr} {n c : Nat} {xs : List Int} {w : World} (r0 : RI w A n xs) (b0 : n ≤ 2097152) :
    Calls Try.prog 39 #[.int .i64 p, .slice A n c, .int .i64 k] w (RetO w (scaleF p n xs k)) := by
  obtain ⟨i0, hi, hz0, hz1, hz2⟩ := info_parts info_int
  have hl := r0.len
  go_enter Try.func39, Try.ntmps39
  go_wp2_with fail
  refine (shValues_any p A n c xs _ r0 b0).mono ?_
  rintro e w1 ⟨rfl, hb1⟩
  cases h1 : sharesB p n xs with
  | false =>
    go_wp2
    go_ret2
    exact RetO.none_ hb1 (by simp [scaleF, h1]) rfl
  | true =>
    obtain ⟨hp1, hp2, hn40, hx⟩ := sharesB_bd h1
    have H1 := Lib.hid h1; clear h1
    go_wp2_with fail
    refine (l1In_any k 0 (p - 1) _ rfl _).mono ?_
    rintro e w2 ⟨rfl, rfl⟩
    cases h2 : inB 0 (p - 1) k with
    | false =>
      go_wp2
      go_ret2
      exact RetO.none_ hb1 (by simp [scaleF, h2]) rfl
    | true =>
      have hk := inB_iff.1 h2
      have hR : Hid (scaleF p n xs k = some (tab n fun i => (gi (List.replicate n 0) i + k * gi xs i) % p)) := Lib.hid (by
        unfold scaleF; rw [H1.out, h2]
        refine congrArg some (tab_congr fun j hj => ?_)
        rw [show gi (List.replicate n 0) j = 0 from by simp [gi, hj], Int.zero_add, Int.mul_comm])
      clear h2
      have hz := hb1.size
      go_wp2_with (at_make; refine wpList_make_full _ rfl _ _ 22 rfl w.heap.size 3 i0 (.int .i64 0) 1 Try.underlying22 hi hz0 hz1 _ _ _ _ n rfl rfl rfl rfl (by rw [hz2]; omega) (by unfold maxLen; omega) hz ?_; intro w3 hown hgrow)
      have hrep : w3.ownsRow w.heap.size 3 1 (.slice (some ⟨w1.heap.size, 0, none⟩) n n) n ((List.replicate n 0).map (Value.int .i64)) := by
        have h : (madeCells (Value.int .i64 0).cells (n * 1)).toList = (List.replicate n 0).map (Value.int .i64) := by
          simp [Value.cells, toList_madeCells_one]
        rw [← h]; exact hown
      have hb3 : Below w.heap.size w w3 := hb1.trans ((below_of_grownBy hgrow).mono hz)
      have hrd := (Own.mk_ hrep).reads
      clear hown hgrow hrep
      go_wp2_with fail
      refine (shSum_any p k _ A n n n c _ xs _ hrd (r0.below hb3 (Nat.le_refl _)) b0 (Nat.le_refl _) (by omega) (fun x h => by simp at h; omega) (fun x h => by have := hx x h; omega) (by omega)).mono ?_
      rintro e w4 ⟨A3, c3, rfl, hown3, hb33⟩
      go_wp2
      go_ret2
      exact RetO.some_ (hb3.trans (hb33.mono hb3.size)) hR.out (tab_len _ _) rfl (hown3.lo_ hb3.size)

theorem InnerShares_1_any (x y : Int) (w : World) (h0 : 0 ≤ x * y) (h1 : x * y ≤ 63001) :
    Calls Try.prog 57 #[.int .i64 x, .int .i64 y] w fun e w' => e = .returned (.int .i64 (x * y)) ∧ w = w' := by
  go_enter Try.func57, Try.ntmps57
  go_wp2
  go_ret
  exact ⟨rfl, rfl⟩

theorem sumOf_any (A : Option Addr) (n c : Nat) (xs : List Int) (w : World) (ha : RI w A n xs) (hn : n ≤ 2097152) (hx : ∀ x ∈ xs, 0 ≤ x ∧ x ≤ 1000000000) :
    Calls Try.prog 58 #[.slice A n c] w fun e w' => e = .returned (.int .i64 (psum (gi xs) n)) ∧ w = w' := by
  have hl := ha.len
  go_enter Try.func58, Try.ntmps58
  go_wp2
  go_loop [3, 8] (fun s i => ∃ (k : Nat) (q : Int), k ≤ n ∧ i = .int .i64 k ∧ s = .int .i64 q ∧ Hid (q = psum (gi xs) k) ∧ 0 ≤ q ∧ q ≤ (k : Int) * 1000000000) (fun _ i => n - (intOf i).toNat)
  case atStart => exact ⟨0, 0, Nat.zero_le _, rfl, rfl, rfl, by omega, by omega⟩
  case round =>
    obtain ⟨k, q, hk, rfl, rfl, hq, h0, h1⟩ := hrel
    by_cases hlt : k < n
    · obtain ⟨b, o, rfl, hbB, c1⟩ := ha.at_ hlt
      have hX := hx _ (gi_mem (xs := xs) (j := k) (by omega))
      have hs : Hid (q + gi xs k = psum (gi xs) (k + 1)) := Lib.hid (by rw [hq.out]; rfl)
      clear ha hx
      generalize gi xs k = X at c1 hX hs
      obtain ⟨hX0, hX1⟩ := hX
      go_wp2
      go_round
      case rel => exact ⟨k + 1, _, by omega, by go_num, rfl, hs, by omega, by omega⟩
      case measure => simp [intOf]; omega
    · obtain rfl : k = n := by omega
      go_wp2
      go_ret
      exact ⟨by rw [← hq.out]; rfl, rfl⟩

set_option maxHeartbeats 400000 in
theorem InnerShares_any {p : Int} {A B : Option Addr} {n c m d : Nat} {xs ys : List Int} {w : World} (r0 : RI w A n xs) (b0 : n ≤ 2097152) (r1 : RI w B m ys) (b1 : m ≤ 2097152) :
    Calls Try.prog 25 #[.int .i64 p, .slice A n c, .slice B m d] w (RetZO w (innerF p n m xs ys)) := by
  have hf : sharesB p n xs = true → sharesB p m ys = true → ∀ x ∈ xs, ∀ y ∈ ys, ∀ w1, Below w.heap.size w w1 → (-1152921504606846976 ≤ x * y ∧ x * y ≤ 1152921504606846976) ∧ Calls Try.prog 57 (#[.int .i64 x, .int .i64 y] ++ #[]) w1 fun e w' => e = .returned (.int .i64 (x * y)) ∧ w1 = w' := by
    intro h1 h2 x hx y hy w1 _
    have hm := elem_mul ((sharesB_bd h1).2.2.2 x hx) ((sharesB_bd h2).2.2.2 y hy) (sharesB_bd h1).2.1
    exact ⟨by omega, InnerShares_1_any x y w1 hm.1 hm.2⟩
  have hf := Lib.hid hf
  have hbound : ∀ zs, shF p n m xs ys (fun i => gi xs i * gi ys i) = some zs → 2 ≤ p ∧ p ≤ 251 ∧ innerF p n m xs ys = some (psum (gi zs) n % p) ∧ zs.length = n ∧ ∀ z ∈ zs, 0 ≤ z ∧ z < p := by
    intro zs hz
    unfold shF at hz
    split at hz
    · rename_i h
      obtain ⟨h1, _, _⟩ := and3 rfl h
      have hp := sharesB_bd h1
      simp only [Option.some.injEq] at hz
      subst hz
      refine ⟨hp.1, hp.2.1, ?_, tab_len _ _, fun z hz => ?_⟩
      · rw [innerF, if_pos h, ← psum_mod, psum_congr n fun i hi => ?_]
        rw [gi_tab hi]
      · obtain ⟨j, _, rfl⟩ := mem_tab hz
        exact ⟨Int.emod_nonneg _ (by omega), Int.emod_lt_of_pos _ (by omega)⟩
    · cases hz
  have hnone : shF p n m xs ys (fun i => gi xs i * gi ys i) = none → innerF p n m xs ys = none := by
    intro hz
    unfold shF at hz
    split at hz
    · cases hz
    · rename_i h; rw [innerF, if_neg h]
  have HB := Lib.hid hbound
  have HN := Lib.hid hnone
  clear hbound hnone
  go_enter Try.func25, Try.ntmps25
  go_wp2_with fail
  refine (combined_sh 57 Try.call57 #[] (fun x y => x * y) r0 b0 r1 b1 hf.out).mono ?_
  rintro e w1 ⟨A1, c1, rfl, hown1, hb1⟩
  cases hz : shF p n m xs ys (fun i => gi xs i * gi ys i) with
  | none =>
    have hn := Lib.hid (HN.out hz)
    rw [hz] at hown1
    go_wp2
    go_ret2
    exact ⟨by rw [hn.out]; rfl, hb1⟩
  | some zs =>
    obtain ⟨hp1, hp2, hin, hzl, hzb⟩ := HB.out zs hz
    have hin := Lib.hid hin
    rw [hz] at hown1
    simp only [Option.getD_some, hzl] at hown1 ⊢
    have hps := psum_bd (f := gi zs) (B := 251) n (fun i hi => by have := hzb _ (gi_mem (xs := zs) (j := i) (by omega)); omega)
    clear hz
    go_wp2_with fail
    refine (sumOf_any A1 n c1 zs _ hown1.reads (by omega) (fun z h => by have := hzb z h; omega)).mono ?_
    rintro e w2 ⟨rfl, rfl⟩
    generalize psum (gi zs) n = S at *
    obtain ⟨hS0, hS1⟩ := hps
    have hpne : ¬ p = 0 := by omega
    clear hzb
    go_wp2
    go_ret2
    exact ⟨by rw [hin.out]; rfl, hb1⟩

set_option maxHeartbeats 800000 in
theorem spec_InnerShares_any {p : Int} {A B : Option Addr} {n c m d : Nat} {xs ys : List Int} {w : World} (r0 : RI w A n xs) (b0 : n ≤ 2097152) (r1 : RI w B m ys) (b1 : m ≤ 2097152) :
    Calls Try.prog 24 #[.int .i64 p, .slice A n c, .slice B m d] w (RetZO w (innerF p n m xs ys)) := by
  have hl := r0.len
  have hlb := r1.len
  go_enter Try.func24, Try.ntmps24
  go_wp2_with fail
  refine (shValues_any p A n c xs _ r0 b0).mono ?_
  rintro e w1 ⟨rfl, hb1⟩
  cases h1 : sharesB p n xs with
  | false =>
    have hn : Hid (innerF p n m xs ys = none) := Lib.hid (by simp [innerF, h1])
    clear h1
    go_wp2
    go_ret2
    exact ⟨by rw [hn.out]; rfl, hb1⟩
  | true =>
    obtain ⟨hp1, hp2, hn40, hx⟩ := sharesB_bd h1
    have H1 := Lib.hid h1; clear h1
    go_wp2_with fail
    refine (shValues_any p B m d ys _ (r1.below hb1 (Nat.le_refl _)) b1).mono ?_
    rintro e w2 ⟨rfl, hb2⟩
    have hb3 := hb1.trans (hb2.mono hb1.size)
    clear hb1 hb2
    cases h2 : sharesB p m ys with
    | false =>
      have hn : Hid (innerF p n m xs ys = none) := Lib.hid (by simp [innerF, h2])
      clear h2
      go_wp2
      go_ret2
      exact ⟨by rw [hn.out]; rfl, hb3⟩
    | true =>
      obtain ⟨_, _, _, hy⟩ := sharesB_bd h2
      have H2 := Lib.hid h2; clear h2
      by_cases hnm : n = m
      · subst hnm
        have hne : ((n : Int) != n) = false := by simp
        have hR : Hid (innerF p n n xs ys = some (psum (fun i => gi xs i * gi ys i) n % p)) := Lib.hid (by simp [innerF, H1.out, H2.out])
        have hpne : ¬ p = 0 := by omega
        go_wp2
        go_loopw [8, 30] (fun s i wr => ∃ (k : Nat) (q : Int), k ≤ n ∧ i = .int .i64 k ∧ s = .int .i64 q ∧ Hid (q = psum (fun i => gi xs i * gi ys i) k % p) ∧ 0 ≤ q ∧ q ≤ 251 ∧ Below w.heap.size w wr) (fun _ i _ => n - (intOf i).toNat)
        case atStart => exact ⟨0, 0, Nat.zero_le _, rfl, rfl, rfl, by omega, by omega, hb3⟩
        case round =>
          clear hb3
          obtain ⟨k, q, hk, rfl, rfl, hq, hq0, hq1, hbw⟩ := hrel
          by_cases hlt : k < n
          · obtain ⟨b, o, rfl, hbB, c1⟩ := r0.at_ hlt
            obtain ⟨b', o', rfl, hbB', c2⟩ := r1.at_ hlt
            have e1 := (hbw.cell (p := ⟨b, o + k, none⟩) hbB).trans c1
            have e2 := (hbw.cell (p := ⟨b', o' + k, none⟩) hbB').trans c2
            have hX := hx _ (gi_mem (xs := xs) (j := k) (by omega))
            have hY := hy _ (gi_mem (xs := ys) (j := k) (by omega))
            have hm := elem_mul hX hY hp2
            have hs : Hid ((q + gi xs k * gi ys k) % p = psum (fun i => gi xs i * gi ys i) (k + 1) % p) := Lib.hid (by
              rw [hq.out, Int.add_emod, Int.emod_emod_of_dvd _ (Int.dvd_refl p), ← Int.add_emod]; rfl)
            clear r0 r1 c1 c2 hx hy
            generalize gi xs k = X at *
            generalize gi ys k = Y at *
            obtain ⟨hm0, hm1⟩ := hm
            obtain ⟨hX0, hX1⟩ := hX
            obtain ⟨hY0, hY1⟩ := hY
            have hr0 := Int.emod_nonneg (q + X * Y) (show p ≠ 0 by omega)
            have hr1 := Int.emod_lt_of_pos (q + X * Y) (show 0 < p by omega)
            go_wp2
            go_roundw
            case rel => exact ⟨k + 1, _, by omega, by go_num, rfl, hs, hr0, by omega, hbw⟩
            case measure => simp [intOf]; omega
          · obtain rfl : k = n := by omega
            go_wp2
            go_ret2
            exact ⟨by rw [hR.out, ← hq.out]; rfl, hbw⟩
      · have hn : Hid (innerF p n m xs ys = none) := Lib.hid (by simp [innerF, hnm])
        have hne : ((n : Int) != m) = true := by simp; omega
        go_wp2
        go_ret2
        exact ⟨by rw [hn.out]; rfl, hb3⟩

end Go.Proofs.Ythmdgcbhoijmgaa
