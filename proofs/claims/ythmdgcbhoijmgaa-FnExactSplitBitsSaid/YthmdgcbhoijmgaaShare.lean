/- Contracts of the functions on shares of values of a field. Lengths up to 2^21. -/
import Derived.Test.YthmdgcbhoijmgaaDigest
import Derived.Test.YthmdgcbhoijmgaaTests
import Derived.Test.YthmdgcbhoijmgaaTab
namespace Go.Proofs.Ythmdgcbhoijmgaa
open Go.RowKit
set_option linter.unusedVariables false
set_option linter.unusedSimpArgs false

/-- A list of at most 40 elements of the field of p. -/
def sharesB (p : Int) (n : Nat) (xs : List Int) : Bool := elemsB p xs && decide (n ≤ 40)
theorem sharesB_bd {p : Int} {n : Nat} {xs : List Int} (h : sharesB p n xs = true) : 2 ≤ p ∧ p ≤ 251 ∧ n ≤ 40 ∧ ∀ x ∈ xs, 0 ≤ x ∧ x < p := by
  simp only [sharesB, Bool.and_eq_true, decide_eq_true_eq] at h
  have := elemsB_bd h.1
  exact ⟨this.1, this.2.1, h.2, this.2.2⟩

theorem areShares_any (p : Int) (A : Option Addr) (n c : Nat) (xs : List Int) (w : World) (ha : RI w A n xs) (hn : n ≤ 2097152) :
    Calls Try.prog 79 #[.int .i64 p, .slice A n c] w fun e w' => e = .returned (.bool (sharesB p n xs)) ∧ Below w.heap.size w w' := by
  cases hp : elemsB p xs with
  | true =>
    have HR : Hid (sharesB p n xs = decide ((n : Int) ≤ 40)) := Lib.hid (by simp only [sharesB, hp, Bool.true_and, decide_eq_decide]; omega)
    have HP := Lib.hid hp; clear hp
    go_enter Try.func79, Try.ntmps79
    go_wp2_with fail
    refine (areElements_any p A n c xs _ ha hn).mono ?_
    rintro e w1 ⟨rfl, hb1⟩
    rw [HP.out]
    go_wp2
    go_ret
    exact ⟨by rw [HR.out]; rfl, by first | exact hb1 | (subst hb1; exact Below.refl _ _)⟩
  | false =>
    have HR : Hid (sharesB p n xs = false) := Lib.hid (by simp only [sharesB, hp]; simp)
    have HP := Lib.hid hp; clear hp
    go_enter Try.func79, Try.ntmps79
    go_wp2_with fail
    refine (areElements_any p A n c xs _ ha hn).mono ?_
    rintro e w1 ⟨rfl, hb1⟩
    rw [HP.out]
    go_wp2
    go_ret
    exact ⟨by rw [HR.out]; rfl, by first | exact hb1 | (subst hb1; exact Below.refl _ _)⟩

theorem shValues_any (p : Int) (A : Option Addr) (n c : Nat) (xs : List Int) (w : World) (ha : RI w A n xs) (hn : n ≤ 2097152) :
    Calls Try.prog 55 #[.int .i64 p, .slice A n c] w fun e w' => e = .returned (.bool (sharesB p n xs)) ∧ Below w.heap.size w w' := by
  cases hp : elemsB p xs with
  | true =>
    have HR : Hid (sharesB p n xs = decide ((n : Int) ≤ 40)) := Lib.hid (by simp only [sharesB, hp, Bool.true_and, decide_eq_decide]; omega)
    have HP := Lib.hid hp; clear hp
    go_enter Try.func55, Try.ntmps55
    go_wp2_with fail
    refine (fpIn_any p A n c xs _ ha hn).mono ?_
    rintro e w1 ⟨rfl, hb1⟩
    rw [HP.out]
    go_wp2
    go_ret
    exact ⟨by rw [HR.out]; rfl, by first | exact hb1 | (subst hb1; exact Below.refl _ _)⟩
  | false =>
    have HR : Hid (sharesB p n xs = false) := Lib.hid (by simp only [sharesB, hp]; simp)
    have HP := Lib.hid hp; clear hp
    go_enter Try.func55, Try.ntmps55
    go_wp2_with fail
    refine (fpIn_any p A n c xs _ ha hn).mono ?_
    rintro e w1 ⟨rfl, hb1⟩
    rw [HP.out]
    go_wp2
    go_ret
    exact ⟨by rw [HR.out]; rfl, by first | exact hb1 | (subst hb1; exact Below.refl _ _)⟩

set_option maxRecDepth 100000 in
set_option maxHeartbeats 800000 in
theorem combined_any (f : FuncId) (hcf : ∀ args w, Sem.run Try.prog (callFunc f args) w = .ok (.enter f args) w) (cap : Array Value) (g : Int → Int → Int) (p : Int) (A B : Option Addr) (n c m d : Nat) (xs ys : List Int) (w : World)
    (ha : RI w A n xs) (hn : n ≤ 2097152) (hb : RI w B m ys) (hm : m ≤ 2097152) (r : Bool) (hr : (sharesB p n xs && sharesB p m ys && decide (n = m)) = r)
    (hf : r = true → Hid (∀ x ∈ xs, ∀ y ∈ ys, ∀ w1, Below w.heap.size w w1 → (-1152921504606846976 ≤ g x y ∧ g x y ≤ 1152921504606846976) ∧ Calls Try.prog f (#[.int .i64 x, .int .i64 y] ++ cap) w1 fun e w' => e = .returned (.int .i64 (g x y)) ∧ w1 = w')) :
    Calls Try.prog 56 #[.int .i64 p, .slice A n c, .slice B m d, .func (.func f) #[] cap] w (RetO w (if r then some (tab n fun i => g (gi xs i) (gi ys i) % p) else none)) := by
  have hl := ha.len
  have hlb := hb.len
  cases h1 : sharesB p n xs with
  | false =>
    have hr1 : r = false := by rw [← hr, h1]; rfl
    have H1 := Lib.hid h1; clear h1 hr
    subst hr1
    go_enter Try.func56, Try.ntmps56
    go_wp2_with fail
    refine (areShares_any p A n c xs _ ha hn).mono ?_
    rintro e w1 ⟨rfl, hb1⟩
    rw [H1.out]
    go_wp2
    go_ret2
    exact RetO.none_ hb1 rfl rfl
  | true =>
    obtain ⟨hp1, hp2, hn40, hx⟩ := sharesB_bd h1
    cases h2 : sharesB p m ys with
    | false =>
      have hr1 : r = false := by rw [← hr, h1, h2]; rfl
      have H1 := Lib.hid h1; have H2 := Lib.hid h2; clear h1 h2 hr
      subst hr1
      go_enter Try.func56, Try.ntmps56
      go_wp2_with fail
      refine (areShares_any p A n c xs _ ha hn).mono ?_
      rintro e w1 ⟨rfl, hb1⟩
      rw [H1.out]
      go_wp2_with fail
      refine (areShares_any p B m d ys _ (hb.below hb1 (Nat.le_refl _)) hm).mono ?_
      rintro e w2 ⟨rfl, hb2⟩
      rw [H2.out]
      go_wp2
      go_ret2
      exact RetO.none_ (hb1.trans (hb2.mono hb1.size)) rfl rfl
    | true =>
      obtain ⟨_, _, hm40, hy⟩ := sharesB_bd h2
      by_cases hnm : n = m
      · have hr1 : r = true := by rw [← hr, h1, h2]; simpa using hnm
        subst hnm
        have H1 := Lib.hid h1; have H2 := Lib.hid h2; clear h1 h2 hr
        have hf' := hf hr1
        subst hr1
        have hne : ((n : Int) != n) = false := by simp
        have hpne : ¬ p = 0 := by omega
        go_enter Try.func56, Try.ntmps56
        go_wp2_with fail
        refine (areShares_any p A n c xs _ ha hn).mono ?_
        rintro e w1 ⟨rfl, hb1⟩
        rw [H1.out]
        go_wp2_with fail
        refine (areShares_any p B n d ys _ (hb.below hb1 (Nat.le_refl _)) hm).mono ?_
        rintro e w2 ⟨rfl, hb2⟩
        rw [H2.out]
        have hb3 := hb1.trans (hb2.mono hb1.size)
        have hz3 := hb3.size
        have h0 := Own_new0 w2 w.heap.size hz3
        have hb4 := hb3.alloc hz3 (.cells #[] 3)
        clear hb1 hb2 hb3
        go_wp2
        go_loopw [10, 32] (fun v i wr => ∃ (k : Nat) (A' : Option Addr) (c' : Nat), k ≤ n ∧ i = .int .i64 k ∧ v = .slice A' k c' ∧ Own wr w.heap.size wr.heap.size (.slice A' k c') k (tab k fun i => g (gi xs i) (gi ys i) % p) ∧ Below w.heap.size w wr) (fun _ i _ => n - (intOf i).toNat)
        case atStart => exact ⟨0, _, _, Nat.zero_le _, rfl, rfl, h0.hi_ (by simp), hb4⟩
        case round =>
          clear h0 hb4 hz3
          obtain ⟨k, A', c', hk, rfl, rfl, hown, hbw⟩ := hrel
          by_cases hlt : k < n
          · obtain ⟨b, o, rfl, hbB, c1⟩ := ha.at_ hlt
            obtain ⟨b', o', rfl, hbB', c2⟩ := hb.at_ hlt
            have hsn : Hid (tab (k + 1) (fun i => g (gi xs i) (gi ys i) % p) = tab k (fun i => g (gi xs i) (gi ys i) % p) ++ [g (gi xs k) (gi ys k) % p]) := Lib.hid (tab_snoc k _)
            have hz := hbw.size
            have e1 := (hbw.cell (p := ⟨b, o + k, none⟩) hbB).trans c1
            have e2 := (hbw.cell (p := ⟨b', o' + k, none⟩) hbB').trans c2
            have hb1 : b < wr.heap.size := by omega
            have hb2 : b' < wr.heap.size := by omega
            have hk0 : (0 : Int) ≤ (k : Int) := by omega
            have hk1 : (k : Int) < n := by omega
            obtain ⟨⟨hg1, hg2⟩, hcall⟩ := hf'.out _ (gi_mem (xs := xs) (j := k) (by omega)) _ (gi_mem (xs := ys) (j := k) (by omega)) _ (below_drewN hbw 1)
            have hcall := Lib.hid hcall
            have hmo := emod_eq (a := g (gi xs k) (gi ys k)) (m := p) (by omega)
            generalize gi xs k = X at *
            generalize gi ys k = Y at *
            generalize g X Y = G at *
            have hB0 := Int.emod_nonneg G (show p ≠ 0 by omega)
            have hB1 := Int.emod_lt_of_pos G (show 0 < p by omega)
            have t1 : -p < G.tmod p := Int.lt_tmod_of_pos _ (by omega)
            have t2 : G.tmod p < p := Int.tmod_lt_of_pos _ (by omega)
            have hmo' : (G.tmod p + p).tmod p = G % p := hmo
            generalize G % p = R at *
            have q2 : IntKind.i64.wrap (G.tmod p + p) = G.tmod p + p := IntWalk.i64_in _ (by omega)
            clear hmo hx hy hf hf' ha hb c1 c2 hl hlb
            have hbA := (below_drewN hbw 1).alloc hz (.cells #[.int .i64 R] 3)
            have hownA := (hown.drewN 1).alloc (.cells #[.int .i64 R] 3)
            go_wp2_with fail
            go_region_held3 (fun w' => w'.cell? ⟨b, o + k, none⟩ = some (.int .i64 X) ∧ w'.cell? ⟨b', o' + k, none⟩ = some (.int .i64 Y)) (first | go_keep | (go_split_ands; exact ⟨keep_app hownA hg5 hbB (by assumption), keep_app hownA hg5 hbB' (by assumption)⟩))
              (first | (refine hcall.out.mono ?_; rintro e w' ⟨rfl, rfl⟩) | (refine step_app _ (by rfl) _ _ (by rfl) (by rfl) hownA (by rfl) (RI_new1 _ _ _) (by omega) (by simp; omega) ?_; intro A5 c5 w5 hown5 hg5 hat5))
            have hb5 := below_app hbA hownA hg5 (by simp; omega) (Nat.le_refl _)
            rw [← hsn.out] at hown5
            clear hbA hownA hg5 hat5
            go_wp2
            go_roundw
            case rel => exact ⟨k + 1, _, _, by omega, by go_num, rfl, hown5, hb5⟩
            case measure => simp [intOf]; omega
          · obtain rfl : k = n := by omega
            go_wp2
            go_ret2
            exact RetO.some_ hbw rfl (tab_len _ _) rfl hown
      · have hr1 : r = false := by rw [← hr, h1, h2]; simpa using hnm
        have H1 := Lib.hid h1; have H2 := Lib.hid h2; clear h1 h2 hr
        subst hr1
        have hne : ((n : Int) != m) = true := by simp; omega
        go_enter Try.func56, Try.ntmps56
        go_wp2_with fail
        refine (areShares_any p A n c xs _ ha hn).mono ?_
        rintro e w1 ⟨rfl, hb1⟩
        rw [H1.out]
        go_wp2_with fail
        refine (areShares_any p B m d ys _ (hb.below hb1 (Nat.le_refl _)) hm).mono ?_
        rintro e w2 ⟨rfl, hb2⟩
        rw [H2.out]
        go_wp2
        go_ret2
        exact RetO.none_ (hb1.trans (hb2.mono hb1.size)) rfl rfl

end Go.Proofs.Ythmdgcbhoijmgaa
