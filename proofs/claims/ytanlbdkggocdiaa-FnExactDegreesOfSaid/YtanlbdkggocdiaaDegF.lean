/- Contracts of DegreesOf. -/
import Derived.Test.YtanlbdkggocdiaaDeg
namespace Go.Proofs.Ytanlbdkggocdiaa
open Go.RowKit
set_option linter.unusedVariables false
set_option linter.unusedSimpArgs false

theorem Index_any (A : Option Addr) (n c : Nat) (xs : List Int) (v : Int) (w : World) (ha : RI w A n xs) (hn : n ≤ 2097152) :
    Calls Try.prog 162 #[.slice A n c, .int .i64 v] w fun e w' => e = .returned (.int .i64 (idxP (fun z => decide (z = v)) xs)) ∧ w = w' := by
  have hl := ha.len
  go_enter Try.func162, Try.ntmps162
  go_wp2
  go_loop [8] (fun i => ∃ k : Nat, k ≤ n ∧ i = .int .i64 k ∧ Hid ((xs.take k).any (fun z => decide (z = v)) = false)) (fun i => n - (intOf i).toNat)
  case atStart => exact ⟨0, Nat.zero_le _, rfl, Lib.hid rfl⟩
  case round =>
    obtain ⟨k, hk, rfl, hq⟩ := hrel
    by_cases hlt : k < n
    · obtain ⟨b, o, rfl, hbB, c1⟩ := ha.at_ hlt
      clear ha
      by_cases he : gi xs k = v
      · have HR : Hid (idxP (fun z => decide (z = v)) xs = k) := Lib.hid (idxP_some (by omega) hq.out (by simpa using he))
        rw [he] at c1
        clear he
        have hee : (v == v) = true := by simp
        go_wp2
        go_ret
        exact ⟨by rw [HR.out]; rfl, rfl⟩
      · have hq' : Hid ((xs.take (k + 1)).any (fun z => decide (z = v)) = false) := Lib.hid (any_take_succ (by omega) hq.out (by simpa using he))
        have hee : (v == gi xs k) = false := by simp; exact fun hc => he hc.symm
        clear he
        generalize gi xs k = Y at *
        go_wp2
        go_round
        case rel => exact ⟨k + 1, by omega, by go_num, hq'⟩
        case measure => simp [intOf]; omega
    · obtain rfl : k = n := Nat.le_antisymm hk (Nat.le_of_not_lt hlt)
      have HR : Hid (idxP (fun z => decide (z = v)) xs = -1) := Lib.hid (idxP_none (by have := hq.out; rwa [List.take_of_length_le (by omega)] at this))
      go_wp2
      go_ret
      exact ⟨by rw [HR.out]; rfl, rfl⟩

theorem idxP_nonneg (f : Int → Bool) (xs : List Int) : decide (0 ≤ idxP f xs) = xs.any f := by
  unfold idxP
  cases h : xs.any f with
  | true => simp
  | false => simp
theorem Contains_any (A : Option Addr) (n c : Nat) (xs : List Int) (v : Int) (w : World) (ha : RI w A n xs) (hn : n ≤ 2097152) :
    Calls Try.prog 137 #[.slice A n c, .int .i64 v] w fun e w' => e = .returned (.bool (xs.any fun z => decide (z = v))) ∧ w = w' := by
  have HN := Lib.hid (idxP_nonneg (fun z => decide (z = v)) xs)
  go_enter Try.func137, Try.ntmps137
  go_wp2_with fail
  refine (Index_any A n c xs v _ ha hn).mono ?_
  rintro e w1 ⟨rfl, rfl⟩
  go_wp2
  go_ret
  exact ⟨by rw [← HN.out]; rfl, rfl⟩

set_option maxRecDepth 100000 in
set_option maxHeartbeats 1600000 in
theorem spec_DegreesOf_any (p x y : Int) (Ag : Option Addr) (ng cg : Nat) (Ao : Option Addr) (no co : Nat) (gs : List G3) (os : List Int) (w : World) (hr : RG w Ag ng gs ∧ RI w Ao no os) (hng : ng ≤ 2097152) (hno : no ≤ 2097152) :
    Calls Try.prog 62 #[.agg #[.int .i64 p, .int .i64 x, .int .i64 y, .slice Ag ng cg, .slice Ao no co]] w (RetO w (degF p x y gs os)) := by
  have hB : Below w.heap.size w (w.alloc (.cells #[.int .i64 p, .int .i64 x, .int .i64 y, .slice Ag ng cg, .slice Ao no co] 31)) := (Below.refl _ _).alloc (Nat.le_refl _) _
  have hlg := hr.1.len
  have hlo := hr.2.len
  cases h0 : arB p x y gs os with
  | false =>
    have HR : Hid (degF p x y gs os = none) := Lib.hid (by simp [degF, h0])
    have H0 := Lib.hid h0; clear h0
    go_enter Try.func62, Try.ntmps62
    go_wp2_with fail
    refine (arGood_any p x y Ag ng cg Ao no co gs os _ (hr.1.below hB (Nat.le_refl _)) (hr.2.below hB (Nat.le_refl _)) hng hno).mono ?_
    rintro e v1 ⟨rfl, hb1⟩
    rw [H0.out]
    go_wp2
    go_ret2
    exact RetO.none_ (hB.trans (hb1.mono hB.size)) HR.out rfl
  | true =>
    obtain ⟨b1, b2, b3, b4, b5, b6, b7⟩ := arB_bd h0
    have hx : 0 ≤ x ∧ x ≤ 8 := b2
    have hy : 0 ≤ y ∧ y ≤ 8 := b3
    obtain ⟨X, hX⟩ : ∃ X : Nat, x + y = X := ⟨(x + y).toNat, by omega⟩
    have hXt : (x + y).toNat = X := by omega
    rw [hX, hlg] at b6 b7
    have hgat := b6
    have hos' : allB 0 (((X + ng : Nat) : Int) - 1) os = true := by rw [show (((X + ng : Nat) : Int) - 1) = (X : Int) + ng - 1 from by omega]; exact b7
    have hF : degF p x y gs os = if allB 0 1000000 (degs 2000000 gs X ng) = true then some (pick (degs 2000000 gs X ng) os) else none := by
      unfold degF; rw [h0, hXt, hlg]; simp
    have hll := degs_len 2000000 gs X ng
    have hX16 : X ≤ 16 := by omega
    cases h1 : allB 0 1000000 (degs 2000000 gs X ng) with
    | false =>
      have HR : Hid (degF p x y gs os = none) := Lib.hid (by rw [hF, h1]; rfl)
      have H0 := Lib.hid h0; have H1 := Lib.hid h1; clear h0 h1 hF b1 b2 b3 b6 b7 hos'
      go_enter Try.func62, Try.ntmps62
      go_wp2_with fail
      refine (arGood_any p x y Ag ng cg Ao no co gs os _ (hr.1.below hB (Nat.le_refl _)) (hr.2.below hB (Nat.le_refl _)) hng hno).mono ?_
      rintro e v1 ⟨rfl, hb1⟩
      rw [H0.out]
      obtain ⟨hc1, hf1⟩ := bcell hb1
      have hz1 := hb1.size
      simp only [World.size_alloc] at hz1
      have hz1' : w.heap.size < v1.heap.size := by omega
      have hB1 := hB.trans (hb1.mono hB.size)
      go_wp2_with fail
      refine (arDegrees_any p x y Ag ng cg Ao no co X gs _ (hr.1.below hB1 (Nat.le_refl _)) hx hy hX hgat (by omega)).mono ?_
      rintro e v2 hT
      obtain ⟨A2, c2, rfl, hown2, hb2⟩ := hT.open_ hll
      go_wp2_with fail
      refine (l1All_any A2 (X + ng) c2 0 1000000 _ _ hown2.reads (by omega)).mono ?_
      rintro e v3 ⟨rfl, rfl⟩
      rw [H1.out]
      go_wp2
      go_ret2
      exact RetO.none_ (hB1.trans (hb2.mono hB1.size)) HR.out rfl
    | true =>
      have HR : Hid (degF p x y gs os = some (pick (degs 2000000 gs X ng) os)) := Lib.hid (by rw [hF, h1]; rfl)
      have H0 := Lib.hid h0; have H1 := Lib.hid h1; clear h0 h1 hF b1 b2 b3 b6 b7
      go_enter Try.func62, Try.ntmps62
      go_wp2_with fail
      refine (arGood_any p x y Ag ng cg Ao no co gs os _ (hr.1.below hB (Nat.le_refl _)) (hr.2.below hB (Nat.le_refl _)) hng hno).mono ?_
      rintro e v1 ⟨rfl, hb1⟩
      rw [H0.out]
      have hz1 := hb1.size
      simp only [World.size_alloc] at hz1 hb1
      have hB1 := hB.trans (hb1.mono (by omega))
      have hq0 := boxA_at hb1
      obtain ⟨k0, k1, k2, k3, k4⟩ := hq0
      go_wp2_with fail
      refine (arDegrees_any p x y Ag ng cg Ao no co X gs _ (hr.1.below hB1 (Nat.le_refl _)) hx hy hX hgat (by omega)).mono ?_
      rintro e v2 hT
      obtain ⟨A2, c2, rfl, hown2, hb2⟩ := hT.open_ hll
      have hB2 := hB1.trans (hb2.mono hB1.size)
      have hbx := hb1.trans (hb2.mono (by omega))
      clear k0 k1 k2 k3 k4
      have hq0 := boxA_at hbx
      obtain ⟨k0, k1, k2, k3, k4⟩ := hq0
      go_wp2_with fail
      refine (l1All_any A2 (X + ng) c2 0 1000000 _ _ hown2.reads (by omega)).mono ?_
      rintro e v3 ⟨rfl, rfl⟩
      rw [H1.out]
      have hbd := below_drewN hB2 1
      clear hb1 hb2 hown2
      go_wp2_with fail
      go_region_held3 (fun w' => w'.cell? ⟨w.heap.size, 0, none⟩ = some (.int .i64 p) ∧ w'.cell? ⟨w.heap.size, 1, none⟩ = some (.int .i64 x) ∧ w'.cell? ⟨w.heap.size, 2, none⟩ = some (.int .i64 y) ∧ w'.cell? ⟨w.heap.size, 3, none⟩ = some (.slice Ag ng cg) ∧ w'.cell? ⟨w.heap.size, 4, none⟩ = some (.slice Ao no co))
        (first | go_keep | (go_split_ands; exact ⟨cell_below (by assumption) hb5, cell_below (by assumption) hb5, cell_below (by assumption) hb5, cell_below (by assumption) hb5, cell_below (by assumption) hb5⟩) | (go_split_ands; exact ⟨cell_below (by assumption) hb4, cell_below (by assumption) hb4, cell_below (by assumption) hb4, cell_below (by assumption) hb4, cell_below (by assumption) hb4⟩))
        (first | (go_at_call 135; refine (arDegrees_any p x y Ag ng cg Ao no co X gs _ (hr.1.below hbd (Nat.le_refl _)) hx hy hX hgat (by omega)).mono ?_; rintro e W4 hT; obtain ⟨A4, c4, rfl, ho4, hb4⟩ := hT.open_ hll) | (go_at_call 96; refine (ciPick_any A4 Ao (X + ng) c4 no co (degs 2000000 gs X ng) os _ ho4.reads (hr.2.below (hbd.trans (hb4.mono hbd.size)) (Nat.le_refl _)) (by omega) (by omega) hos').mono ?_; rintro e W5 hT; obtain ⟨A5, c5, rfl, ho5, hb5⟩ := hT.open_ ((pick_len _ _).trans hlo)))
      have hB4 := hbd.trans (hb4.mono hbd.size)
      go_wp2
      go_ret2
      exact RetO.some_ (hB4.trans (hb5.mono hB4.size)) HR.out ((pick_len _ _).trans hlo) rfl (ho5.lo_ hB4.size)

set_option maxRecDepth 100000 in
set_option maxHeartbeats 1600000 in
theorem DegreesOf_any (p x y : Int) (Ag : Option Addr) (ng cg : Nat) (Ao : Option Addr) (no co : Nat) (gs : List G3) (os : List Int) (w : World) (hr : RG w Ag ng gs ∧ RI w Ao no os) (hng : ng ≤ 2097152) (hno : no ≤ 2097152) :
    Calls Try.prog 63 #[.agg #[.int .i64 p, .int .i64 x, .int .i64 y, .slice Ag ng cg, .slice Ao no co]] w (RetO w (degF p x y gs os)) := by
  have hB : Below w.heap.size w (w.alloc (.cells #[.int .i64 p, .int .i64 x, .int .i64 y, .slice Ag ng cg, .slice Ao no co] 31)) := (Below.refl _ _).alloc (Nat.le_refl _) _
  have hlg := hr.1.len
  have hlo := hr.2.len
  cases h0 : arB p x y gs os with
  | false =>
    have HR : Hid (degF p x y gs os = none) := Lib.hid (by simp [degF, h0])
    have H0 := Lib.hid h0; clear h0
    go_enter Try.func63, Try.ntmps63
    go_wp2_with fail
    refine (IsArith_any p x y Ag ng cg Ao no co gs os _ (hr.1.below hB (Nat.le_refl _)) (hr.2.below hB (Nat.le_refl _)) hng hno).mono ?_
    rintro e v1 ⟨rfl, hb1⟩
    rw [H0.out]
    go_wp2
    go_ret2
    exact RetO.none_ (hB.trans (hb1.mono hB.size)) HR.out rfl
  | true =>
    obtain ⟨b1, b2, b3, b4, b5, b6, b7⟩ := arB_bd h0
    have hx : 0 ≤ x ∧ x ≤ 8 := b2
    have hy : 0 ≤ y ∧ y ≤ 8 := b3
    obtain ⟨X, hX⟩ : ∃ X : Nat, x + y = X := ⟨(x + y).toNat, by omega⟩
    have hXt : (x + y).toNat = X := by omega
    rw [hX, hlg] at b6 b7
    have hgat := b6
    have hos' : allB 0 (((X + ng : Nat) : Int) - 1) os = true := by rw [show (((X + ng : Nat) : Int) - 1) = (X : Int) + ng - 1 from by omega]; exact b7
    have hF : degF p x y gs os = if allB 0 1000000 (degs 2000000 gs X ng) = true then some (pick (degs 2000000 gs X ng) os) else none := by
      unfold degF; rw [h0, hXt, hlg]; simp
    have hll := degs_len 1000001 gs X ng
    have hcap := degs_cap (M := 1000001) (N := 2000000) (by omega) (by omega) gs X ng
    have hhas : ((degs 1000001 gs X ng).any fun z => decide (z = 1000001)) = !(allB 0 1000000 (degs 2000000 gs X ng)) := by rw [hcap]; exact cap_has (degs_bd (by omega) gs X ng)
    have hX16 : X ≤ 16 := by omega
    cases h1 : allB 0 1000000 (degs 2000000 gs X ng) with
    | false =>
      have HR : Hid (degF p x y gs os = none) := Lib.hid (by rw [hF, h1]; rfl)
      have H1 : Hid (((degs 1000001 gs X ng).any fun z => decide (z = 1000001)) = true) := Lib.hid (by rw [hhas, h1]; rfl)
      have H0 := Lib.hid h0; clear h0 h1 hF b1 b2 b3 b6 b7 hos' hcap hhas
      go_enter Try.func63, Try.ntmps63
      go_wp2_with fail
      refine (IsArith_any p x y Ag ng cg Ao no co gs os _ (hr.1.below hB (Nat.le_refl _)) (hr.2.below hB (Nat.le_refl _)) hng hno).mono ?_
      rintro e v1 ⟨rfl, hb1⟩
      rw [H0.out]
      obtain ⟨hc1, hf1⟩ := bcell hb1
      have hz1 := hb1.size
      simp only [World.size_alloc] at hz1
      have hz1' : w.heap.size < v1.heap.size := by omega
      have hB1 := hB.trans (hb1.mono hB.size)
      go_wp2_with fail
      refine (Arith_degrees_any p x y Ag ng cg Ao no co X gs _ (hr.1.below hB1 (Nat.le_refl _)) hx hy hX hgat (by omega)).mono ?_
      rintro e v2 hT
      obtain ⟨A2, c2, rfl, hown2, hb2⟩ := hT.open_ hll
      go_wp2_with fail
      refine (Contains_any A2 (X + ng) c2 _ 1000001 _ hown2.reads (by omega)).mono ?_
      rintro e v3 ⟨rfl, rfl⟩
      rw [H1.out]
      go_wp2
      go_ret2
      exact RetO.none_ (hB1.trans (hb2.mono hB1.size)) HR.out rfl
    | true =>
      have HS : Hid (degs 1000001 gs X ng = degs 2000000 gs X ng) := Lib.hid (by rw [hcap]; exact cap_same h1)
      have HR : Hid (degF p x y gs os = some (pick (degs 1000001 gs X ng) os)) := Lib.hid (by rw [hF, h1, HS.out]; rfl)
      have H1 : Hid (((degs 1000001 gs X ng).any fun z => decide (z = 1000001)) = false) := Lib.hid (by rw [hhas, h1]; rfl)
      have H0 := Lib.hid h0; clear h0 h1 hF b1 b2 b3 b6 b7 hcap hhas
      go_enter Try.func63, Try.ntmps63
      go_wp2_with fail
      refine (IsArith_any p x y Ag ng cg Ao no co gs os _ (hr.1.below hB (Nat.le_refl _)) (hr.2.below hB (Nat.le_refl _)) hng hno).mono ?_
      rintro e v1 ⟨rfl, hb1⟩
      rw [H0.out]
      have hz1 := hb1.size
      simp only [World.size_alloc] at hz1 hb1
      have hB1 := hB.trans (hb1.mono (by omega))
      have hq0 := boxA_at hb1
      obtain ⟨k0, k1, k2, k3, k4⟩ := hq0
      go_wp2_with fail
      refine (Arith_degrees_any p x y Ag ng cg Ao no co X gs _ (hr.1.below hB1 (Nat.le_refl _)) hx hy hX hgat (by omega)).mono ?_
      rintro e v2 hT
      obtain ⟨A2, c2, rfl, hown2, hb2⟩ := hT.open_ hll
      have hB2 := hB1.trans (hb2.mono hB1.size)
      have hbx := hb1.trans (hb2.mono (by omega))
      clear k0 k1 k2 k3 k4
      have hq0 := boxA_at hbx
      obtain ⟨k0, k1, k2, k3, k4⟩ := hq0
      go_wp2_with fail
      refine (Contains_any A2 (X + ng) c2 _ 1000001 _ hown2.reads (by omega)).mono ?_
      rintro e v3 ⟨rfl, rfl⟩
      rw [H1.out]
      go_wp2_with fail
      refine (at_any A2 Ao (X + ng) c2 no co (degs 1000001 gs X ng) os _ hown2.reads (hr.2.below hB2 (Nat.le_refl _)) (by omega) (by omega) hos').mono ?_
      rintro e v4 hT
      obtain ⟨A5, c5, rfl, ho5, hb5⟩ := hT.open_ ((pick_len _ _).trans hlo)
      go_wp2
      go_ret2
      exact RetO.some_ (hB2.trans (hb5.mono hB2.size)) HR.out ((pick_len _ _).trans hlo) rfl (ho5.lo_ hB2.size)

end Go.Proofs.Ytanlbdkggocdiaa
