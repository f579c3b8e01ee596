/- Contracts of CountInputs. -/
import Derived.Test.YtanlbdkggocdiaaTable4
import Derived.Test.YtanlbdkggocdiaaAV
namespace Go.Proofs.Ytanlbdkggocdiaa
open Go.RowKit
set_option linter.unusedVariables false
set_option linter.unusedSimpArgs false

theorem boxA_at {w wr : World} {p x y : Int} {Ag : Option Addr} {ng cg : Nat} {Ao : Option Addr} {no co : Nat} {T : TypeId} (hb : Below (w.heap.size + 1) (w.alloc (.cells #[.int .i64 p, .int .i64 x, .int .i64 y, .slice Ag ng cg, .slice Ao no co] T)) wr) : BxA wr w.heap.size p x y Ag ng cg Ao no co :=
  BxA.below (BxA.new _ _) (by simpa using hb)
def lenV : Value → Nat
  | .slice _ n _ => n
  | _ => 0
/-- The first k digits of n, to the base p. -/
def digN (p : Int) (n k : Nat) : List Int := tab k fun i => (n : Int) / p ^ i % p
theorem digN_len (p : Int) (n k : Nat) : (digN p n k).length = k := tab_len _ _
theorem digN_snoc (p : Int) (n k : Nat) : digN p n (k + 1) = digN p n k ++ [(n : Int) / p ^ k % p] := tab_snoc _ _
theorem digN_bd {p : Int} (hp : 2 ≤ p) (n k : Nat) : allB 0 (p - 1) (digN p n k) = true := allB_iff.2 fun z hz => by
  obtain ⟨j, _, rfl⟩ := mem_tab hz
  have h1 := Int.emod_nonneg ((n : Int) / p ^ j) (show p ≠ 0 by omega)
  have h2 := Int.emod_lt_of_pos ((n : Int) / p ^ j) (show 0 < p by omega)
  omega
theorem pow_pos_ {p : Int} (hp : 2 ≤ p) (k : Nat) : 1 ≤ p ^ k := by
  induction k with
  | zero => simp
  | succ k ih =>
    rw [Int.pow_succ]
    have := Int.mul_le_mul ih (show (1 : Int) ≤ p by omega) (by omega) (by omega)
    omega
theorem pow_mono_ {p : Int} (hp : 2 ≤ p) {i k : Nat} (h : i ≤ k) : p ^ i ≤ p ^ k := by
  induction k with
  | zero => 
    obtain rfl : i = 0 := by omega
    exact Int.le_refl _
  | succ k ih =>
    rcases Nat.lt_or_ge k i with h1 | h1
    · obtain rfl : i = k + 1 := by omega
      exact Int.le_refl _
    · have h2 := ih h1
      have h3 := pow_pos_ hp k
      rw [Int.pow_succ]
      have := Int.mul_le_mul (Int.le_refl (p ^ k)) (show (1 : Int) ≤ p by omega) (by omega) (by omega)
      omega
theorem dig_next {p : Int} (hp : 2 ≤ p) (n i : Nat) : (n : Int) / p ^ (i + 1) = (n : Int) / p ^ i / p := by
  rw [Int.pow_succ, Int.ediv_ediv_of_nonneg (by have := pow_pos_ hp i; omega)]
theorem dig_bd {p : Int} (hp : 2 ≤ p) (n i : Nat) : 0 ≤ (n : Int) / p ^ i ∧ (n : Int) / p ^ i ≤ n := by
  have := pow_pos_ hp i
  exact ⟨Int.ediv_nonneg (by omega) (by omega), Int.ediv_le_self _ (by omega)⟩
/-- How many of the first m numbers pass. -/
def cntB (f : Nat → Bool) : Nat → Int
  | 0 => 0
  | m + 1 => cntB f m + (if f m then 1 else 0)
theorem cntB_bd (f : Nat → Bool) (m : Nat) : 0 ≤ cntB f m ∧ cntB f m ≤ m := by
  induction m with
  | zero => simp [cntB]
  | succ m ih => simp only [cntB]; split <;> omega
theorem cntB_t {f : Nat → Bool} {m : Nat} (h : f m = true) : cntB f (m + 1) = cntB f m + 1 := by simp [cntB, h]
theorem cntB_f {f : Nat → Bool} {m : Nat} (h : f m = false) : cntB f (m + 1) = cntB f m := by simp [cntB, h]
/-- The n-th inputs give these outs. -/
def hitB (p : Int) (gs : List G3) (os ts : List Int) (X n : Nat) : Bool := sameB (pick (avals p gs (digN p n X) gs.length) os) ts
def countF (p x y : Int) (gs : List G3) (os ts : List Int) : Option Int :=
  if arB p x y gs os && (decide (ts.length = os.length) && (elemsB p ts && decide (p ^ (x + y).toNat ≤ 20000))) then some (cntB (hitB p gs os ts (x + y).toNat) (p ^ (x + y).toNat).toNat) else none

set_option maxRecDepth 100000 in
set_option maxHeartbeats 1600000 in
theorem spec_CountInputs_any (p x y : Int) (Ag : Option Addr) (ng cg : Nat) (Ao : Option Addr) (no co : Nat) (A : Option Addr) (n c : Nat) (gs : List G3) (os ts : List Int) (w : World) (hr : RG w Ag ng gs ∧ RI w Ao no os) (hng : ng ≤ 2097152) (hno : no ≤ 2097152) (ha : RI w A n ts) (hn : n ≤ 2097152) :
    Calls Try.prog 52 #[.agg #[.int .i64 p, .int .i64 x, .int .i64 y, .slice Ag ng cg, .slice Ao no co], .slice A n c] w (RetZO w (countF p x y gs os ts)) := by
  have hB : Below w.heap.size w (w.alloc (.cells #[.int .i64 p, .int .i64 x, .int .i64 y, .slice Ag ng cg, .slice Ao no co] 31)) := (Below.refl _ _).alloc (Nat.le_refl _) _
  have hlg := hr.1.len
  have hlo := hr.2.len
  have hlt_ := ha.len
  cases h0 : arB p x y gs os with
  | false =>
    have HR : Hid (countF p x y gs os ts = none) := Lib.hid (by simp [countF, h0])
    have H0 := Lib.hid h0; clear h0
    go_enter Try.func52, Try.ntmps52
    go_wp2_with fail
    refine (arGood_any p x y Ag ng cg Ao no co gs os _ (hr.1.below hB (Nat.le_refl _)) (hr.2.below hB (Nat.le_refl _)) hng hno).mono ?_
    rintro e v1 ⟨rfl, hb1⟩
    rw [H0.out]
    go_wp2
    go_ret2
    exact RetZO.none_ (hB.trans (hb1.mono hB.size)) HR.out rfl
  | true =>
    by_cases hl : n = no
    rotate_left
    · have HR : Hid (countF p x y gs os ts = none) := Lib.hid (by simp [countF, hlt_, hlo, hl])
      have hl' : ((n : Int) != no) = true := by simp; omega
      have H0 := Lib.hid h0; clear h0
      go_enter Try.func52, Try.ntmps52
      go_wp2_with fail
      refine (arGood_any p x y Ag ng cg Ao no co gs os _ (hr.1.below hB (Nat.le_refl _)) (hr.2.below hB (Nat.le_refl _)) hng hno).mono ?_
      rintro e v1 ⟨rfl, hb1⟩
      rw [H0.out]
      obtain ⟨hc1, hf1⟩ := bcell hb1
      have hz1 := hb1.size
      simp only [World.size_alloc] at hz1
      have hz1' : w.heap.size < v1.heap.size := by omega
      have hB1 := hB.trans (hb1.mono hB.size)
      go_wp2
      go_ret2
      exact RetZO.none_ hB1 HR.out rfl
    have hl' : ((n : Int) != no) = false := by simp; omega
    have HL := Lib.hid hl; clear hl
    cases h2 : elemsB p ts with
    | false =>
      have HR : Hid (countF p x y gs os ts = none) := Lib.hid (by simp [countF, h2])
      have H0 := Lib.hid h0; have H2 := Lib.hid h2; clear h0 h2
      go_enter Try.func52, Try.ntmps52
      go_wp2_with fail
      refine (arGood_any p x y Ag ng cg Ao no co gs os _ (hr.1.below hB (Nat.le_refl _)) (hr.2.below hB (Nat.le_refl _)) hng hno).mono ?_
      rintro e v1 ⟨rfl, hb1⟩
      rw [H0.out]
      obtain ⟨hc1, hf1⟩ := bcell hb1
      have hz1 := hb1.size
      simp only [World.size_alloc] at hz1
      have hz1' : w.heap.size < v1.heap.size := by omega
      have hB1 := hB.trans (hb1.mono hB.size)
      go_wp2_with fail
      refine (fpIn_any p A n c ts _ (ha.below hB1 (Nat.le_refl _)) hn).mono ?_
      rintro e v2 ⟨rfl, rfl⟩
      rw [H2.out]
      go_wp2
      go_ret2
      exact RetZO.none_ hB1 HR.out rfl
    | true =>
      obtain ⟨b1, b2, b3, b4, b5, b6, b7⟩ := arB_bd h0
      obtain ⟨p2, p251⟩ := primeB_bd b1
      have hx : 0 ≤ x ∧ x ≤ 8 := b2
      have hy : 0 ≤ y ∧ y ≤ 8 := b3
      obtain ⟨X, hX⟩ : ∃ X : Nat, x + y = X := ⟨(x + y).toNat, by omega⟩
      have hXt : (x + y).toNat = X := by omega
      rw [hX, hlg] at b6 b7
      have hX16 : X ≤ 16 := by omega
      have HF : Hid (countF p x y gs os ts = if p ^ X ≤ 20000 then some (cntB (hitB p gs os ts X) (p ^ X).toNat) else none) := Lib.hid (by
        unfold countF; rw [hXt, h0, h2]; by_cases h : p ^ X ≤ 20000 <;> simp [hlt_, hlo, HL.out, h])
      have hos' : allB 0 (((X + ng : Nat) : Int) - 1) os = true := by rw [show (((X + ng : Nat) : Int) - 1) = (X : Int) + ng - 1 from by omega]; exact b7
      have hp0 : ¬ p = 0 := by omega
      have HH := Lib.hid fun j => show hitB p gs os ts X j = sameB (pick (avals p gs (digN p j X) ng) os) ts from by rw [hitB, hlg]
      have HVL := Lib.hid fun j => show (avals p gs (digN p j X) ng).length = X + ng from by rw [avals_len, digN_len]
      have HS := Lib.hid fun i => Int.pow_succ p i
      have HP := Lib.hid fun i => pow_pos_ p2 i
      have HM := Lib.hid fun i (h : i ≤ X) => pow_mono_ p2 h
      have HD := Lib.hid fun j i => dig_bd p2 j i
      have HN := Lib.hid fun j i => dig_next p2 j i
      have HC := Lib.hid fun j => cntB_bd (hitB p gs os ts X) j
      have hgt := b6
      have H0 := Lib.hid h0; have H2 := Lib.hid h2; clear h0 h2 b1 b2 b3 b6 b7
      go_enter Try.func52, Try.ntmps52
      go_wp2_with fail
      refine (arGood_any p x y Ag ng cg Ao no co gs os _ (hr.1.below hB (Nat.le_refl _)) (hr.2.below hB (Nat.le_refl _)) hng hno).mono ?_
      rintro e v1 ⟨rfl, hb1⟩
      rw [H0.out]
      obtain ⟨hc1, hf1⟩ := bcell hb1
      have hz1 := hb1.size
      simp only [World.size_alloc] at hz1
      have hz1' : w.heap.size < v1.heap.size := by omega
      have hB1 := hB.trans (hb1.mono hB.size)
      simp only [World.size_alloc] at hb1
      go_wp2_with fail
      refine (fpIn_any p A n c ts _ (ha.below hB1 (Nat.le_refl _)) hn).mono ?_
      rintro e v2 ⟨rfl, rfl⟩
      rw [H2.out]
      have hbx := hb1
      clear hc1 hf1 hb1
      go_wp2_with fail
      go_loopw [6, 7] (fun a i wr => ∃ k : Nat, k ≤ X ∧ i = .int .i64 k ∧ a = .int .i64 (p ^ k) ∧ Hid (p ^ k ≤ 20000) ∧ Below (w.heap.size + 1) (w.alloc (.cells #[.int .i64 p, .int .i64 x, .int .i64 y, .slice Ag ng cg, .slice Ao no co] 31)) wr) (fun _ i _ => X - (intOf i).toNat)
      case atStart => exact ⟨0, Nat.zero_le _, rfl, by simp, Lib.hid (by simp), hbx⟩
      case round =>
        clear hbx
        obtain ⟨k, hk, rfl, rfl, hle, hb⟩ := hrel
        have hz := hb.size
        simp only [World.size_alloc] at hz
        obtain ⟨k0, k1, k2, k3, k4⟩ := boxA_at hb
        go_wp2_with fail
        refine (arInputs_any p x y Ag ng cg Ao no co _ hx hy).mono ?_
        rintro e w0 ⟨rfl, hb0⟩
        rw [hX]
        have hb' := hb.trans (hb0.mono hz)
        have hz0 := hb0.size
        clear k0 k1 k2 k3 k4 hb hb0
        obtain ⟨k0, k1, k2, k3, k4⟩ := boxA_at hb'
        have hbw : Below w.heap.size w w0 := hB.trans (hb'.mono (by omega))
        by_cases hlt : k < X
        · have hs := Lib.hid (HS.out k)
          have h1 := HP.out k
          have h2 := hle.out
          have hm := Lib.hid (HM.out (k + 1) hlt)
          generalize p ^ k = z at *
          have m0 : 0 ≤ z * p := Int.mul_nonneg (by omega) (by omega)
          have m1 : z * p ≤ 5020000 := by
            have := Int.mul_le_mul (show z ≤ 20000 by omega) (show p ≤ 251 by omega) (by omega) (by omega)
            omega
          by_cases hbig : z * p ≤ 20000
          · have hle' : Hid (p ^ (k + 1) ≤ 20000) := Lib.hid (by rw [hs.out]; exact hbig)
            go_wp2
            go_roundw
            case rel => exact ⟨k + 1, by omega, by go_num, by rw [hs.out], hle', hb'⟩
            case measure => simp [intOf]; omega
          · have HR : Hid (countF p x y gs os ts = none) := Lib.hid (by
              have hm' := hm.out
              rw [hs.out] at hm'
              rw [HF.out, if_neg (by omega)])
            go_wp2
            go_ret2
            exact RetZO.none_ hbw HR.out rfl
        · obtain rfl : k = X := Nat.le_antisymm hk (Nat.le_of_not_lt hlt)
          have hXk := hle.out
          have hX1 := HP.out k
          have HR : Hid (countF p x y gs os ts = some (cntB (hitB p gs os ts k) (p ^ k).toNat)) := Lib.hid (by rw [HF.out, if_pos hXk])
          obtain ⟨M, hM⟩ := Int.eq_ofNat_of_zero_le (show 0 ≤ p ^ k by omega)
          rw [hM] at HR hXk hX1
          rw [Int.toNat_natCast] at HR
          rw [hM]
          clear hM HF
          have hst := Below.refl w0.heap.size w0
          go_wp2_with fail
          go_loopw [8, 9] (fun a i wr => ∃ j : Nat, j ≤ M ∧ i = .int .i64 j ∧ a = .int .i64 (cntB (hitB p gs os ts k) j) ∧ Below w0.heap.size w0 wr) (fun _ i _ => M - (intOf i).toNat)
          case atStart => exact ⟨0, Nat.zero_le _, rfl, rfl, hst⟩
          case round =>
            clear hst
            obtain ⟨j, hj, rfl, rfl, hb2⟩ := hrel
            have hbr := hb'.trans (hb2.mono (by omega))
            have hbq : Below w.heap.size w wr := hbw.trans (hb2.mono hbw.size)
            by_cases hltj : j < M
            · obtain ⟨cb1, cb2⟩ := HC.out j
              have hct := Lib.hid fun h => cntB_t (f := hitB p gs os ts k) (m := j) h
              have hcf := Lib.hid fun h => cntB_f (f := hitB p gs os ts k) (m := j) h
              generalize cntB (hitB p gs os ts k) j = S at *
              have hq0 := boxA_at hbr
              obtain ⟨k0, k1, k2, k3, k4⟩ := hq0
              have hz2 := hb2.size
              have hst3 := And.intro (Own.none_ wr wr.heap.size wr.heap.size) (Below.refl wr.heap.size wr)
              go_wp2_with fail
              go_loopw [10, 11, 12] (fun v b z wq => ∃ (i : Nat) (A' : Option Addr) (c' : Nat), i ≤ k ∧ b = .int .i64 i ∧ z = .int .i64 ((j : Int) / p ^ i) ∧ v = .slice A' i c' ∧ Own wq wr.heap.size wq.heap.size (.slice A' i c') i (digN p j i) ∧ Below wr.heap.size wr wq) (fun _ b _ _ => k - (intOf b).toNat)
              case atStart => exact ⟨0, _, _, Nat.zero_le _, rfl, by simp, rfl, by simpa [digN, tab_zero] using hst3.1, hst3.2⟩
              case round =>
                clear hst3
                obtain ⟨i, A', c', hi, rfl, rfl, rfl, hown, hb3⟩ := hrel
                have hz3 := hb3.size
                have hbs := hbr.trans (hb3.mono (by have := hbr.size; simpa using this))
                have hq0 := boxA_at hbs
                obtain ⟨k0, k1, k2, k3, k4⟩ := hq0
                go_wp2_with fail
                refine (arInputs_any p x y Ag ng cg Ao no co _ hx hy).mono ?_
                rintro e w5 ⟨rfl, hb5⟩
                rw [hX]
                have hz5 := hb5.size
                have hb6 := hb3.trans (hb5.mono hz3)
                have hown6 := (hown.below hb5 (.inl (Nat.le_refl _))).now
                have hbt := hbs.trans (hb5.mono (by have := hbs.size; simpa using this))
                clear k0 k1 k2 k3 k4 hown hb3 hb5 hbs
                have hq0 := boxA_at hbt
                obtain ⟨k0, k1, k2, k3, k4⟩ := hq0
                have hbu : Below w.heap.size w w5 := hbq.trans (hb6.mono hbq.size)
                by_cases hlti : i < k
                · obtain ⟨d1, d2⟩ := HD.out j i
                  have hsn : Hid (digN p j (i + 1) = digN p j i ++ [(j : Int) / p ^ i % p]) := Lib.hid (digN_snoc p j i)
                  have hnx := Lib.hid (HN.out j i)
                  generalize (j : Int) / p ^ i = z at *
                  have hownA := hown6.alloc (.cells #[.int .i64 (z % p)] 3)
                  have hbA := hb6.alloc (by omega) (.cells #[.int .i64 (z % p)] 3)
                  have hbB : Below w5.heap.size w5 (w5.alloc (.cells #[.int .i64 (z % p)] 3)) := (Below.refl _ _).alloc (Nat.le_refl _) _
                  have l0 := cell_below k0 hbB
                  have l1 := cell_below k1 hbB
                  have l2 := cell_below k2 hbB
                  have l3 := cell_below k3 hbB
                  have l4 := cell_below k4 hbB
                  have hf7 := hown6.from_
                  have hz9 := hbr.size
                  simp only [World.size_alloc] at hz9
                  go_wp2_with (at_builtin; refine wpList_appI _ rfl _ _ rfl rfl hownA rfl (RI_one _ _ _ _ (by simp)) (by omega) (by first | omega | (simp; done) | (simp; omega)) ?_; intro A7 c7 w7 hown7 hg7 hat7 hk7; have n0 := hk7 _ _ _ l0 (fun g9 hg9 he9 => by have := hf7 _ hg9; omega))
                  have hb7 := below_app hbA hownA hg7 (by simp; omega) (Nat.le_refl _)
                  rw [← hsn.out] at hown7
                  clear hownA hbA hg7 hat7 hown6 hb6 hbB l0 l1 l2 l3 l4 k0 k1 k2 k3 k4 hk7
                  go_wp2
                  go_roundw
                  case rel => exact ⟨i + 1, _, _, by omega, by go_num, by rw [hnx.out], rfl, hown7, hb7⟩
                  case measure => simp [intOf]; omega
                · obtain rfl : i = k := Nat.le_antisymm hi (Nat.le_of_not_lt hlti)
                  have hin := digN_bd p2 j i
                  have hbd := below_drewN hbu 1
                  have hvl := HVL.out j
                  have hOl : (pick (avals p gs (digN p j i) ng) os).length = no := by rw [pick_len, hlo]
                  have hHj := HH.out j
                  obtain ⟨O, hO⟩ : ∃ O, Hid (pick (avals p gs (digN p j i) ng) os = O) := ⟨_, rfl⟩
                  rw [hO.out] at hOl hHj
                  cases hs0 : hitB p gs os ts i j with
                  | true =>
                    have hc1 := Lib.hid (hct.out hs0)
                    rw [hHj] at hs0
                    have HS0 := Lib.hid hs0; clear hs0 hct hcf
                    go_wp2_with fail
                    go_region_held3 (fun w' => w'.cell? ⟨w.heap.size, 0, none⟩ = some (.int .i64 p) ∧ w'.cell? ⟨w.heap.size, 1, none⟩ = some (.int .i64 x) ∧ w'.cell? ⟨w.heap.size, 2, none⟩ = some (.int .i64 y) ∧ w'.cell? ⟨w.heap.size, 3, none⟩ = some (.slice Ag ng cg) ∧ w'.cell? ⟨w.heap.size, 4, none⟩ = some (.slice Ao no co))
                      (first | go_keep | (go_split_ands; exact ⟨cell_below (by assumption) hb9, cell_below (by assumption) hb9, cell_below (by assumption) hb9, cell_below (by assumption) hb9, cell_below (by assumption) hb9⟩) | (go_split_ands; exact ⟨cell_below (by assumption) hb8, cell_below (by assumption) hb8, cell_below (by assumption) hb8, cell_below (by assumption) hb8, cell_below (by assumption) hb8⟩))
                      (first | (go_at_call 71; refine (arValues_any p x y Ag ng cg Ao no co _ i _ gs (digN p j i) _ (hr.1.below hbd (Nat.le_refl _)) (hown6.drewN 1).reads ⟨p2, p251⟩ hin hgt (by omega) (by omega)).mono ?_; rintro e W8 hT; obtain ⟨A8, c8, rfl, ho8, hb8⟩ := hT.open_ hvl) | (go_at_call 96; refine (ciPick_any A8 Ao (i + ng) c8 no co (avals p gs (digN p j i) ng) os _ ho8.reads (hr.2.below (hbd.trans (hb8.mono hbd.size)) (Nat.le_refl _)) (by omega) (by omega) hos').mono ?_; rintro e W9 hT; rw [hO.out] at hT; obtain ⟨A9, c9, rfl, ho9, hb9⟩ := hT.open_ hOl) | (go_at_call 124; refine (l1Same_any A9 A no c9 n c O ts _ ho9.reads (ha.below ((hbd.trans (hb8.mono hbd.size)).trans (hb9.mono (hbd.trans (hb8.mono hbd.size)).size)) (Nat.le_refl _)) (by omega) hn).mono ?_; rintro e W5 ⟨he, j5, rfl⟩; rw [HS0.out] at he; obtain rfl := he))
                    have hbz := hb2.trans ((hb6.trans ((below_drewN (bnext (bnext (below_of_drewN 1) hb8) hb9) j5).mono hb6.size)).mono (by omega))
                    clear hb8 hb9 ho8 ho9 hown6 hb6 hbd hbt
                    go_wp2
                    go_roundw
                    case rel => exact ⟨j + 1, by omega, by go_num, by rw [hc1.out], hbz⟩
                    case measure => simp [intOf]; omega
                  | false =>
                    have hc1 := Lib.hid (hcf.out hs0)
                    rw [hHj] at hs0
                    have HS0 := Lib.hid hs0; clear hs0 hct hcf
                    go_wp2_with fail
                    go_region_held3 (fun w' => w'.cell? ⟨w.heap.size, 0, none⟩ = some (.int .i64 p) ∧ w'.cell? ⟨w.heap.size, 1, none⟩ = some (.int .i64 x) ∧ w'.cell? ⟨w.heap.size, 2, none⟩ = some (.int .i64 y) ∧ w'.cell? ⟨w.heap.size, 3, none⟩ = some (.slice Ag ng cg) ∧ w'.cell? ⟨w.heap.size, 4, none⟩ = some (.slice Ao no co))
                      (first | go_keep | (go_split_ands; exact ⟨cell_below (by assumption) hb9, cell_below (by assumption) hb9, cell_below (by assumption) hb9, cell_below (by assumption) hb9, cell_below (by assumption) hb9⟩) | (go_split_ands; exact ⟨cell_below (by assumption) hb8, cell_below (by assumption) hb8, cell_below (by assumption) hb8, cell_below (by assumption) hb8, cell_below (by assumption) hb8⟩))
                      (first | (go_at_call 71; refine (arValues_any p x y Ag ng cg Ao no co _ i _ gs (digN p j i) _ (hr.1.below hbd (Nat.le_refl _)) (hown6.drewN 1).reads ⟨p2, p251⟩ hin hgt (by omega) (by omega)).mono ?_; rintro e W8 hT; obtain ⟨A8, c8, rfl, ho8, hb8⟩ := hT.open_ hvl) | (go_at_call 96; refine (ciPick_any A8 Ao (i + ng) c8 no co (avals p gs (digN p j i) ng) os _ ho8.reads (hr.2.below (hbd.trans (hb8.mono hbd.size)) (Nat.le_refl _)) (by omega) (by omega) hos').mono ?_; rintro e W9 hT; rw [hO.out] at hT; obtain ⟨A9, c9, rfl, ho9, hb9⟩ := hT.open_ hOl) | (go_at_call 124; refine (l1Same_any A9 A no c9 n c O ts _ ho9.reads (ha.below ((hbd.trans (hb8.mono hbd.size)).trans (hb9.mono (hbd.trans (hb8.mono hbd.size)).size)) (Nat.le_refl _)) (by omega) hn).mono ?_; rintro e W5 ⟨he, j5, rfl⟩; rw [HS0.out] at he; obtain rfl := he))
                    have hbz := hb2.trans ((hb6.trans ((below_drewN (bnext (bnext (below_of_drewN 1) hb8) hb9) j5).mono hb6.size)).mono (by omega))
                    clear hb8 hb9 ho8 ho9 hown6 hb6 hbd hbt
                    go_wp2
                    go_roundw
                    case rel => exact ⟨j + 1, by omega, by go_num, by rw [hc1.out], hbz⟩
                    case measure => simp [intOf]; omega
            · obtain rfl : j = M := Nat.le_antisymm hj (Nat.le_of_not_lt hltj)
              go_wp2
              go_ret2
              exact RetZO.some_ hbq HR.out rfl

set_option maxRecDepth 100000 in
set_option maxHeartbeats 1600000 in
theorem CountInputs_any (p x y : Int) (Ag : Option Addr) (ng cg : Nat) (Ao : Option Addr) (no co : Nat) (A : Option Addr) (n c : Nat) (gs : List G3) (os ts : List Int) (w : World) (hr : RG w Ag ng gs ∧ RI w Ao no os) (hng : ng ≤ 2097152) (hno : no ≤ 2097152) (ha : RI w A n ts) (hn : n ≤ 2097152) :
    Calls Try.prog 53 #[.agg #[.int .i64 p, .int .i64 x, .int .i64 y, .slice Ag ng cg, .slice Ao no co], .slice A n c] w (RetZO w (countF p x y gs os ts)) := by
  have hB : Below w.heap.size w (w.alloc (.cells #[.int .i64 p, .int .i64 x, .int .i64 y, .slice Ag ng cg, .slice Ao no co] 31)) := (Below.refl _ _).alloc (Nat.le_refl _) _
  have hlg := hr.1.len
  have hlo := hr.2.len
  have hlt_ := ha.len
  cases h0 : arB p x y gs os with
  | false =>
    have HR : Hid (countF p x y gs os ts = none) := Lib.hid (by simp [countF, h0])
    have H0 := Lib.hid h0; clear h0
    go_enter Try.func53, Try.ntmps53
    go_wp2_with fail
    refine (IsArith_any p x y Ag ng cg Ao no co gs os _ (hr.1.below hB (Nat.le_refl _)) (hr.2.below hB (Nat.le_refl _)) hng hno).mono ?_
    rintro e v1 ⟨rfl, hb1⟩
    rw [H0.out]
    go_wp2
    go_ret2
    exact RetZO.none_ (hB.trans (hb1.mono hB.size)) HR.out rfl
  | true =>
    cases h2 : elemsB p ts with
    | false =>
      have HR : Hid (countF p x y gs os ts = none) := Lib.hid (by simp [countF, h2])
      have H0 := Lib.hid h0; have H2 := Lib.hid h2; clear h0 h2
      go_enter Try.func53, Try.ntmps53
      go_wp2_with fail
      refine (IsArith_any p x y Ag ng cg Ao no co gs os _ (hr.1.below hB (Nat.le_refl _)) (hr.2.below hB (Nat.le_refl _)) hng hno).mono ?_
      rintro e v1 ⟨rfl, hb1⟩
      rw [H0.out]
      obtain ⟨hc1, hf1⟩ := bcell hb1
      have hz1 := hb1.size
      simp only [World.size_alloc] at hz1
      have hz1' : w.heap.size < v1.heap.size := by omega
      have hB1 := hB.trans (hb1.mono hB.size)
      go_wp2_with fail
      refine (areElements_any p A n c ts _ (ha.below hB1 (Nat.le_refl _)) hn).mono ?_
      rintro e v2 ⟨rfl, hb2⟩
      rw [H2.out]
      go_wp2
      go_ret2
      exact RetZO.none_ (hB1.trans (hb2.mono hB1.size)) HR.out rfl
    | true =>
      by_cases hl : n = no
      rotate_left
      · have HR : Hid (countF p x y gs os ts = none) := Lib.hid (by simp [countF, hlt_, hlo, hl])
        have hl' : ((n : Int) != no) = true := by simp; omega
        have H0 := Lib.hid h0; have H2 := Lib.hid h2; clear h0 h2
        go_enter Try.func53, Try.ntmps53
        go_wp2_with fail
        refine (IsArith_any p x y Ag ng cg Ao no co gs os _ (hr.1.below hB (Nat.le_refl _)) (hr.2.below hB (Nat.le_refl _)) hng hno).mono ?_
        rintro e v1 ⟨rfl, hb1⟩
        rw [H0.out]
        obtain ⟨hc1, hf1⟩ := bcell hb1
        have hz1 := hb1.size
        simp only [World.size_alloc] at hz1
        have hz1' : w.heap.size < v1.heap.size := by omega
        have hB1 := hB.trans (hb1.mono hB.size)
        go_wp2_with fail
        refine (areElements_any p A n c ts _ (ha.below hB1 (Nat.le_refl _)) hn).mono ?_
        rintro e v2 ⟨rfl, hb2⟩
        rw [H2.out]
        obtain ⟨hc2, hf2⟩ := bcell hb2
        have hz2 := hb2.size
        have hz2' : w.heap.size < v2.heap.size := by omega
        go_wp2
        go_ret2
        exact RetZO.none_ (hB1.trans (hb2.mono hB1.size)) HR.out rfl
      have hl' : ((n : Int) != no) = false := by simp; omega
      have HL := Lib.hid hl; clear hl
      obtain ⟨b1, b2, b3, b4, b5, b6, b7⟩ := arB_bd h0
      obtain ⟨p2, p251⟩ := primeB_bd b1
      have hx : 0 ≤ x ∧ x ≤ 8 := b2
      have hy : 0 ≤ y ∧ y ≤ 8 := b3
      obtain ⟨X, hX⟩ : ∃ X : Nat, x + y = X := ⟨(x + y).toNat, by omega⟩
      have hXt : (x + y).toNat = X := by omega
      rw [hX, hlg] at b6 b7
      have hX16 : X ≤ 16 := by omega
      have HF : Hid (countF p x y gs os ts = if p ^ X ≤ 20000 then some (cntB (hitB p gs os ts X) (p ^ X).toNat) else none) := Lib.hid (by
        unfold countF; rw [hXt, h0, h2]; by_cases h : p ^ X ≤ 20000 <;> simp [hlt_, hlo, HL.out, h])
      have hos' : allB 0 (((X + ng : Nat) : Int) - 1) os = true := by rw [show (((X + ng : Nat) : Int) - 1) = (X : Int) + ng - 1 from by omega]; exact b7
      have hp0 : ¬ p = 0 := by omega
      have HH := Lib.hid fun j => show hitB p gs os ts X j = sameB (pick (avals p gs (digN p j X) ng) os) ts from by rw [hitB, hlg]
      have HVL := Lib.hid fun j => show (avals p gs (digN p j X) ng).length = X + ng from by rw [avals_len, digN_len]
      have HS := Lib.hid fun i => Int.pow_succ p i
      have HP := Lib.hid fun i => pow_pos_ p2 i
      have HM := Lib.hid fun i (h : i ≤ X) => pow_mono_ p2 h
      have HD := Lib.hid fun j i => dig_bd p2 j i
      have HN := Lib.hid fun j i => dig_next p2 j i
      have HC := Lib.hid fun j => cntB_bd (hitB p gs os ts X) j
      have hgt := b6
      have H0 := Lib.hid h0; have H2 := Lib.hid h2; clear h0 h2 b1 b2 b3 b6 b7
      go_enter Try.func53, Try.ntmps53
      go_wp2_with fail
      refine (IsArith_any p x y Ag ng cg Ao no co gs os _ (hr.1.below hB (Nat.le_refl _)) (hr.2.below hB (Nat.le_refl _)) hng hno).mono ?_
      rintro e v1 ⟨rfl, hb1⟩
      rw [H0.out]
      obtain ⟨hc1, hf1⟩ := bcell hb1
      have hz1 := hb1.size
      simp only [World.size_alloc] at hz1
      have hz1' : w.heap.size < v1.heap.size := by omega
      have hB1 := hB.trans (hb1.mono hB.size)
      simp only [World.size_alloc] at hb1
      go_wp2_with fail
      refine (areElements_any p A n c ts _ (ha.below hB1 (Nat.le_refl _)) hn).mono ?_
      rintro e v2 ⟨rfl, hb2⟩
      rw [H2.out]
      have hb' := hb1.trans (hb2.mono hz1)
      have hz2 := hb2.size
      clear hc1 hf1 hb1 hb2
      obtain ⟨k0, k1, k2, k3, k4⟩ := boxA_at hb'
      go_wp2_with fail
      refine (Arith_inputs_any p x y Ag ng cg Ao no co _ hx hy).mono ?_
      rintro e v3 ⟨rfl, hb3⟩
      rw [hX]
      have hbx := hb'.trans (hb3.mono (by omega))
      have hz3 := hb3.size
      clear k0 k1 k2 k3 k4 hb' hb3
      have hq0 := boxA_at hbx
      obtain ⟨k0, k1, k2, k3, k4⟩ := hq0
      have hbw : Below w.heap.size w v3 := hB.trans (hbx.mono (by omega))
      go_wp2_with fail
      go_loop [6, 31] (fun a i => ∃ k : Nat, k ≤ X ∧ i = .int .i64 k ∧ a = .int .i64 (p ^ k) ∧ Hid (p ^ k ≤ 20000)) (fun _ i => X - (intOf i).toNat)
      case atStart => exact ⟨0, Nat.zero_le _, rfl, by simp, Lib.hid (by simp)⟩
      case round =>
        obtain ⟨k, hk, rfl, rfl, hle⟩ := hrel
        by_cases hlt : k < X
        · have hs := Lib.hid (HS.out k)
          have h1 := HP.out k
          have h2 := hle.out
          have hm := Lib.hid (HM.out (k + 1) hlt)
          generalize p ^ k = z at *
          have m0 : 0 ≤ z * p := Int.mul_nonneg (by omega) (by omega)
          have m1 : z * p ≤ 5020000 := by
            have := Int.mul_le_mul (show z ≤ 20000 by omega) (show p ≤ 251 by omega) (by omega) (by omega)
            omega
          by_cases hbig : z * p ≤ 20000
          · have hle' : Hid (p ^ (k + 1) ≤ 20000) := Lib.hid (by rw [hs.out]; exact hbig)
            go_wp2
            go_round
            case rel => exact ⟨k + 1, by omega, by go_num, by rw [hs.out], hle'⟩
            case measure => simp [intOf]; omega
          · have HR : Hid (countF p x y gs os ts = none) := Lib.hid (by
              have hm' := hm.out
              rw [hs.out] at hm'
              rw [HF.out, if_neg (by omega)])
            go_wp2
            go_ret2
            exact RetZO.none_ hbw HR.out rfl
        · obtain rfl : k = X := Nat.le_antisymm hk (Nat.le_of_not_lt hlt)
          have hXk := hle.out
          have hX1 := HP.out k
          have HR : Hid (countF p x y gs os ts = some (cntB (hitB p gs os ts k) (p ^ k).toNat)) := Lib.hid (by rw [HF.out, if_pos hXk])
          obtain ⟨M, hM⟩ := Int.eq_ofNat_of_zero_le (show 0 ≤ p ^ k by omega)
          rw [hM] at HR hXk hX1
          rw [Int.toNat_natCast] at HR
          rw [hM]
          clear hM HF
          have hst := Below.refl v3.heap.size v3
          go_wp2_with fail
          go_loopw [7, 41] (fun a i wr => ∃ j : Nat, j ≤ M ∧ i = .int .i64 j ∧ a = .int .i64 (cntB (hitB p gs os ts k) j) ∧ Below v3.heap.size v3 wr) (fun _ i _ => M - (intOf i).toNat)
          case atStart => exact ⟨0, Nat.zero_le _, rfl, rfl, hst⟩
          case round =>
            clear hst
            obtain ⟨j, hj, rfl, rfl, hb2⟩ := hrel
            have hbr := hbx.trans (hb2.mono (by omega))
            have hbq : Below w.heap.size w wr := hbw.trans (hb2.mono hbw.size)
            by_cases hltj : j < M
            · obtain ⟨cb1, cb2⟩ := HC.out j
              have hct := Lib.hid fun h => cntB_t (f := hitB p gs os ts k) (m := j) h
              have hcf := Lib.hid fun h => cntB_f (f := hitB p gs os ts k) (m := j) h
              generalize cntB (hitB p gs os ts k) j = S at *
              have hq0 := boxA_at hbr
              obtain ⟨k0, k1, k2, k3, k4⟩ := hq0
              have hz2 := hb2.size
              have hst3 := And.intro (Own_new0 wr wr.heap.size (Nat.le_refl _)) ((Below.refl wr.heap.size wr).alloc (Nat.le_refl _) (.cells #[] 3))
              go_wp2_with fail
              go_loopw [9, 10] (fun v z wq => ∃ (i : Nat) (A' : Option Addr) (c' : Nat), i ≤ k ∧ z = .int .i64 ((j : Int) / p ^ i) ∧ v = .slice A' i c' ∧ Own wq wr.heap.size wq.heap.size (.slice A' i c') i (digN p j i) ∧ Below wr.heap.size wr wq) (fun v _ _ => k - lenV v)
              case atStart => exact ⟨0, _, _, Nat.zero_le _, by simp, rfl, by simpa [digN, tab_zero] using hst3.1, hst3.2⟩
              case round =>
                clear hst3
                obtain ⟨i, A', c', hi, rfl, rfl, hown, hb3⟩ := hrel
                have hz3 := hb3.size
                have hbs := hbr.trans (hb3.mono (by have := hbr.size; simpa using this))
                have hq0 := boxA_at hbs
                obtain ⟨k0, k1, k2, k3, k4⟩ := hq0
                go_wp2_with fail
                refine (Arith_inputs_any p x y Ag ng cg Ao no co _ hx hy).mono ?_
                rintro e w5 ⟨rfl, hb5⟩
                rw [hX]
                have hz5 := hb5.size
                have hb6 := hb3.trans (hb5.mono hz3)
                have hown6 := (hown.below hb5 (.inl (Nat.le_refl _))).now
                have hbt := hbs.trans (hb5.mono (by have := hbs.size; simpa using this))
                clear k0 k1 k2 k3 k4 hown hb3 hb5 hbs
                have hq0 := boxA_at hbt
                obtain ⟨k0, k1, k2, k3, k4⟩ := hq0
                have hbu : Below w.heap.size w w5 := hbq.trans (hb6.mono hbq.size)
                by_cases hlti : i < k
                · obtain ⟨d1, d2⟩ := HD.out j i
                  have hsn : Hid (digN p j (i + 1) = digN p j i ++ [(j : Int) / p ^ i % p]) := Lib.hid (digN_snoc p j i)
                  have hnx := Lib.hid (HN.out j i)
                  generalize (j : Int) / p ^ i = z at *
                  have hownA := hown6.alloc (.cells #[.int .i64 (z % p)] 3)
                  have hbA := hb6.alloc (by omega) (.cells #[.int .i64 (z % p)] 3)
                  have hbB : Below w5.heap.size w5 (w5.alloc (.cells #[.int .i64 (z % p)] 3)) := (Below.refl _ _).alloc (Nat.le_refl _) _
                  have l0 := cell_below k0 hbB
                  have l1 := cell_below k1 hbB
                  have l2 := cell_below k2 hbB
                  have l3 := cell_below k3 hbB
                  have l4 := cell_below k4 hbB
                  have hf7 := hown6.from_
                  have hz9 := hbr.size
                  simp only [World.size_alloc] at hz9
                  go_wp2_with (at_builtin; refine wpList_appI _ rfl _ _ rfl rfl hownA rfl (RI_one _ _ _ _ (by simp)) (by omega) (by first | omega | (simp; done) | (simp; omega)) ?_; intro A7 c7 w7 hown7 hg7 hat7 hk7; have n0 := hk7 _ _ _ l0 (fun g9 hg9 he9 => by have := hf7 _ hg9; omega))
                  have hb7 := below_app hbA hownA hg7 (by simp; omega) (Nat.le_refl _)
                  rw [← hsn.out] at hown7
                  clear hownA hbA hg7 hat7 hown6 hb6 hbB l0 l1 l2 l3 l4 k0 k1 k2 k3 k4 hk7
                  go_wp2
                  go_roundw
                  case rel => exact ⟨i + 1, _, _, by omega, by rw [hnx.out], rfl, hown7, hb7⟩
                  case measure => simp [lenV]; omega
                · obtain rfl : i = k := Nat.le_antisymm hi (Nat.le_of_not_lt hlti)
                  have hin := digN_bd p2 j i
                  have hbd := below_drewN hbu 1
                  have hvl := HVL.out j
                  have hOl : (pick (avals p gs (digN p j i) ng) os).length = no := by rw [pick_len, hlo]
                  have hHj := HH.out j
                  obtain ⟨O, hO⟩ : ∃ O, Hid (pick (avals p gs (digN p j i) ng) os = O) := ⟨_, rfl⟩
                  rw [hO.out] at hOl hHj
                  cases hs0 : hitB p gs os ts i j with
                  | true =>
                    have hc1 := Lib.hid (hct.out hs0)
                    rw [hHj] at hs0
                    have HS0 := Lib.hid hs0; clear hs0 hct hcf
                    go_wp2_with fail
                    go_region_held3 (fun w' => w'.cell? ⟨w.heap.size, 0, none⟩ = some (.int .i64 p) ∧ w'.cell? ⟨w.heap.size, 1, none⟩ = some (.int .i64 x) ∧ w'.cell? ⟨w.heap.size, 2, none⟩ = some (.int .i64 y) ∧ w'.cell? ⟨w.heap.size, 3, none⟩ = some (.slice Ag ng cg) ∧ w'.cell? ⟨w.heap.size, 4, none⟩ = some (.slice Ao no co))
                      (first | go_keep | (go_split_ands; exact ⟨cell_below (by assumption) hb9, cell_below (by assumption) hb9, cell_below (by assumption) hb9, cell_below (by assumption) hb9, cell_below (by assumption) hb9⟩) | (go_split_ands; exact ⟨cell_below (by assumption) hb8, cell_below (by assumption) hb8, cell_below (by assumption) hb8, cell_below (by assumption) hb8, cell_below (by assumption) hb8⟩))
                      (first | (go_at_call 76; refine (Arith_values_any p x y Ag ng cg Ao no co _ i _ gs (digN p j i) _ (hr.1.below hbd (Nat.le_refl _)) (hown6.drewN 1).reads ⟨p2, p251⟩ hin hgt (by omega) (by omega)).mono ?_; rintro e W8 hT; obtain ⟨A8, c8, rfl, ho8, hb8⟩ := hT.open_ hvl) | (go_at_call 97; refine (at_any A8 Ao (i + ng) c8 no co (avals p gs (digN p j i) ng) os _ ho8.reads (hr.2.below (hbd.trans (hb8.mono hbd.size)) (Nat.le_refl _)) (by omega) (by omega) hos').mono ?_; rintro e W9 hT; rw [hO.out] at hT; obtain ⟨A9, c9, rfl, ho9, hb9⟩ := hT.open_ hOl) | (go_at_call 125; refine (Equal_any A9 A no c9 n c O ts _ ho9.reads (ha.below ((hbd.trans (hb8.mono hbd.size)).trans (hb9.mono (hbd.trans (hb8.mono hbd.size)).size)) (Nat.le_refl _)) (by omega) hn).mono ?_; rintro e W5 ⟨he, j5, rfl⟩; rw [HS0.out] at he; obtain rfl := he))
                    have hbz := hb2.trans ((hb6.trans ((below_drewN (bnext (bnext (below_of_drewN 1) hb8) hb9) j5).mono hb6.size)).mono (by omega))
                    clear hb8 hb9 ho8 ho9 hown6 hb6 hbd hbt
                    go_wp2
                    go_roundw
                    case rel => exact ⟨j + 1, by omega, by go_num, by rw [hc1.out], hbz⟩
                    case measure => simp [intOf]; omega
                  | false =>
                    have hc1 := Lib.hid (hcf.out hs0)
                    rw [hHj] at hs0
                    have HS0 := Lib.hid hs0; clear hs0 hct hcf
                    go_wp2_with fail
                    go_region_held3 (fun w' => w'.cell? ⟨w.heap.size, 0, none⟩ = some (.int .i64 p) ∧ w'.cell? ⟨w.heap.size, 1, none⟩ = some (.int .i64 x) ∧ w'.cell? ⟨w.heap.size, 2, none⟩ = some (.int .i64 y) ∧ w'.cell? ⟨w.heap.size, 3, none⟩ = some (.slice Ag ng cg) ∧ w'.cell? ⟨w.heap.size, 4, none⟩ = some (.slice Ao no co))
                      (first | go_keep | (go_split_ands; exact ⟨cell_below (by assumption) hb9, cell_below (by assumption) hb9, cell_below (by assumption) hb9, cell_below (by assumption) hb9, cell_below (by assumption) hb9⟩) | (go_split_ands; exact ⟨cell_below (by assumption) hb8, cell_below (by assumption) hb8, cell_below (by assumption) hb8, cell_below (by assumption) hb8, cell_below (by assumption) hb8⟩))
                      (first | (go_at_call 76; refine (Arith_values_any p x y Ag ng cg Ao no co _ i _ gs (digN p j i) _ (hr.1.below hbd (Nat.le_refl _)) (hown6.drewN 1).reads ⟨p2, p251⟩ hin hgt (by omega) (by omega)).mono ?_; rintro e W8 hT; obtain ⟨A8, c8, rfl, ho8, hb8⟩ := hT.open_ hvl) | (go_at_call 97; refine (at_any A8 Ao (i + ng) c8 no co (avals p gs (digN p j i) ng) os _ ho8.reads (hr.2.below (hbd.trans (hb8.mono hbd.size)) (Nat.le_refl _)) (by omega) (by omega) hos').mono ?_; rintro e W9 hT; rw [hO.out] at hT; obtain ⟨A9, c9, rfl, ho9, hb9⟩ := hT.open_ hOl) | (go_at_call 125; refine (Equal_any A9 A no c9 n c O ts _ ho9.reads (ha.below ((hbd.trans (hb8.mono hbd.size)).trans (hb9.mono (hbd.trans (hb8.mono hbd.size)).size)) (Nat.le_refl _)) (by omega) hn).mono ?_; rintro e W5 ⟨he, j5, rfl⟩; rw [HS0.out] at he; obtain rfl := he))
                    have hbz := hb2.trans ((hb6.trans ((below_drewN (bnext (bnext (below_of_drewN 1) hb8) hb9) j5).mono hb6.size)).mono (by omega))
                    clear hb8 hb9 ho8 ho9 hown6 hb6 hbd hbt
                    go_wp2
                    go_roundw
                    case rel => exact ⟨j + 1, by omega, by go_num, by rw [hc1.out], hbz⟩
                    case measure => simp [intOf]; omega
            · obtain rfl : j = M := Nat.le_antisymm hj (Nat.le_of_not_lt hltj)
              go_wp2
              go_ret2
              exact RetZO.some_ hbq HR.out rfl

end Go.Proofs.Ytanlbdkggocdiaa
