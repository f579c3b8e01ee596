/- Contracts of the counts of kinds. -/
import Derived.Test.YtgenehiiakdadaaQBes
namespace Go.Proofs.Ytgenehiiakdadaa
open Go.RowKit
set_option linter.unusedVariables false
set_option linter.unusedSimpArgs false

/-- How many of the first k gates are of each kind. -/
def cntK (gs : List G3) : Nat → List Int
  | 0 => List.replicate 4 0
  | k + 1 => (cntK gs k).set (gg gs k).k.toNat (gi (cntK gs k) (gg gs k).k.toNat + 1)
theorem cntK_len (gs : List G3) (k : Nat) : (cntK gs k).length = 4 := by
  induction k with
  | zero => rfl
  | succ k ih => simp [cntK, ih]
theorem gi_set_bd {l : List Int} {i j : Nat} {v lo hi : Int} (hl : lo ≤ gi l j ∧ gi l j ≤ hi) (hv : lo ≤ v ∧ v ≤ hi) : lo ≤ gi (l.set i v) j ∧ gi (l.set i v) j ≤ hi := by
  unfold gi at *
  rw [List.getD_eq_getElem?_getD] at *
  rw [List.getElem?_set]
  split
  · split
    · simpa using hv
    · rename_i h1 h2; subst h1; rw [List.getElem?_eq_none (by omega)] at hl; exact hl
  · exact hl
theorem cntK_bd (gs : List G3) (k j : Nat) : 0 ≤ gi (cntK gs k) j ∧ gi (cntK gs k) j ≤ k := by
  induction k generalizing j with
  | zero =>
    unfold gi cntK
    rw [List.getD_eq_getElem?_getD, List.getElem?_replicate]
    split <;> simp
  | succ k ih =>
    rw [cntK]
    have h1 := ih j
    have h2 := ih (gg gs k).k.toNat
    exact gi_set_bd ⟨h1.1, by omega⟩ ⟨by omega, by omega⟩

set_option maxRecDepth 100000 in
set_option maxHeartbeats 2000000 in
theorem countKinds_any (Ag : Option Addr) (ng cg : Nat) (gs : List G3) (w : World) (hr : RG w Ag ng gs) (hng : ng ≤ 2097152) (hkd : ∀ k, k < ng → 0 ≤ (gg gs k).k ∧ (gg gs k).k ≤ 3) :
    Calls Try.prog 35 #[.slice Ag ng cg] w (RetI w (cntK gs ng)) := by
  obtain ⟨i0, hi, hz0, hz1, hz2⟩ := info_parts info_int
  have HB := Lib.hid (cntK_bd gs)
  have HL := Lib.hid (cntK_len gs)
  have HS : Hid (∀ k, cntK gs (k + 1) = (cntK gs k).set (gg gs k).k.toNat (gi (cntK gs k) (gg gs k).k.toNat + 1)) := Lib.hid fun k => rfl
  have hB0 : Below w.heap.size w w := Below.refl _ _
  go_enter Try.func35, Try.ntmps35
  go_wp2_with (at_make; refine wpList_make_full _ rfl _ _ 25 rfl (w.heap.size) 3 i0 (.int .i64 0) 1 Try.underlying25 hi hz0 hz1 _ _ _ _ 4 rfl rfl rfl rfl (by rw [hz2]; omega) (by unfold maxLen; omega) (by simp) ?_; intro w3 hown hgrow)
  have hrep : w3.ownsRow (w.heap.size) 3 1 (.slice (some ⟨w.heap.size, 0, none⟩) 4 4) 4 ((cntK gs 0).map (Value.int .i64)) := by
    have h : (madeCells (Value.int .i64 0).cells (4 * 1)).toList = (cntK gs 0).map (Value.int .i64) := by
      simp [Value.cells, toList_madeCells_one, cntK]
    rw [← h]; first | exact hown | (simp only [World.size_alloc] at hown; exact hown)
  have hown3 := Own.mk_ hrep
  have hb3 := below_of_grownBy hgrow
  have hB3 := hB0.trans (hb3.mono hB0.size)
  clear hrep hown hgrow hb3
  go_wp2
  go_loopw [9] (fun i wr => ∃ k : Nat, k ≤ ng ∧ i = .int .i64 k ∧ Own wr (w.heap.size) w3.heap.size (.slice (some ⟨w.heap.size, 0, none⟩) 4 4) 4 (cntK gs k) ∧ Below w.heap.size w wr) (fun i _ => ng - (intOf i).toNat)
  case atStart => exact ⟨0, Nat.zero_le _, rfl, hown3, hB3⟩
  case round =>
    obtain ⟨k, hk, rfl, ho, hb⟩ := hrel
    clear hown3 hB3
    have hz := hb.size
    by_cases hlt : k < ng
    · obtain ⟨kb, ob, rfl, hkb, c1, c2, c3⟩ := (hr.below hb (Nat.le_refl _)).at_ hlt
      have hk3 := hkd k hlt
      have hS := Lib.hid (HS.out k)
      have hbd := HB.out k (gg gs k).k.toNat
      generalize gg gs k = GG at *
      obtain ⟨gk, ga, gb⟩ := GG
      dsimp only at c1 c2 c3 hk3 hS hbd
      obtain ⟨K, rfl⟩ : ∃ K : Nat, gk = K := ⟨gk.toNat, by omega⟩
      have hK : K < 4 := by omega
      have hS' : Hid (cntK gs (k + 1) = (cntK gs k).set K (gi (cntK gs k) K + 1)) := Lib.hid hS.out
      have hbd' : 0 ≤ gi (cntK gs k) K ∧ gi (cntK gs k) K ≤ (k : Int) := hbd
      clear hS hbd hk3
      obtain ⟨v, hv⟩ : ∃ v, Hid (gi (cntK gs k) K = v) := ⟨_, Lib.hid rfl⟩
      have hoA := ho.alloc (.cells #[.int .i64 K, .int .i64 ga, .int .i64 gb] 58)
      have hbA := hb.alloc hz (.cells #[.int .i64 K, .int .i64 ga, .int .i64 gb] 58)
      obtain ⟨hc, hf⟩ := hoA.cellAt hK
      obtain ⟨hs0, _⟩ := ho.stored K (gi (cntK gs k) K + 1)
      rw [← hS'.out] at hs0
      rw [hv.out] at hc hs0 hbd'
      have hs1 := hs0.alloc (.cells #[.int .i64 K, .int .i64 ga, .int .i64 gb] 58)
      have hlw := hoA.lt (w.heap.size) (by simp [Value.ownBlock])
      simp only [World.size_alloc] at hlw
      have hl3 : w.heap.size < wr.heap.size := by have := ho.lt (w.heap.size) (by simp [Value.ownBlock]); omega
      have hbS := (hb.setCell (p := ⟨w.heap.size, K, none⟩) (by show w.heap.size ≤ w.heap.size; omega) (.int .i64 (v + 1))).alloc (by simpa using hz) (.cells #[.int .i64 K, .int .i64 ga, .int .i64 gb] 58)
      clear ho hb hoA hbA hv hS' hs0
      go_wp2
      go_roundw
      case rel => exact ⟨k + 1, by omega, by go_num, hs1, hbS⟩
      case measure => simp [intOf]; omega
    · obtain rfl : ng = k := Nat.le_antisymm (Nat.le_of_not_lt hlt) hk
      go_wp2
      go_ret
      exact RetI.mk_ (HL.out ng) rfl ((ho.lo_ (by omega)).now) hb

set_option maxRecDepth 100000 in
set_option maxHeartbeats 2000000 in
theorem ciCounts_any (x y : Int) (Ag : Option Addr) (ng cg : Nat) (Ao : Option Addr) (no co : Nat) (gs : List G3) (w : World) (hr : RG w Ag ng gs) (hng : ng ≤ 2097152) (hkd : ∀ k, k < ng → 0 ≤ (gg gs k).k ∧ (gg gs k).k ≤ 3) :
    Calls Try.prog 42 #[.agg #[.int .i64 x, .int .i64 y, .slice Ag ng cg, .slice Ao no co]] w (RetI w (cntK gs ng)) := by
  obtain ⟨i0, hi, hz0, hz1, hz2⟩ := info_parts info_int
  have HB := Lib.hid (cntK_bd gs)
  have HL := Lib.hid (cntK_len gs)
  have HS : Hid (∀ k, cntK gs (k + 1) = (cntK gs k).set (gg gs k).k.toNat (gi (cntK gs k) (gg gs k).k.toNat + 1)) := Lib.hid fun k => rfl
  have hB0 : Below w.heap.size w (w.alloc (.cells #[.int .i64 x, .int .i64 y, .slice Ag ng cg, .slice Ao no co] 27)) := (Below.refl _ _).alloc (Nat.le_refl _) _
  go_enter Try.func42, Try.ntmps42
  go_wp2_with (at_make; refine wpList_make_full _ rfl _ _ 25 rfl (w.heap.size + 1) 3 i0 (.int .i64 0) 1 Try.underlying25 hi hz0 hz1 _ _ _ _ 4 rfl rfl rfl rfl (by rw [hz2]; omega) (by unfold maxLen; omega) (by simp) ?_; intro w3 hown hgrow; have hbq := below_of_grownBy hgrow; have q2 := cell_below (box_cell w #[.int .i64 x, .int .i64 y, .slice Ag ng cg, .slice Ao no co] (T := 27) 2 _ rfl) hbq)
  have hrep : w3.ownsRow (w.heap.size + 1) 3 1 (.slice (some ⟨w.heap.size + 1, 0, none⟩) 4 4) 4 ((cntK gs 0).map (Value.int .i64)) := by
    have h : (madeCells (Value.int .i64 0).cells (4 * 1)).toList = (cntK gs 0).map (Value.int .i64) := by
      simp [Value.cells, toList_madeCells_one, cntK]
    rw [← h]; first | exact hown | (simp only [World.size_alloc] at hown; exact hown)
  have hown3 := Own.mk_ hrep
  have hb3 := below_of_grownBy hgrow
  have hB3 := hB0.trans (hb3.mono hB0.size)
  clear hrep hown hgrow hb3
  go_wp2
  go_loopw [10] (fun i wr => ∃ k : Nat, k ≤ ng ∧ i = .int .i64 k ∧ Own wr (w.heap.size + 1) w3.heap.size (.slice (some ⟨w.heap.size + 1, 0, none⟩) 4 4) 4 (cntK gs k) ∧ Below w.heap.size w wr) (fun i _ => ng - (intOf i).toNat)
  case atStart => exact ⟨0, Nat.zero_le _, rfl, hown3, hB3⟩
  case round =>
    obtain ⟨k, hk, rfl, ho, hb⟩ := hrel
    clear hown3 hB3
    have hz := hb.size
    by_cases hlt : k < ng
    · obtain ⟨kb, ob, rfl, hkb, c1, c2, c3⟩ := (hr.below hb (Nat.le_refl _)).at_ hlt
      have hk3 := hkd k hlt
      have hS := Lib.hid (HS.out k)
      have hbd := HB.out k (gg gs k).k.toNat
      generalize gg gs k = GG at *
      obtain ⟨gk, ga, gb⟩ := GG
      dsimp only at c1 c2 c3 hk3 hS hbd
      obtain ⟨K, rfl⟩ : ∃ K : Nat, gk = K := ⟨gk.toNat, by omega⟩
      have hK : K < 4 := by omega
      have hS' : Hid (cntK gs (k + 1) = (cntK gs k).set K (gi (cntK gs k) K + 1)) := Lib.hid hS.out
      have hbd' : 0 ≤ gi (cntK gs k) K ∧ gi (cntK gs k) K ≤ (k : Int) := hbd
      clear hS hbd hk3
      obtain ⟨v, hv⟩ : ∃ v, Hid (gi (cntK gs k) K = v) := ⟨_, Lib.hid rfl⟩
      have hoA := ho.alloc (.cells #[.int .i64 K, .int .i64 ga, .int .i64 gb] 58)
      have hbA := hb.alloc hz (.cells #[.int .i64 K, .int .i64 ga, .int .i64 gb] 58)
      obtain ⟨hc, hf⟩ := hoA.cellAt hK
      obtain ⟨hs0, _⟩ := ho.stored K (gi (cntK gs k) K + 1)
      rw [← hS'.out] at hs0
      rw [hv.out] at hc hs0 hbd'
      have hs1 := hs0.alloc (.cells #[.int .i64 K, .int .i64 ga, .int .i64 gb] 58)
      have hlw := hoA.lt (w.heap.size + 1) (by simp [Value.ownBlock])
      simp only [World.size_alloc] at hlw
      have hl3 : w.heap.size + 1 < wr.heap.size := by have := ho.lt (w.heap.size + 1) (by simp [Value.ownBlock]); omega
      have hbS := (hb.setCell (p := ⟨w.heap.size + 1, K, none⟩) (by show w.heap.size ≤ w.heap.size + 1; omega) (.int .i64 (v + 1))).alloc (by simpa using hz) (.cells #[.int .i64 K, .int .i64 ga, .int .i64 gb] 58)
      clear ho hb hoA hbA hv hS' hs0
      go_wp2
      go_roundw
      case rel => exact ⟨k + 1, by omega, by go_num, hs1, hbS⟩
      case measure => simp [intOf]; omega
    · obtain rfl : ng = k := Nat.le_antisymm (Nat.le_of_not_lt hlt) hk
      go_wp2
      go_ret
      exact RetI.mk_ (HL.out ng) rfl ((ho.lo_ (by omega)).now) hb

end Go.Proofs.Ytgenehiiakdadaa
