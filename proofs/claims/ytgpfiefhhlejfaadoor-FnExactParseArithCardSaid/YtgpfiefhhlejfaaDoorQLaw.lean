/- The laws' own helpers on slices of ints: copying, comparing, marking and asking for marks. No condition beyond lengths below 2^21. -/
import Derived.Test.YtgpfiefhhlejfaaDoorQBase
namespace Go.Proofs.YtgpfiefhhlejfaaDoor
open Go.RowKit
set_option linter.unusedVariables false
set_option linter.unusedSimpArgs false

theorem toIntS_any (A : Option Addr) (n c : Nat) (xs : List Int) (w : World) (ha : RI w A n xs) (hn : n ≤ 2097152) :
    Calls Tryd.prog 30 #[.slice A n c] w fun e w' => ∃ B, e = .returned (.slice (some B) n n) ∧ Own w' w.heap.size w'.heap.size (.slice (some B) n n) n xs ∧ Below w.heap.size w w' := by
  obtain ⟨i0, hi, hz0, hz1, hz2⟩ := info_parts info_int
  have hl := ha.len
  go_enter Tryd.func30, Tryd.ntmps30
  go_wp2_with (at_make; refine wpList_make_full _ rfl _ _ 23 rfl w.heap.size 3 i0 (.int .i64 0) 1 Tryd.underlying23 hi hz0 hz1 _ _ _ _ n rfl rfl rfl rfl (by rw [hz2]; omega) (by unfold maxLen; omega) (Nat.le_refl _) ?_; intro w1 hown hgrow)
  have hrep : w1.ownsRow w.heap.size 3 1 (.slice (some ⟨w.heap.size, 0, none⟩) n n) n ((xs.take 0 ++ List.replicate (n - 0) 0).map (Value.int .i64)) := by
    have h : (madeCells (Value.int .i64 0).cells (n * 1)).toList = (xs.take 0 ++ List.replicate (n - 0) 0).map (Value.int .i64) := by
      simp [Value.cells, toList_madeCells_one]
    rw [← h]; exact hown
  have hb1 : Below w.heap.size w w1 := below_of_grownBy hgrow
  clear hown hgrow
  go_loopw [4] (fun i wr => ∃ k : Nat, k ≤ n ∧ i = .int .i64 k ∧ wr.ownsRow w.heap.size 3 1 (.slice (some ⟨w.heap.size, 0, none⟩) n n) n ((xs.take k ++ List.replicate (n - k) 0).map (Value.int .i64)) ∧ Below w.heap.size w wr) (fun i _ => n - (intOf i).toNat)
  case atStart => exact ⟨0, Nat.zero_le _, rfl, hrep, hb1⟩
  case round =>
    clear hrep hb1
    obtain ⟨k, hk, rfl, hown, hb⟩ := hrel
    by_cases hlt : k < n
    · obtain ⟨b, o, rfl, hbB, hc⟩ := ha.at_ hlt
      have hc' := (hb.cell (p := ⟨b, o + k, none⟩) hbB).trans hc
      have hof := hown.frozenAt k
      have hoc := hown.cellAt k (by omega)
      rw [List.getElem?_eq_getElem (by simp; omega)] at hoc
      obtain ⟨hs1, hs2⟩ := hown.stored k (.int .i64 (gi xs k))
      have hs3 : ((xs.take k ++ List.replicate (n - k) 0).map (Value.int .i64)).set k (.int .i64 (gi xs k)) = (xs.take (k + 1) ++ List.replicate (n - (k + 1)) 0).map (Value.int .i64) := by
        rw [← List.map_set, gi_take_snoc (by omega)]
        refine congrArg (List.map (Value.int .i64)) ?_
        rw [List.set_append_right _ _ (by simp; omega)]
        have : k - (xs.take k).length = 0 := by simp; omega
        rw [this, show n - k = (n - (k + 1)) + 1 from by omega, List.replicate_succ]
        simp
      have HS : Hid _ := Lib.hid hs3
      rw [hs3] at hs1
      have hb2 := hb.trans (Below.setCell (Below.refl _ wr) (p := ⟨w.heap.size, k, none⟩) (Nat.le_refl _) (.int .i64 (gi xs k)))
      clear hs3 hc hown hs2 hb
      go_wp2
      go_roundw
      case rel => exact ⟨k + 1, by omega, by go_num, hs1, hb2⟩
      case measure => simp [intOf]; omega
    · obtain rfl : k = n := by omega
      go_wp2
      go_ret
      refine ⟨_, rfl, ⟨?_, ?_⟩, hb⟩
      · simpa [List.take_of_length_le (Nat.le_of_eq hl)] using hown
      · intro g hg
        exact (hown.lt g hg).2

set_option maxHeartbeats 400000 in
theorem eqIntS_any (A B : Option Addr) (n c d : Nat) (xs : List Int) (w : World) (ha : RI w A n xs) (hb : RI w B n xs) (hn : n ≤ 2097152) :
    Calls Tryd.prog 35 #[.slice A n c, .slice B n d] w fun e w' => e = .returned (.bool true) ∧ ∃ k, w.drewN k = w' := by
  have hne : ((n : Int) != n) = false := by simp
  go_enter Tryd.func35, Tryd.ntmps35
  go_wp2
  go_loopw [5] (fun i wr => ∃ k j : Nat, k ≤ n ∧ i = .int .i64 k ∧ w.drewN j = wr) (fun i _ => n - (intOf i).toNat)
  case atStart => exact ⟨0, 0, Nat.zero_le _, rfl, rfl⟩
  case round =>
    obtain ⟨k, j, hk, rfl, rfl⟩ := hrel
    by_cases hlt : k < n
    · obtain ⟨b, o, rfl, hbB, c1⟩ := ha.at_ hlt
      obtain ⟨b', o', rfl, hbB', c2⟩ := hb.at_ hlt
      have hlt' : (k : Int) < n := by omega
      have hd : ((gi xs k) != (gi xs k)) = false := by simp
      clear ha hb
      go_wp2
      go_quiet (fail)
      go_wp2
      go_roundw
      case rel => exact ⟨k + 1, _, by omega, by go_num, rfl⟩
      case measure => simp [intOf]; omega
    · go_wp2
      go_ret
      exact ⟨rfl, _, rfl⟩

/-- The numbers k, k + 1, .. -/
def marks (k : Int) (n : Nat) : List Int := (List.range n).map fun i : Nat => k + (i : Int)
theorem marks_len (k : Int) (n : Nat) : (marks k n).length = n := by simp [marks]
theorem gi_marks {k : Int} {n j : Nat} (h : j < n) : gi (marks k n) j = k + j := by simp [gi, marks, h]
theorem marks_set (k : Int) (j n : Nat) (xs : List Int) (hx : xs.length = n) (h : j < n) : ((marks k j ++ xs.drop j).set j (k + j)) = marks k (j + 1) ++ xs.drop (j + 1) := by
  rw [List.set_append_right _ _ (by simp [marks_len])]
  simp only [marks_len, Nat.sub_self]
  have hd : xs.drop j = xs[j] :: xs.drop (j + 1) := List.drop_eq_getElem_cons (by omega)
  rw [hd, List.set_cons_zero]
  simp [marks, List.range_succ]

set_option maxHeartbeats 400000 in
theorem markIntS_any (A : Option Addr) (n c lo hi : Nat) (q : Int) (xs : List Int) (w : World) (ha : Own w lo hi (.slice A n c) n xs) (hn : n ≤ 2097152) (h0 : 0 ≤ q) (h1 : q ≤ 1000000000000) :
    Calls Tryd.prog 45 #[.slice A n c, .int .i64 q] w fun e w' => e = .returned (.int .i64 (q + n)) ∧ Own w' lo hi (.slice A n c) n (marks q n) ∧ w.grownBy w' (Value.slice A n c).ownBlock := by
  have hl := ha.len
  go_enter Tryd.func45, Tryd.ntmps45
  go_wp2
  go_loopw [1, 5] (fun v i wr => ∃ k : Nat, k ≤ n ∧ i = .int .i64 k ∧ v = .int .i64 (q + k) ∧ Own wr lo hi (.slice A n c) n (marks q k ++ xs.drop k) ∧ w.grownBy wr (Value.slice A n c).ownBlock) (fun _ i _ => n - (intOf i).toNat)
  case atStart => exact ⟨0, Nat.zero_le _, rfl, by simp, by simpa [marks] using ha, World.grownBy.refl _ _⟩
  case round =>
    clear ha
    obtain ⟨k, hk, rfl, rfl, hown, hg⟩ := hrel
    by_cases hlt : k < n
    · obtain ⟨g, rfl, _, _, hgs⟩ := hown.some_ (by omega)
      obtain ⟨hoc, hof⟩ := hown.cellAt hlt
      obtain ⟨hs1, hs2⟩ := hown.stored k (q + k)
      rw [marks_set q k n xs hl hlt] at hs1
      have hg2 := grownBy_trans hg hs2
      clear hs2 hg hown
      go_wp2
      go_roundw
      case rel => exact ⟨k + 1, by omega, by go_num, by go_num, hs1, hg2⟩
      case measure => simp [intOf]; omega
    · obtain rfl : k = n := by omega
      rw [List.drop_of_length_le (by omega), List.append_nil] at hown
      go_wp2
      go_ret
      exact ⟨rfl, hown, hg⟩

set_option maxHeartbeats 400000 in
theorem heldIntS_any (A : Option Addr) (n c : Nat) (q : Int) (w : World) (ha : RI w A n (marks q n)) (hn : n ≤ 2097152) (h0 : 0 ≤ q) (h1 : q ≤ 1000000000000) :
    Calls Tryd.prog 47 #[.slice A n c, .int .i64 q] w fun e w' => e = .returned (.int .i64 (q + n)) ∧ ∃ k, w.drewN k = w' := by
  go_enter Tryd.func47, Tryd.ntmps47
  go_wp2
  go_loopw [1, 5] (fun v i wr => ∃ k j : Nat, k ≤ n ∧ i = .int .i64 k ∧ v = .int .i64 (q + k) ∧ w.drewN j = wr) (fun _ i _ => n - (intOf i).toNat)
  case atStart => exact ⟨0, 0, Nat.zero_le _, rfl, by simp, rfl⟩
  case round =>
    obtain ⟨k, j, hk, rfl, rfl, rfl⟩ := hrel
    by_cases hlt : k < n
    · obtain ⟨b, o, rfl, hbB, c1⟩ := ha.at_ hlt
      rw [gi_marks hlt] at c1
      have hlt' : (k : Int) < n := by omega
      have hd : ((q + (k : Int)) != (q + (k : Int))) = false := by simp
      clear ha
      go_wp2
      go_roundw
      case rel => exact ⟨k + 1, _, by omega, by go_num, by go_num, rfl⟩
      case measure => simp [intOf]; omega
    · obtain rfl : k = n := by omega
      go_wp2
      go_ret
      exact ⟨rfl, _, rfl⟩

theorem eqIntS_b (A B : Option Addr) (n c d : Nat) (xs : List Int) (w : World) (ha : RI w A n xs) (hb : RI w B n xs) (hn : n ≤ 2097152) :
    Calls Tryd.prog 35 #[.slice A n c, .slice B n d] w fun e w' => e = .returned (.bool true) ∧ Below w.heap.size w w' :=
  (eqIntS_any A B n c d xs w ha hb hn).mono fun _ _ ⟨h1, k, h2⟩ => ⟨h1, by subst h2; exact below_of_drewN k⟩

theorem heldIntS_b (A : Option Addr) (n c : Nat) (q : Int) (w : World) (ha : RI w A n (marks q n)) (hn : n ≤ 2097152) (h0 : 0 ≤ q) (h1 : q ≤ 1000000000000) :
    Calls Tryd.prog 47 #[.slice A n c, .int .i64 q] w fun e w' => e = .returned (.int .i64 (q + n)) ∧ Below w.heap.size w w' :=
  (heldIntS_any A n c q w ha hn h0 h1).mono fun _ _ ⟨h1, k, h2⟩ => ⟨h1, by subst h2; exact below_of_drewN k⟩

theorem Own.ne {w : World} {lo hi lo' hi' n n' : Nat} {v v' : Value} {xs xs' : List Int} (h : Own w lo hi v n xs) (h' : Own w lo' hi' v' n' xs') (hd : hi ≤ lo' ∨ hi' ≤ lo) : v.ownBlock = none ∨ v.ownBlock ≠ v'.ownBlock := by
  cases hv : v.ownBlock with
  | none => exact .inl rfl
  | some g =>
    refine .inr (fun he => ?_)
    have := h.lt g hv
    have := h'.lt g he.symm
    omega

end Go.Proofs.YtgpfiefhhlejfaaDoor
