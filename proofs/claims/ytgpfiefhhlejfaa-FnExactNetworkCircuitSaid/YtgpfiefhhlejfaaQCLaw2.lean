/- Contracts of the laws' own words for circuits and arithmetic circuits: copying, comparing, marking, asking for marks. -/
import Derived.Test.YtgpfiefhhlejfaaQCLaw
import Derived.Test.YtgpfiefhhlejfaaQMem
namespace Go.Proofs.Ytgpfiefhhlejfaa
open Go.RowKit
set_option linter.unusedVariables false
set_option linter.unusedSimpArgs false

theorem szC_pos {l : Int} {n m : Nat} (h : ¬ szC l n m < 0) : (n : Int) ≤ l ∧ (m : Int) ≤ l ∧ 0 ≤ szC l n m ∧ szC l n m ≤ l := by
  unfold szC szN at *
  split at h <;> split at h <;> (try omega) <;> (split at h <;> omega)

theorem gg_gmarks {q : Int} {n j : Nat} (h : j < n) : gg (gmarks q n) j = ⟨q + (j : Int) * 3, q + (j : Int) * 3 + 1, q + (j : Int) * 3 + 1 + 1⟩ := by simp [gg, gmarks, h]
set_option maxHeartbeats 400000 in
theorem heldGateS_b (A : Option Addr) (n c : Nat) (q : Int) (w : World) (ha : RG w A n (gmarks q n)) (hn : n ≤ 2097152) (h0 : 0 ≤ q) (h1 : q ≤ 1000000000000) :
    Calls Try.prog 51 #[.slice A n c, .int .i64 q] w fun e w' => e = .returned (.int .i64 (q + (n : Int) * 3)) ∧ Below w.heap.size w w' := by
  go_enter Try.func51, Try.ntmps51
  go_wp2
  go_loopw [1, 5] (fun v i wr => ∃ k j : Nat, k ≤ n ∧ i = .int .i64 k ∧ v = .int .i64 (q + (k : Int) * 3) ∧ w.drewN j = wr) (fun _ i _ => n - (intOf i).toNat)
  case atStart => exact ⟨0, 0, Nat.zero_le _, rfl, by simp, rfl⟩
  case round =>
    obtain ⟨k, j, hk, rfl, rfl, rfl⟩ := hrel
    by_cases hlt : k < n
    · obtain ⟨b, o, rfl, hbB, c1, c2, c3⟩ := ha.at_ hlt
      rw [gg_gmarks hlt] at c1 c2 c3
      have d1 : ((q + (k : Int) * 3) != (q + (k : Int) * 3)) = false := by simp
      have d2 : ((q + (k : Int) * 3 + 1) != (q + (k : Int) * 3 + 1)) = false := by simp
      have d3 : ((q + (k : Int) * 3 + 1 + 1) != (q + (k : Int) * 3 + 1 + 1)) = false := by simp
      clear ha
      go_wp2
      go_roundw
      case rel => exact ⟨k + 1, _, by omega, by go_num, by go_num, rfl⟩
      case measure => simp [intOf]; omega
    · obtain rfl : k = n := by omega
      go_wp2
      go_ret
      exact ⟨rfl, below_of_drewN _⟩

set_option maxHeartbeats 400000 in
theorem eqCircuit_any (x y : Int) (Ag : Option Addr) (ng cg : Nat) (Ao : Option Addr) (no co : Nat) (Bg : Option Addr) (dg : Nat) (Bo : Option Addr) (do_ : Nat) (gs : List G3) (os : List Int) (w : World) (hr : RG w Ag ng gs ∧ RI w Ao no os) (hr2 : RG w Bg ng gs ∧ RI w Bo no os) (hng : ng ≤ 2097152) (hno : no ≤ 2097152) :
    Calls Try.prog 16 #[.agg #[.int .i64 x, .int .i64 y, .slice Ag ng cg, .slice Ao no co], .agg #[.int .i64 x, .int .i64 y, .slice Bg ng dg, .slice Bo no do_]] w fun e w' => e = .returned (.bool true) ∧ Below w.heap.size w w' := by
  obtain ⟨hg, ho⟩ := hr
  obtain ⟨hg2, ho2⟩ := hr2
  have hB : Below w.heap.size w ((w.alloc (.cells #[.int .i64 x, .int .i64 y, .slice Ag ng cg, .slice Ao no co] 26)).alloc (.cells #[.int .i64 x, .int .i64 y, .slice Bg ng dg, .slice Bo no do_] 26)) := ((Below.refl _ _).alloc (Nat.le_refl _) _).alloc (by simp) _
  have nx : (x != x) = false := by simp
  have ny : (y != y) = false := by simp
  go_enter Try.func16, Try.ntmps16
  go_wp2_with fail
  refine (eqGateS_any Ag Bg ng cg dg gs _ (hg.below hB (Nat.le_refl _)) (hg2.below hB (Nat.le_refl _)) hng).mono ?_
  rintro e w2 ⟨rfl, hb2⟩
  have hz2 := hb2.size
  simp only [World.size_alloc] at hz2
  have hy2' : w.heap.size + 1 < w2.heap.size := by omega
  have hx2' : w.heap.size < w2.heap.size := by omega
  have hB2 := hB.trans (hb2.mono hB.size)
  obtain ⟨hc2, hf2⟩ := bcell hb2
  go_wp2_with fail
  refine (eqIntS_b Ao Bo no co do_ os _ (ho.below hB2 (Nat.le_refl _)) (ho2.below hB2 (Nat.le_refl _)) hno).mono ?_
  rintro e w3 ⟨rfl, hb3⟩
  go_wp2
  go_ret
  exact ⟨rfl, hB2.trans (hb3.mono hB2.size)⟩

set_option maxHeartbeats 400000 in
theorem markCircuit_c (x y : Int) (Ag : Option Addr) (ng cg : Nat) (Ao : Option Addr) (no co lo hi : Nat) (q : Int) (gs : List G3) (os : List Int) (w : World) (h : OwnC w lo hi Ag ng cg Ao no co gs os) (hng : ng ≤ 2097152) (hno : no ≤ 2097152) (h0 : 0 ≤ q) (h1 : q ≤ 100000000000) :
    Calls Try.prog 19 #[.agg #[.int .i64 x, .int .i64 y, .slice Ag ng cg, .slice Ao no co], .int .i64 q] w fun e w' => e = .returned (.int .i64 (q + (ng : Int) * 3 + no)) ∧ OwnC w' lo hi Ag ng cg Ao no co (gmarks q ng) (marks (q + (ng : Int) * 3) no) ∧ Chg lo hi w w' := by
  obtain ⟨hg, ho, hap⟩ := h
  have hB : Below w.heap.size w (w.alloc (.cells #[.int .i64 x, .int .i64 y, .slice Ag ng cg, .slice Ao no co] 26)) := (Below.refl _ _).alloc (Nat.le_refl _) _
  go_enter Try.func19, Try.ntmps19
  go_wp2_with fail
  refine (markGateS_c Ag ng cg lo hi q gs _ (hg.below hB (.inl (Nat.le_refl _))) hng h0 (by omega)).mono ?_
  rintro e w2 ⟨rfl, hg2, hgr⟩
  have ho2 := (ho.below hB (.inl (Nat.le_refl _))).apart hgr hap.symm_
  have hC2 := (Chg.of_below (lo := lo) (hi := hi) hB).trans_ (Chg.of_grownG (hg.below hB (.inl (Nat.le_refl _))) hgr)
  have hz2 := hgr.size
  simp only [World.size_alloc] at hz2
  have hx2' : w.heap.size < w2.heap.size := by omega
  have hnb : (Value.slice Ag ng cg).ownBlock ≠ some w.heap.size := fun he => by have := (hg.lt _ he).2.2; omega
  have hc2 : ∀ o, w2.cell? ⟨w.heap.size, o, none⟩ = (w.alloc (.cells #[.int .i64 x, .int .i64 y, .slice Ag ng cg, .slice Ao no co] 26)).cell? ⟨w.heap.size, o, none⟩ := fun o => World.cell?_of_block (hgr.block w.heap.size (by simp) (fun he => hnb he.symm))
  clear hnb
  go_wp2_with fail
  refine (markIntS_any Ao no co lo hi (q + (ng : Int) * 3) os _ ho2 hno (by omega) (by omega)).mono ?_
  rintro e w3 ⟨rfl, ho3, hgr3⟩
  go_wp2
  go_ret
  exact ⟨rfl, ⟨hg2.apart hgr3 hap, ho3, hap⟩, hC2.trans_ (Chg.of_grown ho2 hgr3)⟩

set_option maxHeartbeats 400000 in
theorem heldCircuit_b (x y : Int) (Ag : Option Addr) (ng cg : Nat) (Ao : Option Addr) (no co : Nat) (q : Int) (w : World) (hr : RG w Ag ng (gmarks q ng) ∧ RI w Ao no (marks (q + (ng : Int) * 3) no)) (hng : ng ≤ 2097152) (hno : no ≤ 2097152) (h0 : 0 ≤ q) (h1 : q ≤ 100000000000) :
    Calls Try.prog 20 #[.agg #[.int .i64 x, .int .i64 y, .slice Ag ng cg, .slice Ao no co], .int .i64 q] w fun e w' => e = .returned (.int .i64 (q + (ng : Int) * 3 + no)) ∧ Below w.heap.size w w' := by
  obtain ⟨hg, ho⟩ := hr
  have hB : Below w.heap.size w (w.alloc (.cells #[.int .i64 x, .int .i64 y, .slice Ag ng cg, .slice Ao no co] 26)) := (Below.refl _ _).alloc (Nat.le_refl _) _
  go_enter Try.func20, Try.ntmps20
  go_wp2_with fail
  refine (heldGateS_b Ag ng cg q _ (hg.below hB (Nat.le_refl _)) hng h0 (by omega)).mono ?_
  rintro e w2 ⟨rfl, hb2⟩
  have hz2 := hb2.size
  simp only [World.size_alloc] at hz2
  have hx2' : w.heap.size < w2.heap.size := by omega
  have hB2 := hB.trans (hb2.mono hB.size)
  obtain ⟨hc2, hf2⟩ := bcell hb2
  go_wp2_with fail
  refine (heldIntS_b Ao no co (q + (ng : Int) * 3) _ (ho.below hB2 (Nat.le_refl _)) hno (by omega) (by omega)).mono ?_
  rintro e w3 ⟨rfl, hb3⟩
  go_wp2
  go_ret
  exact ⟨rfl, hB2.trans (hb3.mono hB2.size)⟩

end Go.Proofs.Ytgpfiefhhlejfaa
