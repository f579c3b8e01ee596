/- Contracts of the laws' own words for circuits and arithmetic circuits: copying, comparing, marking, asking for marks. -/
import Derived.Test.YtgpfiefhhlejfaaDoorQCLaw
import Derived.Test.YtgpfiefhhlejfaaDoorQMem
namespace Go.Proofs.YtgpfiefhhlejfaaDoor
open Go.RowKit
set_option linter.unusedVariables false
set_option linter.unusedSimpArgs false

theorem szC_pos {l : Int} {n m : Nat} (h : ¬ szC l n m < 0) : (n : Int) ≤ l ∧ (m : Int) ≤ l ∧ 0 ≤ szC l n m ∧ szC l n m ≤ l := by
  unfold szC szN at *
  split at h <;> split at h <;> (try omega) <;> (split at h <;> omega)

set_option maxHeartbeats 400000 in
theorem toCircuit_any (x y : Int) (Ag : Option Addr) (ng cg : Nat) (Ao : Option Addr) (no co : Nat) (gs : List G3) (os : List Int) (w : World) (hr : RG w Ag ng gs ∧ RI w Ao no os) (hng : ng ≤ 2097152) (hno : no ≤ 2097152) :
    Calls Tryd.prog 9 #[.agg #[.int .i64 x, .int .i64 y, .slice Ag ng cg, .slice Ao no co]] w fun e w' => ∃ B1 B2, e = .returned (.agg #[.int .i64 x, .int .i64 y, .slice (some B1) ng ng, .slice (some B2) no no]) ∧ OwnC w' w.heap.size w'.heap.size (some B1) ng ng (some B2) no no gs os ∧ Below w.heap.size w w' := by
  obtain ⟨hg, ho⟩ := hr
  have hB : Below w.heap.size w (((w.alloc (.cells #[.int .i64 x, .int .i64 y, .slice Ag ng cg, .slice Ao no co] 25)).alloc (.cells #[.int .i64 0, .int .i64 0, .slice none 0 0, .slice none 0 0] 31)).alloc (.cells #[.int .i64 x, .int .i64 y, .slice none 0 0, .slice none 0 0] 31)) := (((Below.refl _ _).alloc (Nat.le_refl _) _).alloc (by simp) _).alloc (by simp; omega) _
  go_enter Tryd.func9, Tryd.ntmps9
  go_wp2_with fail
  refine (toGateS_any Ag ng cg gs _ (hg.below hB (Nat.le_refl _)) hng).mono ?_
  rintro e w2 ⟨B1, rfl, hown, hb2⟩
  have hz2 := hb2.size
  simp only [World.size_alloc] at hz2
  have hz2' : w.heap.size + 1 + 1 < w2.heap.size := by omega
  have hy2' : w.heap.size + 1 < w2.heap.size := by omega
  have hx2' : w.heap.size < w2.heap.size := by omega
  have hB2 := hB.trans (hb2.mono hB.size)
  have hB3 : Below w.heap.size w (w2.setCell ⟨w.heap.size + 1 + 1, 2, none⟩ (.slice (some B1) ng ng)) := hB2.setCell (p := ⟨w.heap.size + 1 + 1, 2, none⟩) (by show w.heap.size ≤ w.heap.size + 1 + 1; omega) _
  have hown3 := hown.far ⟨w.heap.size + 1 + 1, 2, none⟩ (.slice (some B1) ng ng) (.inl (by simp))
  simp only [World.size_alloc] at hown3
  obtain ⟨hc2, hf2⟩ := bcell hb2
  clear hown
  go_wp2_with fail
  refine (toIntS_any Ao no co os _ (ho.below hB3 (Nat.le_refl _)) hno).mono ?_
  rintro e w3 ⟨B2, rfl, hown4, hb3⟩
  have hz3 := hb3.size
  simp only [World.size_setCell] at hz3 hown4
  obtain ⟨hc3, hf3⟩ := bcell hb3
  have hz3' : w.heap.size + 1 + 1 < w3.heap.size := by omega
  have hy3' : w.heap.size + 1 < w3.heap.size := by omega
  have hx3' : w.heap.size < w3.heap.size := by omega
  have hB4 := hB3.trans (hb3.mono hB3.size)
  go_wp2
  have H : OwnC w3 (w.heap.size + 1 + 1 + 1) w3.heap.size (some B1) ng ng (some B2) no no gs os :=
    ⟨(hown3.below hb3 (.inl (Nat.le_refl _))).hi_ hz3, hown4.lo_ (by omega), Apart.of_lt hown3 hown4 (.inl (Nat.le_refl _))⟩
  refine bodyPost_ret (v := .agg #[.int .i64 x, .int .i64 y, .slice (some B1) ng ng, .slice (some B2) no no]) (by simp [results, Tryd.results9, go_sem, hc3, hc2, hf3, hf2, hz3', hy3', hx3', hz2', hy2', hx2']) rfl ⟨B1, B2, rfl, ?_, ?_⟩
  · have H0 := H.far ⟨w.heap.size + 1 + 1, 3, none⟩ (.slice (some B2) no no) (.inl (by simp))
    have H1 := H0.far ⟨w.heap.size + 1, 0, none⟩ (.int .i64 x) (.inl (by simp))
    have H2 := H1.far ⟨w.heap.size + 1, 1, none⟩ (.int .i64 y) (.inl (by simp))
    have H3 := H2.far ⟨w.heap.size + 1, 2, none⟩ (.slice (some B1) ng ng) (.inl (by simp))
    have H4 := H3.far ⟨w.heap.size + 1, 3, none⟩ (.slice (some B2) no no) (.inl (by simp))
    simpa only [World.size_setCell] using (H4.lo_ (by omega))
  · have H0 := hB4.setCell (p := ⟨w.heap.size + 1 + 1, 3, none⟩) (by show w.heap.size ≤ w.heap.size + 1 + 1; omega) (.slice (some B2) no no)
    have H1 := H0.setCell (p := ⟨w.heap.size + 1, 0, none⟩) (by show w.heap.size ≤ w.heap.size + 1; omega) (.int .i64 x)
    have H2 := H1.setCell (p := ⟨w.heap.size + 1, 1, none⟩) (by show w.heap.size ≤ w.heap.size + 1; omega) (.int .i64 y)
    have H3 := H2.setCell (p := ⟨w.heap.size + 1, 2, none⟩) (by show w.heap.size ≤ w.heap.size + 1; omega) (.slice (some B1) ng ng)
    have H4 := H3.setCell (p := ⟨w.heap.size + 1, 3, none⟩) (by show w.heap.size ≤ w.heap.size + 1; omega) (.slice (some B2) no no)
    exact H4

set_option maxHeartbeats 400000 in
theorem toArith_any (p x y : Int) (Ag : Option Addr) (ng cg : Nat) (Ao : Option Addr) (no co : Nat) (gs : List G3) (os : List Int) (w : World) (hr : RG w Ag ng gs ∧ RI w Ao no os) (hng : ng ≤ 2097152) (hno : no ≤ 2097152) :
    Calls Tryd.prog 14 #[.agg #[.int .i64 p, .int .i64 x, .int .i64 y, .slice Ag ng cg, .slice Ao no co]] w fun e w' => ∃ B1 B2, e = .returned (.agg #[.int .i64 p, .int .i64 x, .int .i64 y, .slice (some B1) ng ng, .slice (some B2) no no]) ∧ OwnC w' w.heap.size w'.heap.size (some B1) ng ng (some B2) no no gs os ∧ Below w.heap.size w w' := by
  obtain ⟨hg, ho⟩ := hr
  have hB : Below w.heap.size w (((w.alloc (.cells #[.int .i64 p, .int .i64 x, .int .i64 y, .slice Ag ng cg, .slice Ao no co] 36)).alloc (.cells #[.int .i64 0, .int .i64 0, .int .i64 0, .slice none 0 0, .slice none 0 0] 40)).alloc (.cells #[.int .i64 p, .int .i64 x, .int .i64 y, .slice none 0 0, .slice none 0 0] 40)) := (((Below.refl _ _).alloc (Nat.le_refl _) _).alloc (by simp) _).alloc (by simp; omega) _
  go_enter Tryd.func14, Tryd.ntmps14
  go_wp2_with fail
  refine (toGateS_any Ag ng cg gs _ (hg.below hB (Nat.le_refl _)) hng).mono ?_
  rintro e w2 ⟨B1, rfl, hown, hb2⟩
  have hz2 := hb2.size
  simp only [World.size_alloc] at hz2
  have hz2' : w.heap.size + 1 + 1 < w2.heap.size := by omega
  have hy2' : w.heap.size + 1 < w2.heap.size := by omega
  have hx2' : w.heap.size < w2.heap.size := by omega
  have hB2 := hB.trans (hb2.mono hB.size)
  have hB3 : Below w.heap.size w (w2.setCell ⟨w.heap.size + 1 + 1, 3, none⟩ (.slice (some B1) ng ng)) := hB2.setCell (p := ⟨w.heap.size + 1 + 1, 3, none⟩) (by show w.heap.size ≤ w.heap.size + 1 + 1; omega) _
  have hown3 := hown.far ⟨w.heap.size + 1 + 1, 3, none⟩ (.slice (some B1) ng ng) (.inl (by simp))
  simp only [World.size_alloc] at hown3
  obtain ⟨hc2, hf2⟩ := bcell hb2
  clear hown
  go_wp2_with fail
  refine (toIntS_any Ao no co os _ (ho.below hB3 (Nat.le_refl _)) hno).mono ?_
  rintro e w3 ⟨B2, rfl, hown4, hb3⟩
  have hz3 := hb3.size
  simp only [World.size_setCell] at hz3 hown4
  obtain ⟨hc3, hf3⟩ := bcell hb3
  have hz3' : w.heap.size + 1 + 1 < w3.heap.size := by omega
  have hy3' : w.heap.size + 1 < w3.heap.size := by omega
  have hx3' : w.heap.size < w3.heap.size := by omega
  have hB4 := hB3.trans (hb3.mono hB3.size)
  go_wp2
  have H : OwnC w3 (w.heap.size + 1 + 1 + 1) w3.heap.size (some B1) ng ng (some B2) no no gs os :=
    ⟨(hown3.below hb3 (.inl (Nat.le_refl _))).hi_ hz3, hown4.lo_ (by omega), Apart.of_lt hown3 hown4 (.inl (Nat.le_refl _))⟩
  refine bodyPost_ret (v := .agg #[.int .i64 p, .int .i64 x, .int .i64 y, .slice (some B1) ng ng, .slice (some B2) no no]) (by simp [results, Tryd.results14, go_sem, hc3, hc2, hf3, hf2, hz3', hy3', hx3', hz2', hy2', hx2']) rfl ⟨B1, B2, rfl, ?_, ?_⟩
  · have H0 := H.far ⟨w.heap.size + 1 + 1, 4, none⟩ (.slice (some B2) no no) (.inl (by simp))
    have H1 := H0.far ⟨w.heap.size + 1, 0, none⟩ (.int .i64 p) (.inl (by simp))
    have H2 := H1.far ⟨w.heap.size + 1, 1, none⟩ (.int .i64 x) (.inl (by simp))
    have H3 := H2.far ⟨w.heap.size + 1, 2, none⟩ (.int .i64 y) (.inl (by simp))
    have H4 := H3.far ⟨w.heap.size + 1, 3, none⟩ (.slice (some B1) ng ng) (.inl (by simp))
    have H5 := H4.far ⟨w.heap.size + 1, 4, none⟩ (.slice (some B2) no no) (.inl (by simp))
    simpa only [World.size_setCell] using (H5.lo_ (by omega))
  · have H0 := hB4.setCell (p := ⟨w.heap.size + 1 + 1, 4, none⟩) (by show w.heap.size ≤ w.heap.size + 1 + 1; omega) (.slice (some B2) no no)
    have H1 := H0.setCell (p := ⟨w.heap.size + 1, 0, none⟩) (by show w.heap.size ≤ w.heap.size + 1; omega) (.int .i64 p)
    have H2 := H1.setCell (p := ⟨w.heap.size + 1, 1, none⟩) (by show w.heap.size ≤ w.heap.size + 1; omega) (.int .i64 x)
    have H3 := H2.setCell (p := ⟨w.heap.size + 1, 2, none⟩) (by show w.heap.size ≤ w.heap.size + 1; omega) (.int .i64 y)
    have H4 := H3.setCell (p := ⟨w.heap.size + 1, 3, none⟩) (by show w.heap.size ≤ w.heap.size + 1; omega) (.slice (some B1) ng ng)
    have H5 := H4.setCell (p := ⟨w.heap.size + 1, 4, none⟩) (by show w.heap.size ≤ w.heap.size + 1; omega) (.slice (some B2) no no)
    exact H5

theorem szArith_any (p x y : Int) (Ag : Option Addr) (ng cg : Nat) (Ao : Option Addr) (no co : Nat) (l : Int) (w : World) (hl : -1 ≤ l ∧ l ≤ 2097152) (hng : ng ≤ maxLen) (hno : no ≤ maxLen) :
    Calls Tryd.prog 12 #[.agg #[.int .i64 p, .int .i64 x, .int .i64 y, .slice Ag ng cg, .slice Ao no co], .int .i64 l] w fun e w' => e = .returned (.int .i64 (szC l ng no)) ∧ Below w.heap.size w w' := by
  have hB : Below w.heap.size w (w.alloc (.cells #[.int .i64 p, .int .i64 x, .int .i64 y, .slice Ag ng cg, .slice Ao no co] 36)) := (Below.refl _ _).alloc (Nat.le_refl _) _
  have g1 := szN_ge (l := l) (n := ng)
  have g2 := szN_le (n := ng) hl.2
  by_cases h : szN l ng < 0
  · have HR : Hid (szC l ng no = -1) := Lib.hid (by rw [szC, if_pos h])
    go_enter Tryd.func12, Tryd.ntmps12
    go_wp2_with fail
    refine (szGateS_any Ag ng cg l _ hl hng).mono ?_
    rintro e w1 ⟨rfl, rfl⟩
    go_wp2
    go_ret
    exact ⟨by rw [HR.out]; rfl, hB⟩
  · have HR : Hid (szC l ng no = szN (szN l ng) no) := Lib.hid (by rw [szC, if_neg h])
    have g3 := szN_ge (l := szN l ng) (n := no)
    have g4 := szN_le (n := no) g2
    by_cases h2 : szN (szN l ng) no < 0
    · have H2 : Hid (szN (szN l ng) no = -1) := Lib.hid (by unfold szN at h2 ⊢; split at h2 <;> split <;> omega)
      go_enter Tryd.func12, Tryd.ntmps12
      go_wp2_with fail
      refine (szGateS_any Ag ng cg l _ hl hng).mono ?_
      rintro e w1 ⟨rfl, rfl⟩
      go_wp2_with fail
      refine (szIntS_any Ao no co (szN l ng) _ ⟨g1, g2⟩ hno).mono ?_
      rintro e w1 ⟨rfl, rfl⟩
      go_wp2
      go_ret
      exact ⟨by rw [HR.out, H2.out]; rfl, hB⟩
    · go_enter Tryd.func12, Tryd.ntmps12
      go_wp2_with fail
      refine (szGateS_any Ag ng cg l _ hl hng).mono ?_
      rintro e w1 ⟨rfl, rfl⟩
      go_wp2_with fail
      refine (szIntS_any Ao no co (szN l ng) _ ⟨g1, g2⟩ hno).mono ?_
      rintro e w1 ⟨rfl, rfl⟩
      go_wp2
      go_ret
      exact ⟨by rw [HR.out]; rfl, hB⟩

theorem gg_gmarks {q : Int} {n j : Nat} (h : j < n) : gg (gmarks q n) j = ⟨q + (j : Int) * 3, q + (j : Int) * 3 + 1, q + (j : Int) * 3 + 1 + 1⟩ := by simp [gg, gmarks, h]
set_option maxHeartbeats 400000 in
theorem heldGateS_b (A : Option Addr) (n c : Nat) (q : Int) (w : World) (ha : RG w A n (gmarks q n)) (hn : n ≤ 2097152) (h0 : 0 ≤ q) (h1 : q ≤ 1000000000000) :
    Calls Tryd.prog 46 #[.slice A n c, .int .i64 q] w fun e w' => e = .returned (.int .i64 (q + (n : Int) * 3)) ∧ Below w.heap.size w w' := by
  go_enter Tryd.func46, Tryd.ntmps46
  go_wp2
  go_loopw [1, 5] (fun v i wr => ∃ k j : Nat, k ≤ n ∧ i = .int .i64 k ∧ v = .int .i64 (q + (k : Int) * 3) ∧ w.drewN j = wr) (fun _ i _ => n - (intOf i).toNat)
  case atStart => exact ⟨0, 0, Nat.zero_le _, rfl, by simp, rfl⟩
  case round =>
    obtain ⟨k, j, hk, rfl, rfl, rfl⟩ := hrel
    by_cases hlt : k < n
    · obtain ⟨b, o, rfl, hbB, c1, c2, c3⟩ := ha.at_ hlt
      rw [gg_gmarks hlt] at c1 c2 c3
      have d1 : ((q + (k : Int) * 3) != (q + (k : Int) * 3)) = false := by simp
      have d2 : ((q + (k : Int) * 3 + 1) != (q + (k : Int) * 3 + 1)) = false := by simp
      have d3 : ((q + (k : Int) * 3 + 1 + 1) != (q + (k : Int) * 3 + 1 + 1)) = false := by simp
      clear ha
      go_wp2
      go_roundw
      case rel => exact ⟨k + 1, _, by omega, by go_num, by go_num, rfl⟩
      case measure => simp [intOf]; omega
    · obtain rfl : k = n := by omega
      go_wp2
      go_ret
      exact ⟨rfl, below_of_drewN _⟩

set_option maxHeartbeats 400000 in
theorem eqCircuit_any (x y : Int) (Ag : Option Addr) (ng cg : Nat) (Ao : Option Addr) (no co : Nat) (Bg : Option Addr) (dg : Nat) (Bo : Option Addr) (do_ : Nat) (gs : List G3) (os : List Int) (w : World) (hr : RG w Ag ng gs ∧ RI w Ao no os) (hr2 : RG w Bg ng gs ∧ RI w Bo no os) (hng : ng ≤ 2097152) (hno : no ≤ 2097152) :
    Calls Tryd.prog 11 #[.agg #[.int .i64 x, .int .i64 y, .slice Ag ng cg, .slice Ao no co], .agg #[.int .i64 x, .int .i64 y, .slice Bg ng dg, .slice Bo no do_]] w fun e w' => e = .returned (.bool true) ∧ Below w.heap.size w w' := by
  obtain ⟨hg, ho⟩ := hr
  obtain ⟨hg2, ho2⟩ := hr2
  have hB : Below w.heap.size w ((w.alloc (.cells #[.int .i64 x, .int .i64 y, .slice Ag ng cg, .slice Ao no co] 31)).alloc (.cells #[.int .i64 x, .int .i64 y, .slice Bg ng dg, .slice Bo no do_] 31)) := ((Below.refl _ _).alloc (Nat.le_refl _) _).alloc (by simp) _
  have nx : (x != x) = false := by simp
  have ny : (y != y) = false := by simp
  go_enter Tryd.func11, Tryd.ntmps11
  go_wp2_with fail
  refine (eqGateS_any Ag Bg ng cg dg gs _ (hg.below hB (Nat.le_refl _)) (hg2.below hB (Nat.le_refl _)) hng).mono ?_
  rintro e w2 ⟨rfl, hb2⟩
  have hz2 := hb2.size
  simp only [World.size_alloc] at hz2
  have hy2' : w.heap.size + 1 < w2.heap.size := by omega
  have hx2' : w.heap.size < w2.heap.size := by omega
  have hB2 := hB.trans (hb2.mono hB.size)
  obtain ⟨hc2, hf2⟩ := bcell hb2
  go_wp2_with fail
  refine (eqIntS_b Ao Bo no co do_ os _ (ho.below hB2 (Nat.le_refl _)) (ho2.below hB2 (Nat.le_refl _)) hno).mono ?_
  rintro e w3 ⟨rfl, hb3⟩
  go_wp2
  go_ret
  exact ⟨rfl, hB2.trans (hb3.mono hB2.size)⟩

set_option maxHeartbeats 400000 in
theorem eqArith_any (p x y : Int) (Ag : Option Addr) (ng cg : Nat) (Ao : Option Addr) (no co : Nat) (Bg : Option Addr) (dg : Nat) (Bo : Option Addr) (do_ : Nat) (gs : List G3) (os : List Int) (w : World) (hr : RG w Ag ng gs ∧ RI w Ao no os) (hr2 : RG w Bg ng gs ∧ RI w Bo no os) (hng : ng ≤ 2097152) (hno : no ≤ 2097152) :
    Calls Tryd.prog 16 #[.agg #[.int .i64 p, .int .i64 x, .int .i64 y, .slice Ag ng cg, .slice Ao no co], .agg #[.int .i64 p, .int .i64 x, .int .i64 y, .slice Bg ng dg, .slice Bo no do_]] w fun e w' => e = .returned (.bool true) ∧ Below w.heap.size w w' := by
  obtain ⟨hg, ho⟩ := hr
  obtain ⟨hg2, ho2⟩ := hr2
  have hB : Below w.heap.size w ((w.alloc (.cells #[.int .i64 p, .int .i64 x, .int .i64 y, .slice Ag ng cg, .slice Ao no co] 40)).alloc (.cells #[.int .i64 p, .int .i64 x, .int .i64 y, .slice Bg ng dg, .slice Bo no do_] 40)) := ((Below.refl _ _).alloc (Nat.le_refl _) _).alloc (by simp) _
  have np : (p != p) = false := by simp
  have nx : (x != x) = false := by simp
  have ny : (y != y) = false := by simp
  go_enter Tryd.func16, Tryd.ntmps16
  go_wp2_with fail
  refine (eqGateS_any Ag Bg ng cg dg gs _ (hg.below hB (Nat.le_refl _)) (hg2.below hB (Nat.le_refl _)) hng).mono ?_
  rintro e w2 ⟨rfl, hb2⟩
  have hz2 := hb2.size
  simp only [World.size_alloc] at hz2
  have hy2' : w.heap.size + 1 < w2.heap.size := by omega
  have hx2' : w.heap.size < w2.heap.size := by omega
  have hB2 := hB.trans (hb2.mono hB.size)
  obtain ⟨hc2, hf2⟩ := bcell hb2
  go_wp2_with fail
  refine (eqIntS_b Ao Bo no co do_ os _ (ho.below hB2 (Nat.le_refl _)) (ho2.below hB2 (Nat.le_refl _)) hno).mono ?_
  rintro e w3 ⟨rfl, hb3⟩
  go_wp2
  go_ret
  exact ⟨rfl, hB2.trans (hb3.mono hB2.size)⟩

set_option maxHeartbeats 400000 in
theorem markCircuit_c (x y : Int) (Ag : Option Addr) (ng cg : Nat) (Ao : Option Addr) (no co lo hi : Nat) (q : Int) (gs : List G3) (os : List Int) (w : World) (h : OwnC w lo hi Ag ng cg Ao no co gs os) (hng : ng ≤ 2097152) (hno : no ≤ 2097152) (h0 : 0 ≤ q) (h1 : q ≤ 100000000000) :
    Calls Tryd.prog 19 #[.agg #[.int .i64 x, .int .i64 y, .slice Ag ng cg, .slice Ao no co], .int .i64 q] w fun e w' => e = .returned (.int .i64 (q + (ng : Int) * 3 + no)) ∧ OwnC w' lo hi Ag ng cg Ao no co (gmarks q ng) (marks (q + (ng : Int) * 3) no) ∧ Chg lo hi w w' := by
  obtain ⟨hg, ho, hap⟩ := h
  have hB : Below w.heap.size w (w.alloc (.cells #[.int .i64 x, .int .i64 y, .slice Ag ng cg, .slice Ao no co] 31)) := (Below.refl _ _).alloc (Nat.le_refl _) _
  go_enter Tryd.func19, Tryd.ntmps19
  go_wp2_with fail
  refine (markGateS_c Ag ng cg lo hi q gs _ (hg.below hB (.inl (Nat.le_refl _))) hng h0 (by omega)).mono ?_
  rintro e w2 ⟨rfl, hg2, hgr⟩
  have ho2 := (ho.below hB (.inl (Nat.le_refl _))).apart hgr hap.symm_
  have hC2 := (Chg.of_below (lo := lo) (hi := hi) hB).trans_ (Chg.of_grownG (hg.below hB (.inl (Nat.le_refl _))) hgr)
  have hz2 := hgr.size
  simp only [World.size_alloc] at hz2
  have hx2' : w.heap.size < w2.heap.size := by omega
  have hnb : (Value.slice Ag ng cg).ownBlock ≠ some w.heap.size := fun he => by have := (hg.lt _ he).2.2; omega
  have hc2 : ∀ o, w2.cell? ⟨w.heap.size, o, none⟩ = (w.alloc (.cells #[.int .i64 x, .int .i64 y, .slice Ag ng cg, .slice Ao no co] 31)).cell? ⟨w.heap.size, o, none⟩ := fun o => World.cell?_of_block (hgr.block w.heap.size (by simp) (fun he => hnb he.symm))
  clear hnb
  go_wp2_with fail
  refine (markIntS_any Ao no co lo hi (q + (ng : Int) * 3) os _ ho2 hno (by omega) (by omega)).mono ?_
  rintro e w3 ⟨rfl, ho3, hgr3⟩
  go_wp2
  go_ret
  exact ⟨rfl, ⟨hg2.apart hgr3 hap, ho3, hap⟩, hC2.trans_ (Chg.of_grown ho2 hgr3)⟩

set_option maxHeartbeats 400000 in
theorem markArith_c (p x y : Int) (Ag : Option Addr) (ng cg : Nat) (Ao : Option Addr) (no co lo hi : Nat) (q : Int) (gs : List G3) (os : List Int) (w : World) (h : OwnC w lo hi Ag ng cg Ao no co gs os) (hng : ng ≤ 2097152) (hno : no ≤ 2097152) (h0 : 0 ≤ q) (h1 : q ≤ 100000000000) :
    Calls Tryd.prog 23 #[.agg #[.int .i64 p, .int .i64 x, .int .i64 y, .slice Ag ng cg, .slice Ao no co], .int .i64 q] w fun e w' => e = .returned (.int .i64 (q + (ng : Int) * 3 + no)) ∧ OwnC w' lo hi Ag ng cg Ao no co (gmarks q ng) (marks (q + (ng : Int) * 3) no) ∧ Chg lo hi w w' := by
  obtain ⟨hg, ho, hap⟩ := h
  have hB : Below w.heap.size w (w.alloc (.cells #[.int .i64 p, .int .i64 x, .int .i64 y, .slice Ag ng cg, .slice Ao no co] 40)) := (Below.refl _ _).alloc (Nat.le_refl _) _
  go_enter Tryd.func23, Tryd.ntmps23
  go_wp2_with fail
  refine (markGateS_c Ag ng cg lo hi q gs _ (hg.below hB (.inl (Nat.le_refl _))) hng h0 (by omega)).mono ?_
  rintro e w2 ⟨rfl, hg2, hgr⟩
  have ho2 := (ho.below hB (.inl (Nat.le_refl _))).apart hgr hap.symm_
  have hC2 := (Chg.of_below (lo := lo) (hi := hi) hB).trans_ (Chg.of_grownG (hg.below hB (.inl (Nat.le_refl _))) hgr)
  have hz2 := hgr.size
  simp only [World.size_alloc] at hz2
  have hx2' : w.heap.size < w2.heap.size := by omega
  have hnb : (Value.slice Ag ng cg).ownBlock ≠ some w.heap.size := fun he => by have := (hg.lt _ he).2.2; omega
  have hc2 : ∀ o, w2.cell? ⟨w.heap.size, o, none⟩ = (w.alloc (.cells #[.int .i64 p, .int .i64 x, .int .i64 y, .slice Ag ng cg, .slice Ao no co] 40)).cell? ⟨w.heap.size, o, none⟩ := fun o => World.cell?_of_block (hgr.block w.heap.size (by simp) (fun he => hnb he.symm))
  clear hnb
  go_wp2_with fail
  refine (markIntS_any Ao no co lo hi (q + (ng : Int) * 3) os _ ho2 hno (by omega) (by omega)).mono ?_
  rintro e w3 ⟨rfl, ho3, hgr3⟩
  go_wp2
  go_ret
  exact ⟨rfl, ⟨hg2.apart hgr3 hap, ho3, hap⟩, hC2.trans_ (Chg.of_grown ho2 hgr3)⟩

set_option maxHeartbeats 400000 in
theorem heldCircuit_b (x y : Int) (Ag : Option Addr) (ng cg : Nat) (Ao : Option Addr) (no co : Nat) (q : Int) (w : World) (hr : RG w Ag ng (gmarks q ng) ∧ RI w Ao no (marks (q + (ng : Int) * 3) no)) (hng : ng ≤ 2097152) (hno : no ≤ 2097152) (h0 : 0 ≤ q) (h1 : q ≤ 100000000000) :
    Calls Tryd.prog 20 #[.agg #[.int .i64 x, .int .i64 y, .slice Ag ng cg, .slice Ao no co], .int .i64 q] w fun e w' => e = .returned (.int .i64 (q + (ng : Int) * 3 + no)) ∧ Below w.heap.size w w' := by
  obtain ⟨hg, ho⟩ := hr
  have hB : Below w.heap.size w (w.alloc (.cells #[.int .i64 x, .int .i64 y, .slice Ag ng cg, .slice Ao no co] 31)) := (Below.refl _ _).alloc (Nat.le_refl _) _
  go_enter Tryd.func20, Tryd.ntmps20
  go_wp2_with fail
  refine (heldGateS_b Ag ng cg q _ (hg.below hB (Nat.le_refl _)) hng h0 (by omega)).mono ?_
  rintro e w2 ⟨rfl, hb2⟩
  have hz2 := hb2.size
  simp only [World.size_alloc] at hz2
  have hx2' : w.heap.size < w2.heap.size := by omega
  have hB2 := hB.trans (hb2.mono hB.size)
  obtain ⟨hc2, hf2⟩ := bcell hb2
  go_wp2_with fail
  refine (heldIntS_b Ao no co (q + (ng : Int) * 3) _ (ho.below hB2 (Nat.le_refl _)) hno (by omega) (by omega)).mono ?_
  rintro e w3 ⟨rfl, hb3⟩
  go_wp2
  go_ret
  exact ⟨rfl, hB2.trans (hb3.mono hB2.size)⟩

set_option maxHeartbeats 400000 in
theorem heldArith_b (p x y : Int) (Ag : Option Addr) (ng cg : Nat) (Ao : Option Addr) (no co : Nat) (q : Int) (w : World) (hr : RG w Ag ng (gmarks q ng) ∧ RI w Ao no (marks (q + (ng : Int) * 3) no)) (hng : ng ≤ 2097152) (hno : no ≤ 2097152) (h0 : 0 ≤ q) (h1 : q ≤ 100000000000) :
    Calls Tryd.prog 24 #[.agg #[.int .i64 p, .int .i64 x, .int .i64 y, .slice Ag ng cg, .slice Ao no co], .int .i64 q] w fun e w' => e = .returned (.int .i64 (q + (ng : Int) * 3 + no)) ∧ Below w.heap.size w w' := by
  obtain ⟨hg, ho⟩ := hr
  have hB : Below w.heap.size w (w.alloc (.cells #[.int .i64 p, .int .i64 x, .int .i64 y, .slice Ag ng cg, .slice Ao no co] 40)) := (Below.refl _ _).alloc (Nat.le_refl _) _
  go_enter Tryd.func24, Tryd.ntmps24
  go_wp2_with fail
  refine (heldGateS_b Ag ng cg q _ (hg.below hB (Nat.le_refl _)) hng h0 (by omega)).mono ?_
  rintro e w2 ⟨rfl, hb2⟩
  have hz2 := hb2.size
  simp only [World.size_alloc] at hz2
  have hx2' : w.heap.size < w2.heap.size := by omega
  have hB2 := hB.trans (hb2.mono hB.size)
  obtain ⟨hc2, hf2⟩ := bcell hb2
  go_wp2_with fail
  refine (heldIntS_b Ao no co (q + (ng : Int) * 3) _ (ho.below hB2 (Nat.le_refl _)) hno (by omega) (by omega)).mono ?_
  rintro e w3 ⟨rfl, hb3⟩
  go_wp2
  go_ret
  exact ⟨rfl, hB2.trans (hb3.mono hB2.size)⟩

end Go.Proofs.YtgpfiefhhlejfaaDoor
