/- Contracts of the laws' own words for circuits. -/
import Derived.Test.YtgpfiefhhlejfaaDoorQGate
import Derived.Test.YtgpfiefhhlejfaaDoorQChg
namespace Go.Proofs.YtgpfiefhhlejfaaDoor
open Go.RowKit
set_option linter.unusedVariables false
set_option linter.unusedSimpArgs false

/-- What is left behind n cells. -/
def szN (l : Int) (n : Nat) : Int := if l - n < 0 then -1 else l - n
theorem szN_le {l : Int} {n : Nat} (hl : l ≤ 2097152) : szN l n ≤ 2097152 := by unfold szN; split <;> omega
theorem szN_ge {l : Int} {n : Nat} : -1 ≤ szN l n := by unfold szN; split <;> omega
theorem szN_pos {l : Int} {n : Nat} (h : ¬ szN l n < 0) : (n : Int) ≤ l ∧ szN l n = l - n := by unfold szN at h ⊢; split at h <;> split <;> omega
def szC (l : Int) (n m : Nat) : Int := if szN l n < 0 then -1 else szN (szN l n) m

theorem szIntS_any (A : Option Addr) (n c : Nat) (l : Int) (w : World) (hl : -1 ≤ l ∧ l ≤ 2097152) (hn : n ≤ maxLen) :
    Calls Tryd.prog 26 #[.slice A n c, .int .i64 l] w fun e w' => e = .returned (.int .i64 (szN l n)) ∧ w = w' := by
  obtain ⟨hl0, hl1⟩ := hl
  have hn' : (n : Int) ≤ 9223372036854775807 := by unfold maxLen at hn; omega
  clear hn
  by_cases h : l - n < 0
  · have HR : Hid (szN l n = -1) := Lib.hid (by rw [szN, if_pos h])
    go_enter Tryd.func26, Tryd.ntmps26
    go_wp2
    go_ret
    exact ⟨by rw [HR.out]; rfl, rfl⟩
  · have HR : Hid (szN l n = l - n) := Lib.hid (by rw [szN, if_neg h])
    go_enter Tryd.func26, Tryd.ntmps26
    go_wp2
    go_ret
    exact ⟨by rw [HR.out]; rfl, rfl⟩

theorem szGateS_any (A : Option Addr) (n c : Nat) (l : Int) (w : World) (hl : -1 ≤ l ∧ l ≤ 2097152) (hn : n ≤ maxLen) :
    Calls Tryd.prog 25 #[.slice A n c, .int .i64 l] w fun e w' => e = .returned (.int .i64 (szN l n)) ∧ w = w' := by
  obtain ⟨hl0, hl1⟩ := hl
  have hn' : (n : Int) ≤ 9223372036854775807 := by unfold maxLen at hn; omega
  clear hn
  by_cases h : l - n < 0
  · have HR : Hid (szN l n = -1) := Lib.hid (by rw [szN, if_pos h])
    go_enter Tryd.func25, Tryd.ntmps25
    go_wp2
    go_ret
    exact ⟨by rw [HR.out]; rfl, rfl⟩
  · have HR : Hid (szN l n = l - n) := Lib.hid (by rw [szN, if_neg h])
    go_enter Tryd.func25, Tryd.ntmps25
    go_wp2
    go_ret
    exact ⟨by rw [HR.out]; rfl, rfl⟩

theorem szCircuit_any (x y : Int) (Ag : Option Addr) (ng cg : Nat) (Ao : Option Addr) (no co : Nat) (l : Int) (w : World) (hl : -1 ≤ l ∧ l ≤ 2097152) (hng : ng ≤ maxLen) (hno : no ≤ maxLen) :
    Calls Tryd.prog 7 #[.agg #[.int .i64 x, .int .i64 y, .slice Ag ng cg, .slice Ao no co], .int .i64 l] w fun e w' => e = .returned (.int .i64 (szC l ng no)) ∧ Below w.heap.size w w' := by
  have hB : Below w.heap.size w (w.alloc (.cells #[.int .i64 x, .int .i64 y, .slice Ag ng cg, .slice Ao no co] 25)) := (Below.refl _ _).alloc (Nat.le_refl _) _
  have g1 := szN_ge (l := l) (n := ng)
  have g2 := szN_le (n := ng) hl.2
  by_cases h : szN l ng < 0
  · have HR : Hid (szC l ng no = -1) := Lib.hid (by rw [szC, if_pos h])
    go_enter Tryd.func7, Tryd.ntmps7
    go_wp2_with fail
    refine (szGateS_any Ag ng cg l _ hl hng).mono ?_
    rintro e w1 ⟨rfl, rfl⟩
    go_wp2
    go_ret
    exact ⟨by rw [HR.out]; rfl, hB⟩
  · have HR : Hid (szC l ng no = szN (szN l ng) no) := Lib.hid (by rw [szC, if_neg h])
    have g3 := szN_ge (l := szN l ng) (n := no)
    have g4 := szN_le (n := no) g2
    by_cases h2 : szN (szN l ng) no < 0
    · have H2 : Hid (szN (szN l ng) no = -1) := Lib.hid (by unfold szN at h2 ⊢; split at h2 <;> split <;> omega)
      go_enter Tryd.func7, Tryd.ntmps7
      go_wp2_with fail
      refine (szGateS_any Ag ng cg l _ hl hng).mono ?_
      rintro e w1 ⟨rfl, rfl⟩
      go_wp2_with fail
      refine (szIntS_any Ao no co (szN l ng) _ ⟨g1, g2⟩ hno).mono ?_
      rintro e w1 ⟨rfl, rfl⟩
      go_wp2
      go_ret
      exact ⟨by rw [HR.out, H2.out]; rfl, hB⟩
    · go_enter Tryd.func7, Tryd.ntmps7
      go_wp2_with fail
      refine (szGateS_any Ag ng cg l _ hl hng).mono ?_
      rintro e w1 ⟨rfl, rfl⟩
      go_wp2_with fail
      refine (szIntS_any Ao no co (szN l ng) _ ⟨g1, g2⟩ hno).mono ?_
      rintro e w1 ⟨rfl, rfl⟩
      go_wp2
      go_ret
      exact ⟨by rw [HR.out]; rfl, hB⟩

theorem toGate_any (g : G3) (w : World) :
    Calls Tryd.prog 57 #[.agg #[.int .i64 g.k, .int .i64 g.a, .int .i64 g.b]] w fun e w' => e = .returned (.agg #[.int .i64 g.k, .int .i64 g.a, .int .i64 g.b]) ∧ Below w.heap.size w w' := by
  obtain ⟨gk, ga, gb⟩ := g
  go_enter Tryd.func57, Tryd.ntmps57
  go_wp2
  exact bodyPost_ret (v := .agg #[.int .i64 gk, .int .i64 ga, .int .i64 gb]) (by simp [results, Tryd.results57, go_sem]) rfl ⟨rfl, (((Below.refl _ _).alloc (Nat.le_refl _) _).alloc (by simp) _).alloc (by simp; omega) _⟩

theorem eqGate_any (g : G3) (w : World) :
    Calls Tryd.prog 65 #[.agg #[.int .i64 g.k, .int .i64 g.a, .int .i64 g.b], .agg #[.int .i64 g.k, .int .i64 g.a, .int .i64 g.b]] w fun e w' => e = .returned (.bool true) ∧ Below w.heap.size w w' := by
  obtain ⟨gk, ga, gb⟩ := g
  have e0 : (gk != gk) = false := by simp
  have e1 : (ga != ga) = false := by simp
  have e2 : (gb != gb) = false := by simp
  have hB : Below w.heap.size w ((w.alloc (.cells #[.int .i64 gk, .int .i64 ga, .int .i64 gb] 59)).alloc (.cells #[.int .i64 gk, .int .i64 ga, .int .i64 gb] 59)) := ((Below.refl _ _).alloc (Nat.le_refl _) _).alloc (by simp) _
  go_enter Tryd.func65, Tryd.ntmps65
  go_wp2
  go_ret
  exact ⟨rfl, hB⟩

theorem gcells_zero (n : Nat) : gcells (List.replicate n ⟨0, 0, 0⟩) = List.replicate (n * 3) (Value.int .i64 0) := by
  refine List.eq_replicate_iff.2 ⟨by rw [gcells_len]; simp, fun b hb => ?_⟩
  simp only [gcells, List.mem_flatMap, List.mem_replicate] at hb
  obtain ⟨g, ⟨_, rfl⟩, hb⟩ := hb
  simpa using hb
theorem made_zero (n : Nat) : (madeCells #[Value.int .i64 0, .int .i64 0, .int .i64 0] (n * 3)).toList = List.replicate (n * 3) (Value.int .i64 0) := by
  refine List.eq_replicate_iff.2 ⟨by simp [madeCells], fun b hb => ?_⟩
  simp only [madeCells, Array.toList_map, List.mem_map] at hb
  obtain ⟨i, _, rfl⟩ := hb
  have h : i % 3 = 0 ∨ i % 3 = 1 ∨ i % 3 = 2 := by omega
  rcases h with h | h | h <;> simp [h]
theorem info_gate : (Tryd.prog.info? 59).map (fun i => (i.zero, i.size, i.bytes)) = some (some (.agg #[.int .i64 0, .int .i64 0, .int .i64 0]), 3, 24) := by kernel_rfl
theorem toGateS_any (A : Option Addr) (n c : Nat) (xs : List G3) (w : World) (ha : RG w A n xs) (hn : n ≤ 2097152) :
    Calls Tryd.prog 29 #[.slice A n c] w fun e w' => ∃ B, e = .returned (.slice (some B) n n) ∧ OwnG w' w.heap.size w'.heap.size (.slice (some B) n n) n xs ∧ Below w.heap.size w w' := by
  obtain ⟨i0, hi, hz0, hz1, hz2⟩ := info_parts info_gate
  have hl := ha.len
  go_enter Tryd.func29, Tryd.ntmps29
  go_wp2_with (at_make; refine wpList_make_full _ rfl _ _ 29 rfl w.heap.size 59 i0 (.agg #[.int .i64 0, .int .i64 0, .int .i64 0]) 3 Tryd.underlying29 hi hz0 hz1 _ _ _ _ n rfl rfl rfl rfl (by rw [hz2]; omega) (by unfold maxLen; omega) (Nat.le_refl _) ?_; intro w1 hown hgrow)
  have hrep : w1.ownsRow w.heap.size 59 3 (.slice (some ⟨w.heap.size, 0, none⟩) n n) n (gcells (xs.take 0 ++ List.replicate (n - 0) ⟨0, 0, 0⟩)) := by
    have h : (madeCells (Value.agg #[.int .i64 0, .int .i64 0, .int .i64 0]).cells (n * 3)).toList = gcells (xs.take 0 ++ List.replicate (n - 0) ⟨0, 0, 0⟩) := by
      rw [List.take_zero, List.nil_append, Nat.sub_zero, gcells_zero, ← made_zero]
      rfl
    rw [← h]; exact hown
  have hb1 : Below w.heap.size w w1 := below_of_grownBy hgrow
  clear hown hgrow
  go_loopw [4] (fun i wr => ∃ k : Nat, k ≤ n ∧ i = .int .i64 k ∧ wr.ownsRow w.heap.size 59 3 (.slice (some ⟨w.heap.size, 0, none⟩) n n) n (gcells (xs.take k ++ List.replicate (n - k) ⟨0, 0, 0⟩)) ∧ Below w.heap.size w wr) (fun i _ => n - (intOf i).toNat)
  case atStart => exact ⟨0, Nat.zero_le _, rfl, hrep, hb1⟩
  case round =>
    clear hrep hb1
    obtain ⟨k, hk, rfl, hown, hb⟩ := hrel
    by_cases hlt : k < n
    · obtain ⟨b, o, rfl, hbB, c1, c2, c3⟩ := (ha.below hb (Nat.le_refl _)).at_ hlt
      have hlg := gcells_len (xs.take k ++ List.replicate (n - k) ⟨0, 0, 0⟩)
      have hll : (xs.take k ++ List.replicate (n - k) (⟨0, 0, 0⟩ : G3)).length = n := by simp; omega
      rw [hll] at hlg
      obtain ⟨q0, q1, q2⟩ := gcells_at (xs.take k ++ List.replicate (n - k) ⟨0, 0, 0⟩) k (by omega)
      go_wp2_with fail
      refine (toGate_any (gg xs k) _).mono ?_
      rintro e w2 ⟨rfl, hb2⟩
      have hown2 : w2.ownsRow w.heap.size 59 3 (.slice (some ⟨w.heap.size, 0, none⟩) n n) n (gcells (xs.take k ++ List.replicate (n - k) ⟨0, 0, 0⟩)) := (OwnG.below ⟨hown, fun g hg => (hown.lt g hg).2⟩ hb2 (.inl (Nat.le_refl _))).1
      have f0 := hown2.frozenAt (k * 3)
      have f1 := hown2.frozenAt (k * 3 + 1)
      have f2 := hown2.frozenAt (k * 3 + 2)
      have d0 := (hown2.cellAt (k * 3) (by omega)).trans q0
      have d1 := (hown2.cellAt (k * 3 + 1) (by omega)).trans q1
      have d2 := (hown2.cellAt (k * 3 + 2) (by omega)).trans q2
      have hst : Hid (OwnG w2 w.heap.size w2.heap.size (.slice (some ⟨w.heap.size, 0, none⟩) n n) n (xs.take k ++ List.replicate (n - k) ⟨0, 0, 0⟩)) := Lib.hid ⟨hown2, fun g hg => (hown2.lt g hg).2⟩
      have hs3 : Hid ((xs.take k ++ List.replicate (n - k) (⟨0, 0, 0⟩ : G3)).set k (gg xs k) = xs.take (k + 1) ++ List.replicate (n - (k + 1)) (⟨0, 0, 0⟩ : G3)) := Lib.hid (by
        rw [gg_take_snoc (by omega), List.set_append_right _ _ (by simp; omega)]
        have : k - (xs.take k).length = 0 := by simp; omega
        rw [this, show n - k = (n - (k + 1)) + 1 from by omega, List.replicate_succ]
        simp)
      clear hown hown2 hlg hll q0 q1 q2 c1 c2 c3
      go_wp2
      go_roundw
      case rel =>
        refine ⟨k + 1, by omega, by go_num, ?_, ?_⟩
        · have h3 := (hst.out.stored k (gg xs k) hlt).1
          rw [hs3.out] at h3
          exact h3
        · exact (((hb.trans (hb2.mono hb.size)).trans (Below.setCell (Below.refl _ w2) (p := ⟨w.heap.size, k * 3, none⟩) (Nat.le_refl _) (.int .i64 (gg xs k).k))).setCell (p := ⟨w.heap.size, k * 3 + 1, none⟩) (Nat.le_refl _) (.int .i64 (gg xs k).a)).setCell (p := ⟨w.heap.size, k * 3 + 2, none⟩) (Nat.le_refl _) (.int .i64 (gg xs k).b)
      case measure => simp [intOf]; omega
    · obtain rfl : n = k := by omega
      go_wp2
      go_ret
      refine ⟨_, rfl, ⟨?_, fun g hg => (hown.lt g hg).2⟩, hb⟩
      simpa [List.take_of_length_le (Nat.le_of_eq hl)] using hown

theorem eqGateS_any (A B : Option Addr) (n c d : Nat) (xs : List G3) (w : World) (ha : RG w A n xs) (hb : RG w B n xs) (hn : n ≤ 2097152) :
    Calls Tryd.prog 34 #[.slice A n c, .slice B n d] w fun e w' => e = .returned (.bool true) ∧ Below w.heap.size w w' := by
  have hne : ((n : Int) != n) = false := by simp
  go_enter Tryd.func34, Tryd.ntmps34
  go_wp2
  go_loopw [5] (fun i wr => ∃ k : Nat, k ≤ n ∧ i = .int .i64 k ∧ Below w.heap.size w wr) (fun i _ => n - (intOf i).toNat)
  case atStart => exact ⟨0, Nat.zero_le _, rfl, Below.refl _ _⟩
  case round =>
    obtain ⟨k, hk, rfl, hw⟩ := hrel
    by_cases hlt : k < n
    · obtain ⟨b, o, rfl, hbB, c1, c2, c3⟩ := (ha.below hw (Nat.le_refl _)).at_ hlt
      obtain ⟨b2, o2, rfl, hbB2, d1, d2, d3⟩ := (hb.below hw (Nat.le_refl _)).at_ hlt
      go_wp2_with fail
      refine wp_region_keep (wr.heap.size) (wr) [(⟨b, o + k * 3, none⟩, .int .i64 (gg xs k).k), (⟨b, o + k * 3 + 1, none⟩, .int .i64 (gg xs k).a), (⟨b, o + k * 3 + 2, none⟩, .int .i64 (gg xs k).b), (⟨b2, o2 + k * 3, none⟩, .int .i64 (gg xs k).k), (⟨b2, o2 + k * 3 + 1, none⟩, .int .i64 (gg xs k).a), (⟨b2, o2 + k * 3 + 2, none⟩, .int .i64 (gg xs k).b)] (by kernel_rfl) (by kernel_rfl) (by simp only [List.mem_cons, forall_eq_or_imp, List.not_mem_nil, false_implies, implies_true, and_true]; repeat (any_goals (apply And.intro)); all_goals (first | assumption | go_simp)) ?_
      repeat (first
        | go_big_quiet_skip
        | (go_big_quiet_want
           apply Exists.intro
           refine ⟨fun w3 hw3 => ?_, ?_⟩
           · have hcs := hw3.2
             simp only [List.mem_cons, forall_eq_or_imp, List.not_mem_nil, false_implies, implies_true, and_true] at hcs
             simp only [Oper.quietAt]
             go_simp
             first | done | exact ⟨rfl, rfl⟩ | rfl | (refine (eqGate_any (gg xs k) _).mono ?_; rintro e w4 ⟨rfl, hb4⟩; exact ⟨rfl, hw3.next hb4 (Nat.le_refl _)⟩)
           go_big_quiet_on
           try simp only [Act.put, List.setIfInBounds_toArray, List.set_cons_zero, List.set_cons_succ]))
      refine wpQuiet_nil ?_
      intro wq hwq
      go_wp2
      go_roundw
      case rel => exact ⟨k + 1, by omega, by go_num, hw.trans (hwq.1.mono hw.size)⟩
      case measure => simp [intOf]; omega
    · obtain rfl : n = k := by omega
      go_wp2
      go_ret
      exact ⟨rfl, hw⟩

/-- The marks of a slice of gates. -/
def gmarks (q : Int) (n : Nat) : List G3 := (List.range n).map fun i : Nat => ⟨q + (i : Int) * 3, q + (i : Int) * 3 + 1, q + (i : Int) * 3 + 1 + 1⟩
theorem gmarks_len (q : Int) (n : Nat) : (gmarks q n).length = n := by simp [gmarks]
theorem gmarks_set (q : Int) (j n : Nat) (xs : List G3) (hx : xs.length = n) (h : j < n) : ((gmarks q j ++ xs.drop j).set j ⟨q + (j : Int) * 3, q + (j : Int) * 3 + 1, q + (j : Int) * 3 + 1 + 1⟩) = gmarks q (j + 1) ++ xs.drop (j + 1) := by
  rw [List.set_append_right _ _ (by simp [gmarks_len])]
  simp only [gmarks_len, Nat.sub_self]
  have hd : xs.drop j = xs[j] :: xs.drop (j + 1) := List.drop_eq_getElem_cons (by omega)
  rw [hd, List.set_cons_zero]
  simp [gmarks, List.range_succ]

theorem OwnG.stored_grown {w : World} {lo hi g n c : Nat} {xs : List G3} (h : OwnG w lo hi (.slice (some ⟨g, 0, none⟩) n c) n xs) (k : Nat) (x : G3) :
    w.grownBy (((w.setCell ⟨g, k * 3, none⟩ (.int .i64 x.k)).setCell ⟨g, k * 3 + 1, none⟩ (.int .i64 x.a)).setCell ⟨g, k * 3 + 2, none⟩ (.int .i64 x.b)) (some g) := by
  obtain ⟨h1, g1⟩ := h.1.stored (k * 3) (.int .i64 x.k)
  obtain ⟨h2, g2⟩ := h1.stored (k * 3 + 1) (.int .i64 x.a)
  obtain ⟨h3, g3⟩ := h2.stored (k * 3 + 2) (.int .i64 x.b)
  exact grownBy_trans (grownBy_trans g1 g2) g3

set_option maxHeartbeats 400000 in
theorem markGateS_c (A : Option Addr) (n c lo hi : Nat) (q : Int) (xs : List G3) (w : World) (ha : OwnG w lo hi (.slice A n c) n xs) (hn : n ≤ 2097152) (h0 : 0 ≤ q) (h1 : q ≤ 1000000000000) :
    Calls Tryd.prog 44 #[.slice A n c, .int .i64 q] w fun e w' => e = .returned (.int .i64 (q + (n : Int) * 3)) ∧ OwnG w' lo hi (.slice A n c) n (gmarks q n) ∧ w.grownBy w' (Value.slice A n c).ownBlock := by
  have hl := ha.len
  go_enter Tryd.func44, Tryd.ntmps44
  go_wp2
  go_loopw [1, 5] (fun v i wr => ∃ k : Nat, k ≤ n ∧ i = .int .i64 k ∧ v = .int .i64 (q + (k : Int) * 3) ∧ OwnG wr lo hi (.slice A n c) n (gmarks q k ++ xs.drop k) ∧ w.grownBy wr (Value.slice A n c).ownBlock) (fun _ i _ => n - (intOf i).toNat)
  case atStart => exact ⟨0, Nat.zero_le _, rfl, by simp, by simpa [gmarks] using ha, World.grownBy.refl _ _⟩
  case round =>
    clear ha
    obtain ⟨k, hk, rfl, rfl, hown, hgb⟩ := hrel
    by_cases hlt : k < n
    · obtain ⟨g, rfl, _, _, hgs⟩ := hown.some_ (by omega)
      have hs1 := hown.stored k ⟨q + (k : Int) * 3, q + (k : Int) * 3 + 1, q + (k : Int) * 3 + 1 + 1⟩ hlt
      rw [gmarks_set q k n xs hl hlt] at hs1
      have hgb2 := grownBy_trans hgb (OwnG.stored_grown hown k ⟨q + (k : Int) * 3, q + (k : Int) * 3 + 1, q + (k : Int) * 3 + 1 + 1⟩)
      obtain ⟨q0, q1, q2⟩ := gcells_at (gmarks q k ++ xs.drop k) k (by simp [gmarks_len]; omega)
      have f0 := hown.1.frozenAt (k * 3)
      have f1 := hown.1.frozenAt (k * 3 + 1)
      have f2 := hown.1.frozenAt (k * 3 + 2)
      have d0 := (hown.1.cellAt (k * 3) (by omega)).trans q0
      have d1 := (hown.1.cellAt (k * 3 + 1) (by omega)).trans q1
      have d2 := (hown.1.cellAt (k * 3 + 2) (by omega)).trans q2
      clear q0 q1 q2 hown hgb
      go_wp2
      go_roundw
      case rel => exact ⟨k + 1, by omega, by go_num, by go_num, hs1, hgb2⟩
      case measure => simp [intOf]; omega
    · obtain rfl : n = k := by omega
      rw [List.drop_of_length_le (by omega), List.append_nil] at hown
      go_wp2
      go_ret
      exact ⟨rfl, hown, hgb⟩

end Go.Proofs.YtgpfiefhhlejfaaDoor
