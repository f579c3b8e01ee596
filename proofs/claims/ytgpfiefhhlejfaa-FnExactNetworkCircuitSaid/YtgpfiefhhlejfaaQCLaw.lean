/- Contracts of the laws' own words for circuits. -/
import Derived.Test.YtgpfiefhhlejfaaQGate
import Derived.Test.YtgpfiefhhlejfaaQChg
namespace Go.Proofs.Ytgpfiefhhlejfaa
open Go.RowKit
set_option linter.unusedVariables false
set_option linter.unusedSimpArgs false

/-- What is left behind n cells. -/
def szN (l : Int) (n : Nat) : Int := if l - n < 0 then -1 else l - n
theorem szN_le {l : Int} {n : Nat} (hl : l ≤ 2097152) : szN l n ≤ 2097152 := by unfold szN; split <;> omega
theorem szN_ge {l : Int} {n : Nat} : -1 ≤ szN l n := by unfold szN; split <;> omega
theorem szN_pos {l : Int} {n : Nat} (h : ¬ szN l n < 0) : (n : Int) ≤ l ∧ szN l n = l - n := by unfold szN at h ⊢; split at h <;> split <;> omega
def szC (l : Int) (n m : Nat) : Int := if szN l n < 0 then -1 else szN (szN l n) m

theorem eqGate_any (g : G3) (w : World) :
    Calls Try.prog 74 #[.agg #[.int .i64 g.k, .int .i64 g.a, .int .i64 g.b], .agg #[.int .i64 g.k, .int .i64 g.a, .int .i64 g.b]] w fun e w' => e = .returned (.bool true) ∧ Below w.heap.size w w' := by
  obtain ⟨gk, ga, gb⟩ := g
  have e0 : (gk != gk) = false := by simp
  have e1 : (ga != ga) = false := by simp
  have e2 : (gb != gb) = false := by simp
  have hB : Below w.heap.size w ((w.alloc (.cells #[.int .i64 gk, .int .i64 ga, .int .i64 gb] 88)).alloc (.cells #[.int .i64 gk, .int .i64 ga, .int .i64 gb] 88)) := ((Below.refl _ _).alloc (Nat.le_refl _) _).alloc (by simp) _
  go_enter Try.func74, Try.ntmps74
  go_wp2
  go_ret
  exact ⟨rfl, hB⟩

theorem eqGateS_any (A B : Option Addr) (n c d : Nat) (xs : List G3) (w : World) (ha : RG w A n xs) (hb : RG w B n xs) (hn : n ≤ 2097152) :
    Calls Try.prog 46 #[.slice A n c, .slice B n d] w fun e w' => e = .returned (.bool true) ∧ Below w.heap.size w w' := by
  have hne : ((n : Int) != n) = false := by simp
  go_enter Try.func46, Try.ntmps46
  go_wp2
  go_loopw [5] (fun i wr => ∃ k : Nat, k ≤ n ∧ i = .int .i64 k ∧ Below w.heap.size w wr) (fun i _ => n - (intOf i).toNat)
  case atStart => exact ⟨0, Nat.zero_le _, rfl, Below.refl _ _⟩
  case round =>
    obtain ⟨k, hk, rfl, hw⟩ := hrel
    by_cases hlt : k < n
    · obtain ⟨b, o, rfl, hbB, c1, c2, c3⟩ := (ha.below hw (Nat.le_refl _)).at_ hlt
      obtain ⟨b2, o2, rfl, hbB2, d1, d2, d3⟩ := (hb.below hw (Nat.le_refl _)).at_ hlt
      go_wp2_with fail
      refine wp_region_keep (wr.heap.size) (wr) [(⟨b, o + k * 3, none⟩, .int .i64 (gg xs k).k), (⟨b, o + k * 3 + 1, none⟩, .int .i64 (gg xs k).a), (⟨b, o + k * 3 + 2, none⟩, .int .i64 (gg xs k).b), (⟨b2, o2 + k * 3, none⟩, .int .i64 (gg xs k).k), (⟨b2, o2 + k * 3 + 1, none⟩, .int .i64 (gg xs k).a), (⟨b2, o2 + k * 3 + 2, none⟩, .int .i64 (gg xs k).b)] (by kernel_rfl) (by kernel_rfl) (by simp only [List.mem_cons, forall_eq_or_imp, List.not_mem_nil, false_implies, implies_true, and_true]; repeat (any_goals (apply And.intro)); all_goals (first | assumption | go_simp)) ?_
      repeat (first
        | go_big_quiet_skip
        | (go_big_quiet_want
           apply Exists.intro
           refine ⟨fun w3 hw3 => ?_, ?_⟩
           · have hcs := hw3.2
             simp only [List.mem_cons, forall_eq_or_imp, List.not_mem_nil, false_implies, implies_true, and_true] at hcs
             simp only [Oper.quietAt]
             go_simp
             first | done | exact ⟨rfl, rfl⟩ | rfl | (refine (eqGate_any (gg xs k) _).mono ?_; rintro e w4 ⟨rfl, hb4⟩; exact ⟨rfl, hw3.next hb4 (Nat.le_refl _)⟩)
           go_big_quiet_on
           try simp only [Act.put, List.setIfInBounds_toArray, List.set_cons_zero, List.set_cons_succ]))
      refine wpQuiet_nil ?_
      intro wq hwq
      go_wp2
      go_roundw
      case rel => exact ⟨k + 1, by omega, by go_num, hw.trans (hwq.1.mono hw.size)⟩
      case measure => simp [intOf]; omega
    · obtain rfl : n = k := by omega
      go_wp2
      go_ret
      exact ⟨rfl, hw⟩

/-- The marks of a slice of gates. -/
def gmarks (q : Int) (n : Nat) : List G3 := (List.range n).map fun i : Nat => ⟨q + (i : Int) * 3, q + (i : Int) * 3 + 1, q + (i : Int) * 3 + 1 + 1⟩
theorem gmarks_len (q : Int) (n : Nat) : (gmarks q n).length = n := by simp [gmarks]
theorem gmarks_set (q : Int) (j n : Nat) (xs : List G3) (hx : xs.length = n) (h : j < n) : ((gmarks q j ++ xs.drop j).set j ⟨q + (j : Int) * 3, q + (j : Int) * 3 + 1, q + (j : Int) * 3 + 1 + 1⟩) = gmarks q (j + 1) ++ xs.drop (j + 1) := by
  rw [List.set_append_right _ _ (by simp [gmarks_len])]
  simp only [gmarks_len, Nat.sub_self]
  have hd : xs.drop j = xs[j] :: xs.drop (j + 1) := List.drop_eq_getElem_cons (by omega)
  rw [hd, List.set_cons_zero]
  simp [gmarks, List.range_succ]

theorem OwnG.stored_grown {w : World} {lo hi g n c : Nat} {xs : List G3} (h : OwnG w lo hi (.slice (some ⟨g, 0, none⟩) n c) n xs) (k : Nat) (x : G3) :
    w.grownBy (((w.setCell ⟨g, k * 3, none⟩ (.int .i64 x.k)).setCell ⟨g, k * 3 + 1, none⟩ (.int .i64 x.a)).setCell ⟨g, k * 3 + 2, none⟩ (.int .i64 x.b)) (some g) := by
  obtain ⟨h1, g1⟩ := h.1.stored (k * 3) (.int .i64 x.k)
  obtain ⟨h2, g2⟩ := h1.stored (k * 3 + 1) (.int .i64 x.a)
  obtain ⟨h3, g3⟩ := h2.stored (k * 3 + 2) (.int .i64 x.b)
  exact grownBy_trans (grownBy_trans g1 g2) g3

set_option maxHeartbeats 400000 in
theorem markGateS_c (A : Option Addr) (n c lo hi : Nat) (q : Int) (xs : List G3) (w : World) (ha : OwnG w lo hi (.slice A n c) n xs) (hn : n ≤ 2097152) (h0 : 0 ≤ q) (h1 : q ≤ 1000000000000) :
    Calls Try.prog 49 #[.slice A n c, .int .i64 q] w fun e w' => e = .returned (.int .i64 (q + (n : Int) * 3)) ∧ OwnG w' lo hi (.slice A n c) n (gmarks q n) ∧ w.grownBy w' (Value.slice A n c).ownBlock := by
  have hl := ha.len
  go_enter Try.func49, Try.ntmps49
  go_wp2
  go_loopw [1, 5] (fun v i wr => ∃ k : Nat, k ≤ n ∧ i = .int .i64 k ∧ v = .int .i64 (q + (k : Int) * 3) ∧ OwnG wr lo hi (.slice A n c) n (gmarks q k ++ xs.drop k) ∧ w.grownBy wr (Value.slice A n c).ownBlock) (fun _ i _ => n - (intOf i).toNat)
  case atStart => exact ⟨0, Nat.zero_le _, rfl, by simp, by simpa [gmarks] using ha, World.grownBy.refl _ _⟩
  case round =>
    clear ha
    obtain ⟨k, hk, rfl, rfl, hown, hgb⟩ := hrel
    by_cases hlt : k < n
    · obtain ⟨g, rfl, _, _, hgs⟩ := hown.some_ (by omega)
      have hs1 := hown.stored k ⟨q + (k : Int) * 3, q + (k : Int) * 3 + 1, q + (k : Int) * 3 + 1 + 1⟩ hlt
      rw [gmarks_set q k n xs hl hlt] at hs1
      have hgb2 := grownBy_trans hgb (OwnG.stored_grown hown k ⟨q + (k : Int) * 3, q + (k : Int) * 3 + 1, q + (k : Int) * 3 + 1 + 1⟩)
      obtain ⟨q0, q1, q2⟩ := gcells_at (gmarks q k ++ xs.drop k) k (by simp [gmarks_len]; omega)
      have f0 := hown.1.frozenAt (k * 3)
      have f1 := hown.1.frozenAt (k * 3 + 1)
      have f2 := hown.1.frozenAt (k * 3 + 2)
      have d0 := (hown.1.cellAt (k * 3) (by omega)).trans q0
      have d1 := (hown.1.cellAt (k * 3 + 1) (by omega)).trans q1
      have d2 := (hown.1.cellAt (k * 3 + 2) (by omega)).trans q2
      clear q0 q1 q2 hown hgb
      go_wp2
      go_roundw
      case rel => exact ⟨k + 1, by omega, by go_num, by go_num, hs1, hgb2⟩
      case measure => simp [intOf]; omega
    · obtain rfl : n = k := by omega
      rw [List.drop_of_length_le (by omega), List.append_nil] at hown
      go_wp2
      go_ret
      exact ⟨rfl, hown, hgb⟩

end Go.Proofs.Ytgpfiefhhlejfaa
