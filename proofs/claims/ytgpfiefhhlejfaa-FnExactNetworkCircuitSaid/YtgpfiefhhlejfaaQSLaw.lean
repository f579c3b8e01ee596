/- Contracts of the laws' own words for networks: size, conversion, comparison. Lengths below 2^21. -/
import Derived.Test.YtgpfiefhhlejfaaQCLaw2
import Derived.Test.YtgpfiefhhlejfaaQNet
import Derived.Test.YtgpfiefhhlejfaaQChg
namespace Go.Proofs.Ytgpfiefhhlejfaa
open Go.RowKit
set_option linter.unusedVariables false
set_option linter.unusedSimpArgs false

/-- The cells of a list of steps. -/
def pcells (ls : List Sp) : List Value := ls.flatMap fun s => [.int .i64 s.l, .int .i64 s.h]
theorem pcells_len (ls : List Sp) : (pcells ls).length = ls.length * 2 := by
  induction ls with
  | nil => rfl
  | cons g gs ih => simp only [pcells, List.flatMap_cons, List.length_append, List.length_cons, List.length_nil] at ih ⊢; rw [ih]; omega
theorem pcells_at (ls : List Sp) : ∀ j, j < ls.length → (pcells ls)[j * 2]? = some (.int .i64 (ss ls j).l) ∧ (pcells ls)[j * 2 + 1]? = some (.int .i64 (ss ls j).h) := by
  induction ls with
  | nil => intro j hj; simp at hj
  | cons g gs ih =>
    intro j hj
    cases j with
    | zero => exact ⟨rfl, rfl⟩
    | succ j =>
      have := ih j (by simpa using hj)
      have hc : pcells (g :: gs) = Value.int .i64 g.l :: .int .i64 g.h :: pcells gs := rfl
      have hgg : ss (g :: gs) (j + 1) = ss gs j := rfl
      rw [hc, hgg, show (j + 1) * 2 = j * 2 + 1 + 1 from by omega]
      simpa using this
theorem pcells_set (ls : List Sp) (x : Sp) : ∀ j, j < ls.length → ((pcells ls).set (j * 2) (.int .i64 x.l)).set (j * 2 + 1) (.int .i64 x.h) = pcells (ls.set j x) := by
  induction ls with
  | nil => intro j hj; simp at hj
  | cons g gs ih =>
    intro j hj
    cases j with
    | zero => rfl
    | succ j =>
      have := ih j (by simpa using hj)
      have hc : pcells (g :: gs) = Value.int .i64 g.l :: .int .i64 g.h :: pcells gs := rfl
      have hd : pcells ((g :: gs).set (j + 1) x) = Value.int .i64 g.l :: .int .i64 g.h :: pcells (gs.set j x) := rfl
      rw [hc, hd, ← this, show (j + 1) * 2 = j * 2 + 1 + 1 from by omega]
      rfl
/-- The slice value v is a row of the call's own between the blocks lo and hi, which holds the steps ls. -/
def OwnS (w : World) (lo hi : Nat) (v : Value) (n : Nat) (ls : List Sp) : Prop :=
  w.ownsRow lo 71 2 v n (pcells ls) ∧ ∀ g, v.ownBlock = some g → g < hi
theorem OwnS.len {w : World} {lo hi n : Nat} {v : Value} {xs : List Sp} (h : OwnS w lo hi v n xs) : xs.length = n := by
  have := h.1.1; rw [pcells_len] at this; omega
theorem OwnS.lt {w : World} {lo hi n : Nat} {v : Value} {xs : List Sp} (h : OwnS w lo hi v n xs) : ∀ g, v.ownBlock = some g → lo ≤ g ∧ g < hi ∧ g < w.heap.size :=
  fun g hg => ⟨(h.1.lt g hg).1, h.2 g hg, (h.1.lt g hg).2⟩
theorem OwnS.below {w w' : World} {lo hi n : Nat} {v : Value} {xs : List Sp} {B : Nat} (h : OwnS w lo hi v n xs) (hb : Below B w w') (hB : w.heap.size ≤ B ∨ hi ≤ B) : OwnS w' lo hi v n xs := by
  refine ⟨⟨h.1.1, ?_⟩, h.2⟩
  rcases h.1.2 with h1 | ⟨g, cap, cur, rfl, hlo, hg, r⟩
  · exact .inl h1
  · refine .inr ⟨g, cap, cur, rfl, hlo, ?_, r⟩
    have := h.lt g (by simp [Value.ownBlock])
    rw [hb.block g (by omega)]; exact hg
theorem OwnS.reads {w : World} {lo hi n c : Nat} {A : Option Addr} {xs : List Sp} (h : OwnS w lo hi (.slice A n c) n xs) : RS w A n xs := by
  refine ⟨h.len, fun hn => ?_⟩
  obtain ⟨g, cap, hv, _, hlt⟩ := h.1.form hn
  simp only [Value.slice.injEq, true_and] at hv
  obtain ⟨rfl, rfl⟩ := hv
  refine ⟨g, 0, rfl, hlt, fun j hj => ?_⟩
  have hl := h.len
  obtain ⟨q1, q2⟩ := pcells_at xs j (by omega)
  simp only [Nat.zero_add]
  exact ⟨(h.1.cellAt _ (by omega)).trans q1, (h.1.cellAt _ (by omega)).trans q2⟩
theorem OwnS.stored {w : World} {lo hi g n c : Nat} {xs : List Sp} (h : OwnS w lo hi (.slice (some ⟨g, 0, none⟩) n c) n xs) (k : Nat) (x : Sp) (hk : k < n) :
    OwnS ((w.setCell ⟨g, k * 2, none⟩ (.int .i64 x.l)).setCell ⟨g, k * 2 + 1, none⟩ (.int .i64 x.h)) lo hi (.slice (some ⟨g, 0, none⟩) n c) n (xs.set k x) := by
  have hl := h.len
  obtain ⟨h1, _⟩ := h.1.stored (k * 2) (.int .i64 x.l)
  obtain ⟨h2, _⟩ := h1.stored (k * 2 + 1) (.int .i64 x.h)
  rw [pcells_set xs x k (by omega)] at h2
  exact ⟨h2, h.2⟩

theorem szStepS_any (A : Option Addr) (n c : Nat) (l : Int) (w : World) (hl : -1 ≤ l ∧ l ≤ 2097152) (hn : n ≤ maxLen) :
    Calls Try.prog 12 #[.slice A n c, .int .i64 l] w fun e w' => e = .returned (.int .i64 (szN l n)) ∧ w = w' := by
  obtain ⟨hl0, hl1⟩ := hl
  have hn' : (n : Int) ≤ 9223372036854775807 := by unfold maxLen at hn; omega
  clear hn
  by_cases h : l - n < 0
  · have HR : Hid (szN l n = -1) := Lib.hid (by rw [szN, if_pos h])
    go_enter Try.func12, Try.ntmps12
    go_wp2
    go_ret
    exact ⟨by rw [HR.out]; rfl, rfl⟩
  · have HR : Hid (szN l n = l - n) := Lib.hid (by rw [szN, if_neg h])
    go_enter Try.func12, Try.ntmps12
    go_wp2
    go_ret
    exact ⟨by rw [HR.out]; rfl, rfl⟩

theorem szStepS_b (A : Option Addr) (n c : Nat) (l : Int) (w : World) (hl : -1 ≤ l ∧ l ≤ 2097152) (hn : n ≤ maxLen) :
    Calls Try.prog 12 #[.slice A n c, .int .i64 l] w fun e w' => e = .returned (.int .i64 (szN l n)) ∧ Below w.heap.size w w' :=
  (szStepS_any A n c l w hl hn).mono fun _ _ ⟨h1, h2⟩ => ⟨h1, h2 ▸ Below.refl _ _⟩

theorem toStep_any (g : Sp) (w : World) :
    Calls Try.prog 38 #[.agg #[.int .i64 g.l, .int .i64 g.h]] w fun e w' => e = .returned (.agg #[.int .i64 g.l, .int .i64 g.h]) ∧ Below w.heap.size w w' := by
  obtain ⟨gl, gh⟩ := g
  go_enter Try.func38, Try.ntmps38
  go_wp2
  exact bodyPost_ret (v := .agg #[.int .i64 gl, .int .i64 gh]) (by simp [results, Try.results38, go_sem]) rfl ⟨rfl, (((Below.refl _ _).alloc (Nat.le_refl _) _).alloc (by simp) _).alloc (by simp; omega) _⟩

theorem eqStep_any (g : Sp) (w : World) :
    Calls Try.prog 48 #[.agg #[.int .i64 g.l, .int .i64 g.h], .agg #[.int .i64 g.l, .int .i64 g.h]] w fun e w' => e = .returned (.bool true) ∧ Below w.heap.size w w' := by
  obtain ⟨gl, gh⟩ := g
  have e0 : (gl != gl) = false := by simp
  have e1 : (gh != gh) = false := by simp
  have hB : Below w.heap.size w ((w.alloc (.cells #[.int .i64 gl, .int .i64 gh] 71)).alloc (.cells #[.int .i64 gl, .int .i64 gh] 71)) := ((Below.refl _ _).alloc (Nat.le_refl _) _).alloc (by simp) _
  go_enter Try.func48, Try.ntmps48
  go_wp2
  go_ret
  exact ⟨rfl, hB⟩

theorem eqStepS_any (A B : Option Addr) (n c d : Nat) (xs : List Sp) (w : World) (ha : RS w A n xs) (hb : RS w B n xs) (hn : n ≤ 2097152) :
    Calls Try.prog 17 #[.slice A n c, .slice B n d] w fun e w' => e = .returned (.bool true) ∧ Below w.heap.size w w' := by
  have hne : ((n : Int) != n) = false := by simp
  go_enter Try.func17, Try.ntmps17
  go_wp2
  go_loopw [5] (fun i wr => ∃ k : Nat, k ≤ n ∧ i = .int .i64 k ∧ Below w.heap.size w wr) (fun i _ => n - (intOf i).toNat)
  case atStart => exact ⟨0, Nat.zero_le _, rfl, Below.refl _ _⟩
  case round =>
    obtain ⟨k, hk, rfl, hw⟩ := hrel
    by_cases hlt : k < n
    · obtain ⟨b, o, rfl, hbB, c1, c2⟩ := (ha.below hw (Nat.le_refl _)).at_ hlt
      obtain ⟨b2, o2, rfl, hbB2, d1, d2⟩ := (hb.below hw (Nat.le_refl _)).at_ hlt
      go_wp2_with fail
      refine wp_region_keep (wr.heap.size) (wr) [(⟨b, o + k * 2, none⟩, .int .i64 (ss xs k).l), (⟨b, o + k * 2 + 1, none⟩, .int .i64 (ss xs k).h), (⟨b2, o2 + k * 2, none⟩, .int .i64 (ss xs k).l), (⟨b2, o2 + k * 2 + 1, none⟩, .int .i64 (ss xs k).h)] (by kernel_rfl) (by kernel_rfl) (by simp only [List.mem_cons, forall_eq_or_imp, List.not_mem_nil, false_implies, implies_true, and_true]; repeat (any_goals (apply And.intro)); all_goals (first | assumption | go_simp)) ?_
      repeat (first
        | go_big_quiet_skip
        | (go_big_quiet_want
           apply Exists.intro
           refine ⟨fun w3 hw3 => ?_, ?_⟩
           · have hcs := hw3.2
             simp only [List.mem_cons, forall_eq_or_imp, List.not_mem_nil, false_implies, implies_true, and_true] at hcs
             simp only [Oper.quietAt]
             go_simp
             first | done | exact ⟨rfl, rfl⟩ | rfl | (refine (eqStep_any (ss xs k) _).mono ?_; rintro e w4 ⟨rfl, hb4⟩; exact ⟨rfl, hw3.next hb4 (Nat.le_refl _)⟩)
           go_big_quiet_on
           try simp only [Act.put, List.setIfInBounds_toArray, List.set_cons_zero, List.set_cons_succ]))
      refine wpQuiet_nil ?_
      intro wq hwq
      go_wp2
      go_roundw
      case rel => exact ⟨k + 1, by omega, by go_num, hw.trans (hwq.1.mono hw.size)⟩
      case measure => simp [intOf]; omega
    · obtain rfl : n = k := by omega
      go_wp2
      go_ret
      exact ⟨rfl, hw⟩

theorem pcells_zero (n : Nat) : pcells (List.replicate n ⟨0, 0⟩) = List.replicate (n * 2) (Value.int .i64 0) := by
  refine List.eq_replicate_iff.2 ⟨by rw [pcells_len]; simp, fun b hb => ?_⟩
  simp only [pcells, List.mem_flatMap, List.mem_replicate] at hb
  obtain ⟨g, ⟨_, rfl⟩, hb⟩ := hb
  simpa using hb
theorem made_zero2 (n : Nat) : (madeCells #[Value.int .i64 0, .int .i64 0] (n * 2)).toList = List.replicate (n * 2) (Value.int .i64 0) := by
  refine List.eq_replicate_iff.2 ⟨by simp [madeCells], fun b hb => ?_⟩
  simp only [madeCells, Array.toList_map, List.mem_map] at hb
  obtain ⟨i, _, rfl⟩ := hb
  have h : i % 2 = 0 ∨ i % 2 = 1 := by omega
  rcases h with h | h <;> simp [h]
theorem info_step : (Try.prog.info? 71).map (fun i => (i.zero, i.size, i.bytes)) = some (some (.agg #[.int .i64 0, .int .i64 0]), 2, 16) := by kernel_rfl
theorem ss_take_snoc {ls : List Sp} {k : Nat} (h : k < ls.length) : ls.take (k + 1) = ls.take k ++ [ss ls k] := by
  rw [List.take_succ_eq_append_getElem h, ss_lt h]
theorem toStepS_any (A : Option Addr) (n c : Nat) (xs : List Sp) (w : World) (ha : RS w A n xs) (hn : n ≤ 2097152) :
    Calls Try.prog 14 #[.slice A n c] w fun e w' => ∃ B, e = .returned (.slice (some B) n n) ∧ OwnS w' w.heap.size w'.heap.size (.slice (some B) n n) n xs ∧ Below w.heap.size w w' := by
  obtain ⟨i0, hi, hz0, hz1, hz2⟩ := info_parts info_step
  have hl := ha.len
  go_enter Try.func14, Try.ntmps14
  go_wp2_with (at_make; refine wpList_make_full _ rfl _ _ 40 rfl w.heap.size 71 i0 (.agg #[.int .i64 0, .int .i64 0]) 2 Try.underlying40 hi hz0 hz1 _ _ _ _ n rfl rfl rfl rfl (by rw [hz2]; omega) (by unfold maxLen; omega) (Nat.le_refl _) ?_; intro w1 hown hgrow)
  have hrep : w1.ownsRow w.heap.size 71 2 (.slice (some ⟨w.heap.size, 0, none⟩) n n) n (pcells (xs.take 0 ++ List.replicate (n - 0) ⟨0, 0⟩)) := by
    have h : (madeCells (Value.agg #[.int .i64 0, .int .i64 0]).cells (n * 2)).toList = pcells (xs.take 0 ++ List.replicate (n - 0) ⟨0, 0⟩) := by
      rw [List.take_zero, List.nil_append, Nat.sub_zero, pcells_zero, ← made_zero2]
      rfl
    rw [← h]; exact hown
  have hb1 : Below w.heap.size w w1 := below_of_grownBy hgrow
  clear hown hgrow
  go_loopw [4] (fun i wr => ∃ k : Nat, k ≤ n ∧ i = .int .i64 k ∧ wr.ownsRow w.heap.size 71 2 (.slice (some ⟨w.heap.size, 0, none⟩) n n) n (pcells (xs.take k ++ List.replicate (n - k) ⟨0, 0⟩)) ∧ Below w.heap.size w wr) (fun i _ => n - (intOf i).toNat)
  case atStart => exact ⟨0, Nat.zero_le _, rfl, hrep, hb1⟩
  case round =>
    clear hrep hb1
    obtain ⟨k, hk, rfl, hown, hb⟩ := hrel
    by_cases hlt : k < n
    · obtain ⟨b, o, rfl, hbB, c1, c2⟩ := (ha.below hb (Nat.le_refl _)).at_ hlt
      have hlg := pcells_len (xs.take k ++ List.replicate (n - k) ⟨0, 0⟩)
      have hll : (xs.take k ++ List.replicate (n - k) (⟨0, 0⟩ : Sp)).length = n := by simp; omega
      rw [hll] at hlg
      obtain ⟨q0, q1⟩ := pcells_at (xs.take k ++ List.replicate (n - k) ⟨0, 0⟩) k (by omega)
      go_wp2_with fail
      refine (toStep_any (ss xs k) _).mono ?_
      rintro e w2 ⟨rfl, hb2⟩
      have hown2 : w2.ownsRow w.heap.size 71 2 (.slice (some ⟨w.heap.size, 0, none⟩) n n) n (pcells (xs.take k ++ List.replicate (n - k) ⟨0, 0⟩)) := (OwnS.below ⟨hown, fun g hg => (hown.lt g hg).2⟩ hb2 (.inl (Nat.le_refl _))).1
      have f0 := hown2.frozenAt (k * 2)
      have f1 := hown2.frozenAt (k * 2 + 1)
      have d0 := (hown2.cellAt (k * 2) (by omega)).trans q0
      have d1 := (hown2.cellAt (k * 2 + 1) (by omega)).trans q1
      have hst : Hid (OwnS w2 w.heap.size w2.heap.size (.slice (some ⟨w.heap.size, 0, none⟩) n n) n (xs.take k ++ List.replicate (n - k) ⟨0, 0⟩)) := Lib.hid ⟨hown2, fun g hg => (hown2.lt g hg).2⟩
      have hs3 : Hid ((xs.take k ++ List.replicate (n - k) (⟨0, 0⟩ : Sp)).set k (ss xs k) = xs.take (k + 1) ++ List.replicate (n - (k + 1)) (⟨0, 0⟩ : Sp)) := Lib.hid (by
        rw [ss_take_snoc (by omega), List.set_append_right _ _ (by simp; omega)]
        have : k - (xs.take k).length = 0 := by simp; omega
        rw [this, show n - k = (n - (k + 1)) + 1 from by omega, List.replicate_succ]
        simp)
      clear hown hown2 hlg hll q0 q1 c1 c2
      go_wp2
      go_roundw
      case rel =>
        refine ⟨k + 1, by omega, by go_num, ?_, ?_⟩
        · have h3 := (hst.out.stored k (ss xs k) hlt).1
          rw [hs3.out] at h3
          exact h3
        · exact ((hb.trans (hb2.mono hb.size)).trans (Below.setCell (Below.refl _ w2) (p := ⟨w.heap.size, k * 2, none⟩) (Nat.le_refl _) (.int .i64 (ss xs k).l))).setCell (p := ⟨w.heap.size, k * 2 + 1, none⟩) (Nat.le_refl _) (.int .i64 (ss xs k).h)
      case measure => simp [intOf]; omega
    · obtain rfl : n = k := by omega
      go_wp2
      go_ret
      refine ⟨_, rfl, ⟨?_, fun g hg => (hown.lt g hg).2⟩, hb⟩
      simpa [List.take_of_length_le (Nat.le_of_eq hl)] using hown

theorem OwnS.some_ {w : World} {lo hi n c : Nat} {A : Option Addr} {xs : List Sp} (h : OwnS w lo hi (.slice A n c) n xs) (hn : 0 < n) : ∃ g, A = some ⟨g, 0, none⟩ ∧ lo ≤ g ∧ g < hi ∧ g < w.heap.size := by
  obtain ⟨g, cap, hv, h1, h2⟩ := h.1.form hn
  simp only [Value.slice.injEq, true_and] at hv
  obtain ⟨rfl, rfl⟩ := hv
  exact ⟨g, rfl, h1, h.2 g rfl, h2⟩
theorem OwnS.grown {w w' : World} {lo hi n : Nat} {v : Value} {xs : List Sp} {row : Option Nat} (h : OwnS w lo hi v n xs) (hg : w.grownBy w' row) (hne : v.ownBlock = none ∨ v.ownBlock ≠ row) : OwnS w' lo hi v n xs := ⟨h.1.kept hg hne, h.2⟩
/-- The marks of a slice of steps. -/
def pmarks (q : Int) (n : Nat) : List Sp := (List.range n).map fun i : Nat => ⟨q + (i : Int) * 2, q + (i : Int) * 2 + 1⟩
theorem pmarks_len (q : Int) (n : Nat) : (pmarks q n).length = n := by simp [pmarks]
theorem pmarks_set (q : Int) (j n : Nat) (xs : List Sp) (hx : xs.length = n) (h : j < n) : ((pmarks q j ++ xs.drop j).set j ⟨q + (j : Int) * 2, q + (j : Int) * 2 + 1⟩) = pmarks q (j + 1) ++ xs.drop (j + 1) := by
  rw [List.set_append_right _ _ (by simp [pmarks_len])]
  simp only [pmarks_len, Nat.sub_self]
  have hd : xs.drop j = xs[j] :: xs.drop (j + 1) := List.drop_eq_getElem_cons (by omega)
  rw [hd, List.set_cons_zero]
  simp [pmarks, List.range_succ]
theorem OwnS.stored_grown {w : World} {lo hi g n c : Nat} {xs : List Sp} (h : OwnS w lo hi (.slice (some ⟨g, 0, none⟩) n c) n xs) (k : Nat) (x : Sp) :
    w.grownBy ((w.setCell ⟨g, k * 2, none⟩ (.int .i64 x.l)).setCell ⟨g, k * 2 + 1, none⟩ (.int .i64 x.h)) (some g) := by
  obtain ⟨h1, g1⟩ := h.1.stored (k * 2) (.int .i64 x.l)
  obtain ⟨h2, g2⟩ := h1.stored (k * 2 + 1) (.int .i64 x.h)
  exact grownBy_trans g1 g2

set_option maxHeartbeats 400000 in
theorem markStepS_any (A : Option Addr) (n c lo hi : Nat) (q : Int) (xs : List Sp) (w : World) (ha : OwnS w lo hi (.slice A n c) n xs) (hn : n ≤ 2097152) (h0 : 0 ≤ q) (h1 : q ≤ 1000000000000) :
    Calls Try.prog 18 #[.slice A n c, .int .i64 q] w fun e w' => e = .returned (.int .i64 (q + (n : Int) * 2)) ∧ OwnS w' lo hi (.slice A n c) n (pmarks q n) ∧ w.grownBy w' (Value.slice A n c).ownBlock := by
  have hl := ha.len
  go_enter Try.func18, Try.ntmps18
  go_wp2
  go_loopw [1, 5] (fun v i wr => ∃ k : Nat, k ≤ n ∧ i = .int .i64 k ∧ v = .int .i64 (q + (k : Int) * 2) ∧ OwnS wr lo hi (.slice A n c) n (pmarks q k ++ xs.drop k) ∧ w.grownBy wr (Value.slice A n c).ownBlock) (fun _ i _ => n - (intOf i).toNat)
  case atStart => exact ⟨0, Nat.zero_le _, rfl, by simp, by simpa [pmarks] using ha, World.grownBy.refl _ _⟩
  case round =>
    clear ha
    obtain ⟨k, hk, rfl, rfl, hown, hgb⟩ := hrel
    by_cases hlt : k < n
    · obtain ⟨g, rfl, _, _, hgs⟩ := hown.some_ (by omega)
      have hs1 := hown.stored k ⟨q + (k : Int) * 2, q + (k : Int) * 2 + 1⟩ hlt
      rw [pmarks_set q k n xs hl hlt] at hs1
      have hgb2 := grownBy_trans hgb (OwnS.stored_grown hown k ⟨q + (k : Int) * 2, q + (k : Int) * 2 + 1⟩)
      obtain ⟨q0, q1⟩ := pcells_at (pmarks q k ++ xs.drop k) k (by simp [pmarks_len]; omega)
      have f0 := hown.1.frozenAt (k * 2)
      have f1 := hown.1.frozenAt (k * 2 + 1)
      have d0 := (hown.1.cellAt (k * 2) (by omega)).trans q0
      have d1 := (hown.1.cellAt (k * 2 + 1) (by omega)).trans q1
      clear q0 q1 hown hgb
      go_wp2
      go_roundw
      case rel => exact ⟨k + 1, by omega, by go_num, by go_num, hs1, hgb2⟩
      case measure => simp [intOf]; omega
    · obtain rfl : n = k := by omega
      rw [List.drop_of_length_le (by omega), List.append_nil] at hown
      go_wp2
      go_ret
      exact ⟨rfl, hown, hgb⟩

theorem markStepS_c (A : Option Addr) (n c lo hi : Nat) (q : Int) (xs : List Sp) (w : World) (ha : OwnS w lo hi (.slice A n c) n xs) (hn : n ≤ 2097152) (h0 : 0 ≤ q) (h1 : q ≤ 1000000000000) :
    Calls Try.prog 18 #[.slice A n c, .int .i64 q] w fun e w' => e = .returned (.int .i64 (q + (n : Int) * 2)) ∧ OwnS w' lo hi (.slice A n c) n (pmarks q n) ∧ Chg lo hi w w' :=
  (markStepS_any A n c lo hi q xs w ha hn h0 h1).mono fun _ _ ⟨h1, h2, h3⟩ => ⟨h1, h2, ⟨h3.os, h3.tape, h3.output, h3.size, fun i hi ho => h3.block i hi (fun he => by have := ha.lt i he.symm; omega)⟩⟩
theorem eqStepS_b (A B : Option Addr) (n c d : Nat) (xs : List Sp) (w : World) (ha : RS w A n xs) (hb : RS w B n xs) (hn : n ≤ 2097152) :
    Calls Try.prog 17 #[.slice A n c, .slice B n d] w fun e w' => e = .returned (.bool true) ∧ Below w.heap.size w w' := eqStepS_any A B n c d xs w ha hb hn

theorem OwnS.chg {w w' : World} {lo hi lo' hi' n : Nat} {v : Value} {xs : List Sp} (h : OwnS w lo hi v n xs) (k : Chg lo' hi' w w') (hd : hi ≤ lo' ∨ hi' ≤ lo) : OwnS w' lo hi v n xs := by
  refine ⟨⟨h.1.1, ?_⟩, h.2⟩
  rcases h.1.2 with h1 | ⟨g, cap, cur, rfl, hlo, hg, r⟩
  · exact .inl h1
  · have hl := h.lt g (by simp [Value.ownBlock])
    exact .inr ⟨g, cap, cur, rfl, hlo, by rw [k.block g (by omega) (by omega)]; exact hg, r⟩

end Go.Proofs.Ytgpfiefhhlejfaa
