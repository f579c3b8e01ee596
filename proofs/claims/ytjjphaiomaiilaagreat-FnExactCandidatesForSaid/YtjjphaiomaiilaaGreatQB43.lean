/- Contracts of the laws' own words for lines: conversion. Lengths below 2^21. -/
import Derived.Test.YtjjphaiomaiilaaGreatQB42
import Derived.Test.YtjjphaiomaiilaaGreatQB01
import Derived.Test.YtjjphaiomaiilaaGreatQB29
namespace Go.Proofs.YtjjphaiomaiilaaGreat
open Go.RowKit
set_option linter.unusedVariables false
set_option linter.unusedSimpArgs false
def OwnXs (w : World) (lo hi g : Nat) (P : Option Addr) (ps : List Str) : Prop :=
  0 < ps.length → ∃ b, P = some ⟨b, 0, none⟩ ∧ lo ≤ b ∧ b < hi ∧ b < w.heap.size ∧ b ≠ g ∧ ∀ i, i < ps.length → w.cell? ⟨b, i, none⟩ = some (.string (bs (sx ps i))) ∧ w.frozen? ⟨b, i, none⟩ = false
def OwnLn (w : World) (lo hi : Nat) (v : Value) (n : Nat) (l : List Ln) : Prop :=
  l.length = n ∧ ∃ A c, v = .slice A n c ∧ (0 < n → ∃ g, A = some ⟨g, 0, none⟩ ∧ lo ≤ g ∧ g < hi ∧ g < w.heap.size ∧ ∀ j, j < n → (∀ r, r < 7 → w.frozen? ⟨g, j * 7 + r, none⟩ = false) ∧ ∃ P q, LnAt w g (j * 7) (lx l j) P q ∧ OwnXs w lo hi g P (lx l j).parts)
theorem OwnXs.reads {w : World} {lo hi g : Nat} {P : Option Addr} {ps : List Str} (h : OwnXs w lo hi g P ps) : RX w P ps.length ps :=
  ⟨rfl, fun hn => by
    obtain ⟨b, h1, _, _, h4, _, h6⟩ := h hn
    exact ⟨b, 0, h1, h4, fun j hj => by rw [Nat.zero_add]; exact (h6 j hj).1⟩⟩
theorem OwnLn.len {w : World} {lo hi n : Nat} {v : Value} {l : List Ln} (h : OwnLn w lo hi v n l) : l.length = n := h.1
theorem OwnLn.reads {w : World} {lo hi n c : Nat} {A : Option Addr} {l : List Ln} (h : OwnLn w lo hi (.slice A n c) n l) : RLn w A n l := by
  obtain ⟨h1, A', c', hv, h2⟩ := h
  simp only [Value.slice.injEq, true_and] at hv
  obtain ⟨rfl, rfl⟩ := hv
  refine ⟨h1, fun hn => ?_⟩
  obtain ⟨g, hA, h3, h4, h5, h6⟩ := h2 hn
  refine ⟨g, 0, hA, h5, fun j hj => ?_⟩
  obtain ⟨_, P, q, h7, h8⟩ := h6 j hj
  exact ⟨P, q, by rw [Nat.zero_add]; exact h7, h8.reads⟩
theorem OwnLn.keep {w w' : World} {lo hi n : Nat} {v : Value} {l : List Ln} (h : OwnLn w lo hi v n l) (hs : w.heap.size ≤ w'.heap.size) (hk : ∀ k, lo ≤ k → k < hi → k < w.heap.size → w'.heap[k]? = w.heap[k]?) : OwnLn w' lo hi v n l := by
  obtain ⟨h1, A, c, rfl, h2⟩ := h
  refine ⟨h1, A, c, rfl, fun hn => ?_⟩
  obtain ⟨g, hA, h3, h4, h5, h6⟩ := h2 hn
  have cl : ∀ (b i : Nat) (u : Value), lo ≤ b → b < hi → b < w.heap.size → w.cell? ⟨b, i, none⟩ = some u → w'.cell? ⟨b, i, none⟩ = some u := fun b i u a1 a2 a3 hu => (World.cell?_of_block (w := w) (a := ⟨b, i, none⟩) (hk b a1 a2 a3)).trans hu
  have fr : ∀ (b i : Nat), lo ≤ b → b < hi → b < w.heap.size → w.frozen? ⟨b, i, none⟩ = false → w'.frozen? ⟨b, i, none⟩ = false := fun b i a1 a2 a3 hu => (World.frozen?_of_block (w := w) (a := ⟨b, i, none⟩) (hk b a1 a2 a3)).trans hu
  refine ⟨g, hA, h3, h4, Nat.lt_of_lt_of_le h5 hs, fun j hj => ?_⟩
  obtain ⟨hf, P, q, ⟨c0, c1, c2, c3, c4, c5, c6⟩, h8⟩ := h6 j hj
  refine ⟨fun r hr => fr _ _ h3 h4 h5 (hf r hr), P, q, ⟨cl _ _ _ h3 h4 h5 c0, cl _ _ _ h3 h4 h5 c1, cl _ _ _ h3 h4 h5 c2, cl _ _ _ h3 h4 h5 c3, cl _ _ _ h3 h4 h5 c4, cl _ _ _ h3 h4 h5 c5, cl _ _ _ h3 h4 h5 c6⟩, fun hp => ?_⟩
  obtain ⟨b, e1, e2, e3, e4, e5, e6⟩ := h8 hp
  exact ⟨b, e1, e2, e3, Nat.lt_of_lt_of_le e4 hs, e5, fun i hi => ⟨cl _ _ _ e2 e3 e4 (e6 i hi).1, fr _ _ e2 e3 e4 (e6 i hi).2⟩⟩
theorem OwnLn.below {w w' : World} {lo hi n B : Nat} {v : Value} {l : List Ln} (h : OwnLn w lo hi v n l) (k : Below B w w') (hB : w.heap.size ≤ B ∨ hi ≤ B) : OwnLn w' lo hi v n l :=
  h.keep k.size fun i _ h2 h3 => k.block i (by omega)
theorem OwnLn.chg {w w' : World} {lo hi lo' hi' n : Nat} {v : Value} {l : List Ln} (h : OwnLn w lo hi v n l) (k : Chg lo' hi' w w') (hd : hi ≤ lo' ∨ hi' ≤ lo) : OwnLn w' lo hi v n l :=
  h.keep k.size fun i h1 h2 h3 => k.block i h3 (by omega)
theorem info_str : (Tryz.prog.info? 9).map (fun i => (i.zero, i.size, i.bytes)) = some (some (.string ⟨#[]⟩), 1, 16) := by kernel_rfl
set_option maxHeartbeats 800000 in
theorem toStringS_any (A : Option Addr) (n c : Nat) (ps : List Str) (w : World) (ha : RX w A n ps) (hn : n ≤ 2097152) :
    Calls Tryz.prog 97 #[.slice A n c] w fun e w' => ∃ B, e = .returned (.slice (some ⟨B, 0, none⟩) n n) ∧ w.heap.size ≤ B ∧ B < w'.heap.size ∧ (∀ i, i < n → w'.cell? ⟨B, i, none⟩ = some (.string (bs (sx ps i))) ∧ w'.frozen? ⟨B, i, none⟩ = false) ∧ Below w.heap.size w w' := by
  obtain ⟨i0, hi, hz0, hz1, hz2⟩ := info_parts info_str
  have hl := ha.len
  go_enter Tryz.func97, Tryz.ntmps97
  go_wp2_with (at_make; refine wpList_make_full _ rfl _ _ 57 rfl w.heap.size 9 i0 (.string ⟨#[]⟩) 1 Tryz.underlying57 hi hz0 hz1 _ _ _ _ n rfl rfl rfl rfl (by rw [hz2]; omega) (by unfold maxLen; omega) (Nat.le_refl _) ?_; intro w1 hown hgrow)
  have hb1 : Below w.heap.size w w1 := below_of_grownBy hgrow
  have hst : w.heap.size < w1.heap.size ∧ (∀ i, i < n → (∃ u, w1.cell? ⟨w.heap.size, i, none⟩ = some u) ∧ w1.frozen? ⟨w.heap.size, i, none⟩ = false) := by
    refine ⟨(hown.lt w.heap.size (by simp [Value.ownBlock])).2, fun i hi => ⟨?_, hown.frozenAt i⟩⟩
    have h1 := hown.cellAt i (by omega)
    have h2 : i < ((madeCells (Value.string ⟨#[]⟩).cells (n * 1)).toList).length := by simp [madeCells]; omega
    rw [List.getElem?_eq_getElem h2] at h1
    exact ⟨_, h1⟩
  clear hown hgrow
  go_loopw [4] (fun i wr => ∃ k : Nat, k ≤ n ∧ i = .int .i64 k ∧ w.heap.size < wr.heap.size ∧ (∀ i, i < n → (∃ u, wr.cell? ⟨w.heap.size, i, none⟩ = some u) ∧ wr.frozen? ⟨w.heap.size, i, none⟩ = false) ∧ (∀ i, i < k → wr.cell? ⟨w.heap.size, i, none⟩ = some (.string (bs (sx ps i)))) ∧ Below w.heap.size w wr) (fun i _ => n - (intOf i).toNat)
  case atStart => exact ⟨0, Nat.zero_le _, rfl, hst.1, hst.2, fun i hi => by omega, hb1⟩
  case round =>
    clear hst hb1
    obtain ⟨k, hk, rfl, hsz, hex, hdone, hb⟩ := hrel
    by_cases hlt : k < n
    · obtain ⟨b, o, rfl, hbB, c1⟩ := (ha.below hb (Nat.le_refl _)).at_ hlt
      obtain ⟨⟨u, d0⟩, f0⟩ := hex k hlt
      have hex2 : ∀ i, i < n → (∃ u, (wr.setCell ⟨w.heap.size, k, none⟩ (.string (bs (sx ps k)))).cell? ⟨w.heap.size, i, none⟩ = some u) ∧ (wr.setCell ⟨w.heap.size, k, none⟩ (.string (bs (sx ps k)))).frozen? ⟨w.heap.size, i, none⟩ = false := fun i hi => by
        refine ⟨?_, (World.frozen?_setCell _ _ _ _).trans (hex i hi).2⟩
        by_cases hik : i = k
        · subst hik; exact ⟨_, World.cell?_setCell_same _ _ _ d0⟩
        · obtain ⟨v, hv⟩ := (hex i hi).1
          exact ⟨v, (World.cell?_setCell_other _ _ _ _ (by simp <;> omega)).trans hv⟩
      have hdone2 : ∀ i, i < k + 1 → (wr.setCell ⟨w.heap.size, k, none⟩ (.string (bs (sx ps k)))).cell? ⟨w.heap.size, i, none⟩ = some (.string (bs (sx ps i))) := fun i hi => by
        by_cases hik : i = k
        · subst hik; exact World.cell?_setCell_same _ _ _ d0
        · exact (World.cell?_setCell_other _ _ _ _ (by simp <;> omega)).trans (hdone i (by omega))
      have hb2 := hb.setCell (p := ⟨w.heap.size, k, none⟩) (Nat.le_refl _) (.string (bs (sx ps k)))
      have hsz2 : w.heap.size < (wr.setCell ⟨w.heap.size, k, none⟩ (.string (bs (sx ps k)))).heap.size := by simpa using hsz
      clear hex hdone hb hsz ha
      go_wp2
      go_roundw
      case rel => exact ⟨k + 1, by omega, by go_num, hsz2, hex2, hdone2, hb2⟩
      case measure => simp [intOf]; omega
    · obtain rfl : n = k := by omega
      go_wp2
      go_ret
      exact ⟨_, rfl, Nat.le_refl _, hsz, fun i hi => ⟨hdone i hi, (hex i hi).2⟩, hb⟩
def ln7 (V : World) (B o : Nat) (x : Ln) (P : Option Addr) (q : Nat) : World :=
  ((((((V.setCell ⟨B, o, none⟩ (.int .i64 x.kind)).setCell ⟨B, o + 1, none⟩ (.string (bs x.name))).setCell ⟨B, o + 2, none⟩ (.string (bs x.op))).setCell ⟨B, o + 3, none⟩ (.slice P x.parts.length q)).setCell ⟨B, o + 4, none⟩ (.int .i64 x.party)).setCell ⟨B, o + 5, none⟩ (.int .i64 x.width)).setCell ⟨B, o + 6, none⟩ (.int .i64 x.value)
section
variable {V : World} {B o q : Nat} {x : Ln} {P : Option Addr}
theorem ln7_other {p : Addr} (h : p.block ≠ B ∨ ∀ i, i < 7 → p.off ≠ o + i) : (ln7 V B o x P q).cell? p = V.cell? p := by
  have ne : ∀ i, i < 7 → (⟨B, o + i, none⟩ : Addr) ≠ p := fun i hi hc => by
    subst hc
    rcases h with h | h
    · exact h rfl
    · exact h i hi rfl
  have n0 : (⟨B, o, none⟩ : Addr) ≠ p := ne 0 (by omega)
  unfold ln7
  rw [World.cell?_setCell_other _ _ _ _ (ne 6 (by omega)), World.cell?_setCell_other _ _ _ _ (ne 5 (by omega)), World.cell?_setCell_other _ _ _ _ (ne 4 (by omega)), World.cell?_setCell_other _ _ _ _ (ne 3 (by omega)), World.cell?_setCell_other _ _ _ _ (ne 2 (by omega)), World.cell?_setCell_other _ _ _ _ (ne 1 (by omega)), World.cell?_setCell_other _ _ _ _ n0]
theorem ln7_at (h : ∀ i, i < 7 → ∃ u, V.cell? ⟨B, o + i, none⟩ = some u) : LnAt (ln7 V B o x P q) B o x P q := by
  have ot : ∀ (w : World) (i j : Nat) (v : Value) (u : Value), i ≠ j → w.cell? ⟨B, o + i, none⟩ = some u → (w.setCell ⟨B, o + j, none⟩ v).cell? ⟨B, o + i, none⟩ = some u := fun w i j v u hij h => (World.cell?_setCell_other _ _ _ _ (by simp <;> omega)).trans h
  have sa : ∀ (w : World) (i : Nat) (v : Value) (u : Value), w.cell? ⟨B, o + i, none⟩ = some u → (w.setCell ⟨B, o + i, none⟩ v).cell? ⟨B, o + i, none⟩ = some v := fun w i v u h => World.cell?_setCell_same _ _ _ h
  obtain ⟨u0, r0⟩ := h 0 (by omega)
  obtain ⟨u1, r1⟩ := h 1 (by omega)
  obtain ⟨u2, r2⟩ := h 2 (by omega)
  obtain ⟨u3, r3⟩ := h 3 (by omega)
  obtain ⟨u4, r4⟩ := h 4 (by omega)
  obtain ⟨u5, r5⟩ := h 5 (by omega)
  obtain ⟨u6, r6⟩ := h 6 (by omega)
  refine ⟨?_, ?_, ?_, ?_, ?_, ?_, ?_⟩
  · exact ot _ 0 6 _ _ (by decide) (ot _ 0 5 _ _ (by decide) (ot _ 0 4 _ _ (by decide) (ot _ 0 3 _ _ (by decide) (ot _ 0 2 _ _ (by decide) (ot _ 0 1 _ _ (by decide) (sa _ 0 _ _ r0))))))
  · exact ot _ 1 6 _ _ (by decide) (ot _ 1 5 _ _ (by decide) (ot _ 1 4 _ _ (by decide) (ot _ 1 3 _ _ (by decide) (ot _ 1 2 _ _ (by decide) (sa _ 1 _ _ (ot _ 1 0 _ _ (by decide) r1))))))
  · exact ot _ 2 6 _ _ (by decide) (ot _ 2 5 _ _ (by decide) (ot _ 2 4 _ _ (by decide) (ot _ 2 3 _ _ (by decide) (sa _ 2 _ _ (ot _ 2 1 _ _ (by decide) (ot _ 2 0 _ _ (by decide) r2))))))
  · exact ot _ 3 6 _ _ (by decide) (ot _ 3 5 _ _ (by decide) (ot _ 3 4 _ _ (by decide) (sa _ 3 _ _ (ot _ 3 2 _ _ (by decide) (ot _ 3 1 _ _ (by decide) (ot _ 3 0 _ _ (by decide) r3))))))
  · exact ot _ 4 6 _ _ (by decide) (ot _ 4 5 _ _ (by decide) (sa _ 4 _ _ (ot _ 4 3 _ _ (by decide) (ot _ 4 2 _ _ (by decide) (ot _ 4 1 _ _ (by decide) (ot _ 4 0 _ _ (by decide) r4))))))
  · exact ot _ 5 6 _ _ (by decide) (sa _ 5 _ _ (ot _ 5 4 _ _ (by decide) (ot _ 5 3 _ _ (by decide) (ot _ 5 2 _ _ (by decide) (ot _ 5 1 _ _ (by decide) (ot _ 5 0 _ _ (by decide) r5))))))
  · exact sa _ 6 _ _ (ot _ 6 5 _ _ (by decide) (ot _ 6 4 _ _ (by decide) (ot _ 6 3 _ _ (by decide) (ot _ 6 2 _ _ (by decide) (ot _ 6 1 _ _ (by decide) (ot _ 6 0 _ _ (by decide) r6))))))
theorem ln7_size : (ln7 V B o x P q).heap.size = V.heap.size := by simp [ln7]
theorem ln7_frozen (p : Addr) : (ln7 V B o x P q).frozen? p = V.frozen? p := by
  unfold ln7
  rw [World.frozen?_setCell, World.frozen?_setCell, World.frozen?_setCell, World.frozen?_setCell, World.frozen?_setCell, World.frozen?_setCell, World.frozen?_setCell]
theorem ln7_alt : Alt (fun i => i = B) V (ln7 V B o x P q) :=
  ((((((((Alt.refl_ (fun i => i = B) V).set_ _ _ (fun _ => rfl)).set_ _ _ (fun _ => rfl)).set_ _ _ (fun _ => rfl)).set_ _ _ (fun _ => rfl)).set_ _ _ (fun _ => rfl)).set_ _ _ (fun _ => rfl)).set_ _ _ (fun _ => rfl))
end
set_option maxHeartbeats 1600000 in
theorem toLine_any (x : Ln) (P : Option Addr) (q : Nat) (w : World) (hp : RX w P x.parts.length x.parts) (hn : x.parts.length ≤ 2097152) :
    Calls Tryz.prog 46 #[lnV x P q] w fun e w' => ∃ B, e = .returned (lnV x (some ⟨B, 0, none⟩) x.parts.length) ∧ w.heap.size ≤ B ∧ B < w'.heap.size ∧ (∀ i, i < x.parts.length → w'.cell? ⟨B, i, none⟩ = some (.string (bs (sx x.parts i))) ∧ w'.frozen? ⟨B, i, none⟩ = false) ∧ Below w.heap.size w w' := by
  have hs1 : (w.alloc (.cells #[.int .i64 x.kind, .string (bs x.name), .string (bs x.op), .slice P x.parts.length q, .int .i64 x.party, .int .i64 x.width, .int .i64 x.value] 59)).heap.size = w.heap.size + 1 := by simp
  have k0 := LnAt.new w x P q 59
  have hb1 : Below w.heap.size w (w.alloc (.cells #[.int .i64 x.kind, .string (bs x.name), .string (bs x.op), .slice P x.parts.length q, .int .i64 x.party, .int .i64 x.width, .int .i64 x.value] 59)) := (Below.refl _ _).alloc (Nat.le_refl _) _
  go_enter Tryz.func46, Tryz.ntmps46
  go_wp2_with fail
  generalize hW1 : w.alloc (.cells #[.int .i64 x.kind, .string (bs x.name), .string (bs x.op), .slice P x.parts.length q, .int .i64 x.party, .int .i64 x.width, .int .i64 x.value] 59) = W1 at *
  clear hW1
  have hsA : (W1.alloc (.cells #[.int .i64 0, .string ⟨#[]⟩, .string ⟨#[]⟩, .slice none 0 0, .int .i64 0, .int .i64 0, .int .i64 0] 68)).heap.size = w.heap.size + 1 + 1 := by simp [hs1]
  have hbA : Below W1.heap.size W1 ((W1.alloc (.cells #[.int .i64 0, .string ⟨#[]⟩, .string ⟨#[]⟩, .slice none 0 0, .int .i64 0, .int .i64 0, .int .i64 0] 68)).alloc (.cells #[.int .i64 x.kind, .string (bs x.name), .string (bs x.op), .slice none 0 0, .int .i64 0, .int .i64 0, .int .i64 0] 68)) := ((Below.refl _ _).alloc (Nat.le_refl _) _).alloc (by simp) _
  have kW := k0.below hbA (by omega)
  have zz : ∀ (i : Nat) (v : Value), (W1.alloc (.cells #[.int .i64 0, .string ⟨#[]⟩, .string ⟨#[]⟩, .slice none 0 0, .int .i64 0, .int .i64 0, .int .i64 0] 68)).cell? ⟨W1.heap.size, i, none⟩ = some v → ((W1.alloc (.cells #[.int .i64 0, .string ⟨#[]⟩, .string ⟨#[]⟩, .slice none 0 0, .int .i64 0, .int .i64 0, .int .i64 0] 68)).alloc (.cells #[.int .i64 x.kind, .string (bs x.name), .string (bs x.op), .slice none 0 0, .int .i64 0, .int .i64 0, .int .i64 0] 68)).cell? ⟨w.heap.size + 1, i, none⟩ = some v := fun i v h => by
    rw [hs1] at h
    exact cell_on ((Below.refl _ _).alloc (Nat.le_refl _) _) h (Nat.le_refl _)
  have dd : ∀ (i : Nat) (v : Value), ((W1.alloc (.cells #[.int .i64 0, .string ⟨#[]⟩, .string ⟨#[]⟩, .slice none 0 0, .int .i64 0, .int .i64 0, .int .i64 0] 68)).alloc (.cells #[.int .i64 x.kind, .string (bs x.name), .string (bs x.op), .slice none 0 0, .int .i64 0, .int .i64 0, .int .i64 0] 68)).cell? ⟨(W1.alloc (.cells #[.int .i64 0, .string ⟨#[]⟩, .string ⟨#[]⟩, .slice none 0 0, .int .i64 0, .int .i64 0, .int .i64 0] 68)).heap.size, i, none⟩ = some v → ((W1.alloc (.cells #[.int .i64 0, .string ⟨#[]⟩, .string ⟨#[]⟩, .slice none 0 0, .int .i64 0, .int .i64 0, .int .i64 0] 68)).alloc (.cells #[.int .i64 x.kind, .string (bs x.name), .string (bs x.op), .slice none 0 0, .int .i64 0, .int .i64 0, .int .i64 0] 68)).cell? ⟨w.heap.size + 1 + 1, i, none⟩ = some v := fun i v h => by
    rwa [hsA] at h
  have z0 := zz 0 _ (box_cell _ _ 0 _ rfl); have z1 := zz 1 _ (box_cell _ _ 1 _ rfl); have z2 := zz 2 _ (box_cell _ _ 2 _ rfl); have z3 := zz 3 _ (box_cell _ _ 3 _ rfl); have z4 := zz 4 _ (box_cell _ _ 4 _ rfl); have z5 := zz 5 _ (box_cell _ _ 5 _ rfl); have z6 := zz 6 _ (box_cell _ _ 6 _ rfl)
  have d0 := dd 0 _ (box_cell _ _ 0 _ rfl); have d1 := dd 1 _ (box_cell _ _ 1 _ rfl); have d2 := dd 2 _ (box_cell _ _ 2 _ rfl); have d3 := dd 3 _ (box_cell _ _ 3 _ rfl); have d4 := dd 4 _ (box_cell _ _ 4 _ rfl); have d5 := dd 5 _ (box_cell _ _ 5 _ rfl); have d6 := dd 6 _ (box_cell _ _ 6 _ rfl)
  have fZ : Fz ((W1.alloc (.cells #[.int .i64 0, .string ⟨#[]⟩, .string ⟨#[]⟩, .slice none 0 0, .int .i64 0, .int .i64 0, .int .i64 0] 68)).alloc (.cells #[.int .i64 x.kind, .string (bs x.name), .string (bs x.op), .slice none 0 0, .int .i64 0, .int .i64 0, .int .i64 0] 68)) (w.heap.size + 1) := by
    have h := (Fz.new W1 #[.int .i64 0, .string ⟨#[]⟩, .string ⟨#[]⟩, .slice none 0 0, .int .i64 0, .int .i64 0, .int .i64 0] 68).below ((Below.refl _ _).alloc (Nat.le_refl _) (.cells #[.int .i64 x.kind, .string (bs x.name), .string (bs x.op), .slice none 0 0, .int .i64 0, .int .i64 0, .int .i64 0] 68)) (by simp)
    rwa [hs1] at h
  have fD : Fz ((W1.alloc (.cells #[.int .i64 0, .string ⟨#[]⟩, .string ⟨#[]⟩, .slice none 0 0, .int .i64 0, .int .i64 0, .int .i64 0] 68)).alloc (.cells #[.int .i64 x.kind, .string (bs x.name), .string (bs x.op), .slice none 0 0, .int .i64 0, .int .i64 0, .int .i64 0] 68)) (w.heap.size + 1 + 1) := by
    have h := Fz.new (W1.alloc (.cells #[.int .i64 0, .string ⟨#[]⟩, .string ⟨#[]⟩, .slice none 0 0, .int .i64 0, .int .i64 0, .int .i64 0] 68)) #[.int .i64 x.kind, .string (bs x.name), .string (bs x.op), .slice none 0 0, .int .i64 0, .int .i64 0, .int .i64 0] 68
    rwa [hsA] at h
  have hpc := (hp.below hb1 (Nat.le_refl _)).below hbA (Nat.le_refl _)
  have hszc : ((W1.alloc (.cells #[.int .i64 0, .string ⟨#[]⟩, .string ⟨#[]⟩, .slice none 0 0, .int .i64 0, .int .i64 0, .int .i64 0] 68)).alloc (.cells #[.int .i64 x.kind, .string (bs x.name), .string (bs x.op), .slice none 0 0, .int .i64 0, .int .i64 0, .int .i64 0] 68)).heap.size = w.heap.size + 1 + 1 + 1 := by simp [hs1]
  have hbc := hb1.trans (hbA.mono hb1.size)
  clear zz dd hp hb1 hbA k0 hsA
  generalize hWc : (W1.alloc (.cells #[.int .i64 0, .string ⟨#[]⟩, .string ⟨#[]⟩, .slice none 0 0, .int .i64 0, .int .i64 0, .int .i64 0] 68)).alloc (.cells #[.int .i64 x.kind, .string (bs x.name), .string (bs x.op), .slice none 0 0, .int .i64 0, .int .i64 0, .int .i64 0] 68) = Wc at *
  clear hWc hs1
  refine (toStringS_any P x.parts.length q x.parts _ hpc hn).mono ?_
  rintro e w4 ⟨B, rfl, hB1, hB2, hBc, hb4⟩
  have up : ∀ (b i : Nat) (v : Value), Wc.cell? ⟨b, i, none⟩ = some v → w4.cell? ⟨b, i, none⟩ = some v := fun b i v h => cell_on hb4 h (Nat.le_refl _)
  have kW4 := kW.below hb4 (by omega)
  replace z0 := up _ _ _ z0; replace z1 := up _ _ _ z1; replace z2 := up _ _ _ z2; replace z3 := up _ _ _ z3; replace z4 := up _ _ _ z4; replace z5 := up _ _ _ z5; replace z6 := up _ _ _ z6
  replace d0 := up _ _ _ d0; replace d1 := up _ _ _ d1; replace d2 := up _ _ _ d2; replace d3 := up _ _ _ d3; replace d4 := up _ _ _ d4; replace d5 := up _ _ _ d5; replace d6 := up _ _ _ d6
  have fZ4 := fZ.below hb4 (by omega)
  have fD4 := fD.below hb4 (by omega)
  have a3 := fD4 3; have a4 := fD4 4; have a5 := fD4 5; have a6 := fD4 6
  have b0 := fZ4 0; have b1 := fZ4 1; have b2 := fZ4 2; have b3 := fZ4 3; have b4 := fZ4 4; have b5 := fZ4 5; have b6 := fZ4 6
  have far : ∀ (i : Nat) (v : Value), w4.cell? ⟨w.heap.size + 1, i, none⟩ = some v → ((((w4.setCell ⟨w.heap.size + 1 + 1, 3, none⟩ (.slice (some ⟨B, 0, none⟩) x.parts.length x.parts.length)).setCell ⟨w.heap.size + 1 + 1, 4, none⟩ (.int .i64 x.party)).setCell ⟨w.heap.size + 1 + 1, 5, none⟩ (.int .i64 x.width)).setCell ⟨w.heap.size + 1 + 1, 6, none⟩ (.int .i64 x.value)).cell? ⟨w.heap.size + 1, i, none⟩ = some v := fun i v h =>
    (World.cell?_setCell_other _ _ _ _ (by simp)).trans ((World.cell?_setCell_other _ _ _ _ (by simp)).trans ((World.cell?_setCell_other _ _ _ _ (by simp)).trans ((World.cell?_setCell_other _ _ _ _ (by simp)).trans h)))
  have zV : ∀ i, i < 7 → ∃ u, ((((w4.setCell ⟨w.heap.size + 1 + 1, 3, none⟩ (.slice (some ⟨B, 0, none⟩) x.parts.length x.parts.length)).setCell ⟨w.heap.size + 1 + 1, 4, none⟩ (.int .i64 x.party)).setCell ⟨w.heap.size + 1 + 1, 5, none⟩ (.int .i64 x.width)).setCell ⟨w.heap.size + 1 + 1, 6, none⟩ (.int .i64 x.value)).cell? ⟨w.heap.size + 1, 0 + i, none⟩ = some u := fun i hi => by
    rw [Nat.zero_add]
    rcases (show i = 0 ∨ i = 1 ∨ i = 2 ∨ i = 3 ∨ i = 4 ∨ i = 5 ∨ i = 6 by omega) with rfl | rfl | rfl | rfl | rfl | rfl | rfl
    · exact ⟨_, far _ _ z0⟩
    · exact ⟨_, far _ _ z1⟩
    · exact ⟨_, far _ _ z2⟩
    · exact ⟨_, far _ _ z3⟩
    · exact ⟨_, far _ _ z4⟩
    · exact ⟨_, far _ _ z5⟩
    · exact ⟨_, far _ _ z6⟩
  have hLn := ln7_at (x := x) (P := some ⟨B, 0, none⟩) (q := x.parts.length) zV
  have kv : Alt (fun i => i = w.heap.size + 1 ∨ i = w.heap.size + 1 + 1) w4 (ln7 ((((w4.setCell ⟨w.heap.size + 1 + 1, 3, none⟩ (.slice (some ⟨B, 0, none⟩) x.parts.length x.parts.length)).setCell ⟨w.heap.size + 1 + 1, 4, none⟩ (.int .i64 x.party)).setCell ⟨w.heap.size + 1 + 1, 5, none⟩ (.int .i64 x.width)).setCell ⟨w.heap.size + 1 + 1, 6, none⟩ (.int .i64 x.value)) (w.heap.size + 1) 0 x (some ⟨B, 0, none⟩) x.parts.length) :=
    ((((((Alt.refl_ (fun i => i = w.heap.size + 1 ∨ i = w.heap.size + 1 + 1) w4).set_ _ _ (fun _ => .inr rfl)).set_ _ _ (fun _ => .inr rfl)).set_ _ _ (fun _ => .inr rfl)).set_ _ _ (fun _ => .inr rfl)).trans_ ln7_alt (fun i _ h => .inl h))
  have hfin : Hid (∃ B', (Ending.returned (lnV x (some ⟨B, 0, none⟩) x.parts.length)) = .returned (lnV x (some ⟨B', 0, none⟩) x.parts.length) ∧ w.heap.size ≤ B' ∧ B' < (ln7 ((((w4.setCell ⟨w.heap.size + 1 + 1, 3, none⟩ (.slice (some ⟨B, 0, none⟩) x.parts.length x.parts.length)).setCell ⟨w.heap.size + 1 + 1, 4, none⟩ (.int .i64 x.party)).setCell ⟨w.heap.size + 1 + 1, 5, none⟩ (.int .i64 x.width)).setCell ⟨w.heap.size + 1 + 1, 6, none⟩ (.int .i64 x.value)) (w.heap.size + 1) 0 x (some ⟨B, 0, none⟩) x.parts.length).heap.size ∧ (∀ i, i < x.parts.length → (ln7 ((((w4.setCell ⟨w.heap.size + 1 + 1, 3, none⟩ (.slice (some ⟨B, 0, none⟩) x.parts.length x.parts.length)).setCell ⟨w.heap.size + 1 + 1, 4, none⟩ (.int .i64 x.party)).setCell ⟨w.heap.size + 1 + 1, 5, none⟩ (.int .i64 x.width)).setCell ⟨w.heap.size + 1 + 1, 6, none⟩ (.int .i64 x.value)) (w.heap.size + 1) 0 x (some ⟨B, 0, none⟩) x.parts.length).cell? ⟨B', i, none⟩ = some (.string (bs (sx x.parts i))) ∧ (ln7 ((((w4.setCell ⟨w.heap.size + 1 + 1, 3, none⟩ (.slice (some ⟨B, 0, none⟩) x.parts.length x.parts.length)).setCell ⟨w.heap.size + 1 + 1, 4, none⟩ (.int .i64 x.party)).setCell ⟨w.heap.size + 1 + 1, 5, none⟩ (.int .i64 x.width)).setCell ⟨w.heap.size + 1 + 1, 6, none⟩ (.int .i64 x.value)) (w.heap.size + 1) 0 x (some ⟨B, 0, none⟩) x.parts.length).frozen? ⟨B', i, none⟩ = false) ∧ Below w.heap.size w (ln7 ((((w4.setCell ⟨w.heap.size + 1 + 1, 3, none⟩ (.slice (some ⟨B, 0, none⟩) x.parts.length x.parts.length)).setCell ⟨w.heap.size + 1 + 1, 4, none⟩ (.int .i64 x.party)).setCell ⟨w.heap.size + 1 + 1, 5, none⟩ (.int .i64 x.width)).setCell ⟨w.heap.size + 1 + 1, 6, none⟩ (.int .i64 x.value)) (w.heap.size + 1) 0 x (some ⟨B, 0, none⟩) x.parts.length)) := Lib.hid (by
    refine ⟨B, rfl, by omega, Nat.lt_of_lt_of_le hB2 kv.size, fun i hi => ⟨kv.cell_ (hBc i hi).1 (fun hc => by rcases hc with hc | hc; (have h9 : B = w.heap.size + 1 := hc; omega); (have h9 : B = w.heap.size + 1 + 1 := hc; omega)), ?_⟩, ?_⟩
    · exact (World.frozen?_of_block (w := w4) (a := ⟨B, i, none⟩) (kv.block B hB2 (fun hc => by rcases hc with hc | hc <;> omega))).trans (hBc i hi).2
    · exact (hbc.trans (hb4.mono (by omega))).trans (kv.below_ (by have := hb4.size; omega) (fun i hi hc => by rcases hc with hc | hc <;> omega)))
  have hLh := Lib.hid hLn
  obtain ⟨c0, c1, c2, c3, c4, c5, c6⟩ := kW4
  simp only [Nat.zero_add] at c1 c2 c3 c4 c5 c6
  clear hLn kv kW far zV up fZ fD fZ4 fD4 hb4 hbc hBc hpc
  go_wp2
  obtain ⟨t0, t1, t2, t3, t4, t5, t6⟩ := hLh.out
  simp only [ln7, Nat.zero_add] at t0 t1 t2 t3 t4 t5 t6
  refine bodyPost_ret (v := lnV x (some ⟨B, 0, none⟩) x.parts.length) (by simp [results, Tryz.results46, go_sem, t0, t1, t2, t3, t4, t5, t6]) rfl ?_
  exact hfin.out
end Go.Proofs.YtjjphaiomaiilaaGreat
