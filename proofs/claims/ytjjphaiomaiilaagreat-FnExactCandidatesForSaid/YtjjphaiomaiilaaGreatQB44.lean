/- Contracts of the laws' own words for lines: the conversion of a slice of lines. Lengths below 2^21. Contracts of the laws' own words for lines: marking. Lengths below 2^21. The rows' step for a slice of lines as an argument: its reading as the walks ask it. -/
import Derived.Test.YtjjphaiomaiilaaGreatQB43
import Derived.Laws.IdiomStrings
import Derived.Test.YtjjphaiomaiilaaGreatQB29
import Derived.SliceStrings
import Derived.Test.YtjjphaiomaiilaaGreatQB01
import Derived.Test.YtjjphaiomaiilaaGreatQB02
import Derived.Deep.Slices
import Derived.Deep.Fields
import Derived.Lib.SmallJoins
import Derived.Test.YtjjphaiomaiilaaGreatQB42
namespace Go.Proofs.YtjjphaiomaiilaaGreat
open Go.RowKit
set_option linter.unusedVariables false
set_option linter.unusedSimpArgs false
def totP : List Ln → Nat
  | [] => 0
  | x :: l => x.parts.length + totP l
theorem totP_take (l : List Ln) (k : Nat) (h : k < l.length) : totP (l.take (k + 1)) = totP (l.take k) + (lx l k).parts.length := by
  induction l generalizing k with
  | nil => simp at h
  | cons x l ih =>
    cases k with
    | zero => simp [totP, lx]
    | succ k =>
      have := ih k (by simpa using h)
      simp only [List.take_succ_cons, totP]
      have e : lx (x :: l) (k + 1) = lx l k := by simp [lx]
      rw [e]; omega
theorem szX1_le {ps : List Str} : ∀ {left : Int}, 0 ≤ szX1 left ps → szX1 left ps ≤ left := by
  induction ps with
  | nil => intro left _; exact Int.le_refl _
  | cons s ps ih =>
    intro left h
    unfold szX1 at h ⊢
    split at h
    · omega
    · rename_i hn
      rw [if_neg hn]
      have := ih h
      omega
theorem szLn_parts {left : Int} {x : Ln} (h : 0 ≤ szLn left x) : szLn left x + x.parts.length ≤ left := by
  unfold szLn at h ⊢
  split at h
  · omega
  · rename_i h1
    rw [if_neg h1]
    split at h
    · omega
    · rename_i h2
      rw [if_neg h2]
      unfold szX at h ⊢
      split at h
      · omega
      · rename_i h3
        rw [if_neg h3]
        have := szX1_le h
        omega
theorem szL1_parts {l : List Ln} : ∀ {left : Int}, 0 ≤ szL1 left l → (totP l : Int) ≤ left - szL1 left l := by
  induction l with
  | nil => intro left _; simp [totP, szL1]
  | cons x l ih =>
    intro left h
    unfold szL1 at h ⊢
    split at h
    · omega
    · rename_i hn
      rw [if_neg hn]
      have h1 := ih h
      have h2 := szLn_parts (left := left) (x := x) (by omega)
      simp only [totP]
      omega
theorem szLs_parts {left : Int} {l : List Ln} (h0 : 0 ≤ left) (h2 : left ≤ 2097152) (h : 0 ≤ szLs left l) : (totP l : Int) ≤ left := by
  unfold szLs at h
  split at h
  · omega
  · have := szL1_parts h
    omega
def LnK (w : World) (lo g n k : Nat) (l : List Ln) : Prop :=
  (∀ i, i < n * 7 → (∃ u, w.cell? ⟨g, i, none⟩ = some u) ∧ w.frozen? ⟨g, i, none⟩ = false) ∧ ∀ j, j < k → ∃ P q, LnAt w g (j * 7) (lx l j) P q ∧ OwnXs w lo w.heap.size g P (lx l j).parts
theorem LnK.below {w w' : World} {lo g n k : Nat} {l : List Ln} (h : LnK w lo g n k l) (hb : Below w.heap.size w w') (hg : g < w.heap.size) : LnK w' lo g n k l := by
  obtain ⟨h1, h2⟩ := h
  refine ⟨fun i hi => ?_, fun j hj => ?_⟩
  · obtain ⟨⟨u, hu⟩, hf⟩ := h1 i hi
    exact ⟨⟨u, cell_on hb hu (Nat.le_refl _)⟩, (World.frozen?_of_block (w := w) (a := ⟨g, i, none⟩) (hb.block g hg)).trans hf⟩
  · obtain ⟨P, q, h3, h4⟩ := h2 j hj
    refine ⟨P, q, h3.below hb hg, fun hp => ?_⟩
    obtain ⟨b, e1, e2, e3, e4, e5, e6⟩ := h4 hp
    exact ⟨b, e1, e2, Nat.lt_of_lt_of_le e3 hb.size, Nat.lt_of_lt_of_le e4 hb.size, e5, fun i hi => ⟨cell_on hb (e6 i hi).1 (Nat.le_refl _), (World.frozen?_of_block (w := w) (a := ⟨b, i, none⟩) (hb.block b e4)).trans (e6 i hi).2⟩⟩
theorem LnK.step {w : World} {lo g n k B : Nat} {l : List Ln} (h : LnK w lo g n k l) (hk : k < n) (hB1 : lo ≤ B) (hB2 : B < w.heap.size) (hB3 : B ≠ g)
    (hc : ∀ i, i < (lx l k).parts.length → w.cell? ⟨B, i, none⟩ = some (.string (bs (sx (lx l k).parts i))) ∧ w.frozen? ⟨B, i, none⟩ = false) : LnK (ln7 w g (k * 7) (lx l k) (some ⟨B, 0, none⟩) (lx l k).parts.length) lo g n (k + 1) l := by
  obtain ⟨h1, h2⟩ := h
  have hex : ∀ i, i < 7 → ∃ u, w.cell? ⟨g, k * 7 + i, none⟩ = some u := fun i hi => (h1 (k * 7 + i) (by omega)).1
  have far : ∀ (b i : Nat) (v : Value), b ≠ g → w.cell? ⟨b, i, none⟩ = some v → (ln7 w g (k * 7) (lx l k) (some ⟨B, 0, none⟩) (lx l k).parts.length).cell? ⟨b, i, none⟩ = some v := fun b i v hb hv => (ln7_other (.inl hb)).trans hv
  have hsz : (ln7 w g (k * 7) (lx l k) (some ⟨B, 0, none⟩) (lx l k).parts.length).heap.size = w.heap.size := ln7_size
  refine ⟨fun i hi => ⟨?_, (ln7_frozen _).trans (h1 i hi).2⟩, fun j hj => ?_⟩
  · by_cases hin : ∀ r, r < 7 → i ≠ k * 7 + r
    · obtain ⟨u, hu⟩ := (h1 i hi).1
      exact ⟨u, (ln7_other (.inr hin)).trans hu⟩
    · have hr : ∃ r, r < 7 ∧ i = k * 7 + r := by
        refine ⟨i - k * 7, ?_, ?_⟩
        · refine Classical.byContradiction fun hc => hin fun r hr he => ?_
          omega
        · refine Classical.byContradiction fun hc => hin fun r hr he => ?_
          omega
      obtain ⟨r, hr, rfl⟩ := hr
      obtain ⟨c0, c1, c2, c3, c4, c5, c6⟩ := ln7_at (V := w) (B := g) (o := k * 7) (q := (lx l k).parts.length) (x := lx l k) (P := some ⟨B, 0, none⟩) hex
      rcases (show r = 0 ∨ r = 1 ∨ r = 2 ∨ r = 3 ∨ r = 4 ∨ r = 5 ∨ r = 6 by omega) with rfl | rfl | rfl | rfl | rfl | rfl | rfl
      · exact ⟨_, c0⟩
      · exact ⟨_, c1⟩
      · exact ⟨_, c2⟩
      · exact ⟨_, c3⟩
      · exact ⟨_, c4⟩
      · exact ⟨_, c5⟩
      · exact ⟨_, c6⟩
  · rcases Nat.lt_or_ge j k with hjk | hjk
    · obtain ⟨P, q, ⟨c0, c1, c2, c3, c4, c5, c6⟩, h4⟩ := h2 j hjk
      have ne : ∀ r, r < 7 → ∀ v, w.cell? ⟨g, j * 7 + r, none⟩ = some v → (ln7 w g (k * 7) (lx l k) (some ⟨B, 0, none⟩) (lx l k).parts.length).cell? ⟨g, j * 7 + r, none⟩ = some v := fun r hr v hv => (ln7_other (.inr (fun i hi => by show j * 7 + r ≠ k * 7 + i; omega))).trans hv
      refine ⟨P, q, ⟨ne 0 (by omega) _ c0, ne 1 (by omega) _ c1, ne 2 (by omega) _ c2, ne 3 (by omega) _ c3, ne 4 (by omega) _ c4, ne 5 (by omega) _ c5, ne 6 (by omega) _ c6⟩, fun hp => ?_⟩
      obtain ⟨b, e1, e2, e3, e4, e5, e6⟩ := h4 hp
      exact ⟨b, e1, e2, by rw [hsz]; exact e3, by rw [hsz]; exact e4, e5, fun i hi => ⟨far _ _ _ e5 (e6 i hi).1, (ln7_frozen _).trans (e6 i hi).2⟩⟩
    · obtain rfl : j = k := by omega
      refine ⟨_, _, ln7_at hex, fun hp => ⟨B, rfl, hB1, by rw [hsz]; exact hB2, by rw [hsz]; exact hB2, hB3, fun i hi => ⟨far _ _ _ hB3 (hc i hi).1, (ln7_frozen _).trans (hc i hi).2⟩⟩⟩
theorem LnK.own {w : World} {lo g n : Nat} {l : List Ln} (h : LnK w lo g n n l) (hl : l.length = n) (hlo : lo ≤ g) (hg : g < w.heap.size) : OwnLn w lo w.heap.size (.slice (some ⟨g, 0, none⟩) n n) n l :=
  ⟨hl, _, _, rfl, fun hn => ⟨g, rfl, hlo, hg, hg, fun j hj => ⟨fun r hr => (h.1 (j * 7 + r) (by omega)).2, h.2 j hj⟩⟩⟩
theorem info_line : (Tryz.prog.info? 68).map (fun i => (i.zero, i.size, i.bytes)) = some (some (.agg #[.int .i64 0, .string ⟨#[]⟩, .string ⟨#[]⟩, .slice none 0 0, .int .i64 0, .int .i64 0, .int .i64 0]), 7, 88) := by kernel_rfl
set_option maxHeartbeats 1600000 in
theorem toLineS_any (A : Option Addr) (n c : Nat) (l : List Ln) (w : World) (ha : RLn w A n l) (hn : n ≤ 2097152) (hsh : ∀ x ∈ l, shortL x) :
    Calls Tryz.prog 14 #[.slice A n c] w fun e w' => ∃ B, e = .returned (.slice (some B) n n) ∧ OwnLn w' w.heap.size w'.heap.size (.slice (some B) n n) n l ∧ Below w.heap.size w w' := by
  obtain ⟨i0, hi, hz0, hz1, hz2⟩ := info_parts info_line
  have hl := ha.len
  go_enter Tryz.func14, Tryz.ntmps14
  go_wp2_with (at_make; refine wpList_make_full _ rfl _ _ 26 rfl w.heap.size 68 i0 (.agg #[.int .i64 0, .string ⟨#[]⟩, .string ⟨#[]⟩, .slice none 0 0, .int .i64 0, .int .i64 0, .int .i64 0]) 7 Tryz.underlying26 hi hz0 hz1 _ _ _ _ n rfl rfl rfl rfl (by rw [hz2]; omega) (by unfold maxLen; omega) (Nat.le_refl _) ?_; intro w1 hown hgrow)
  have hb1 : Below w.heap.size w w1 := below_of_grownBy hgrow
  have hst : w.heap.size < w1.heap.size ∧ LnK w1 w.heap.size w.heap.size n 0 l := by
    refine ⟨(hown.lt w.heap.size (by simp [Value.ownBlock])).2, fun i hi => ⟨?_, hown.frozenAt i⟩, fun j hj => by omega⟩
    have h1 := hown.cellAt i (by omega)
    have h2 : i < ((madeCells (Value.cells (.agg #[.int .i64 0, .string ⟨#[]⟩, .string ⟨#[]⟩, .slice none 0 0, .int .i64 0, .int .i64 0, .int .i64 0])) (n * 7)).toList).length := by simp [madeCells]; omega
    rw [List.getElem?_eq_getElem h2] at h1
    exact ⟨_, h1⟩
  clear hown hgrow
  go_loopw [4] (fun i wr => ∃ k : Nat, k ≤ n ∧ i = .int .i64 k ∧ w.heap.size < wr.heap.size ∧ LnK wr w.heap.size w.heap.size n k l ∧ Below w.heap.size w wr) (fun i _ => n - (intOf i).toNat)
  case atStart => exact ⟨0, Nat.zero_le _, rfl, hst.1, hst.2, hb1⟩
  case round =>
    clear hst hb1
    obtain ⟨k, hk, rfl, hsz, hK, hb⟩ := hrel
    by_cases hlt : k < n
    · obtain ⟨b, o, P, q, rfl, hbB, ⟨c0, c1, c2, c3, c4, c5, c6⟩, hrx⟩ := (ha.below hb (Nat.le_refl _)).at_ hlt
      have hshx := hsh _ (lx_mem (by omega : k < l.length))
      obtain ⟨X, hX⟩ : ∃ X, Hid (lx l k = X) := ⟨_, Lib.hid rfl⟩
      have hstep : Hid (∀ (V : World) (B : Nat), LnK V w.heap.size w.heap.size n k l → w.heap.size ≤ B → B < V.heap.size → B ≠ w.heap.size → (∀ i, i < X.parts.length → V.cell? ⟨B, i, none⟩ = some (.string (bs (sx X.parts i))) ∧ V.frozen? ⟨B, i, none⟩ = false) → LnK (ln7 V w.heap.size (k * 7) X (some ⟨B, 0, none⟩) X.parts.length) w.heap.size w.heap.size n (k + 1) l) := Lib.hid (by
        rw [← hX.out]; exact fun V B h1 h2 h3 h4 h5 => h1.step hlt h2 h3 h4 h5)
      rw [hX.out] at c0 c1 c2 c3 c4 c5 c6 hrx hshx
      obtain ⟨s1, s2, s3, s4⟩ := hshx
      clear s1 s2 s4 ha
      go_wp2_with fail
      refine (toLine_any X P q _ hrx s3).mono ?_
      rintro e w2 ⟨B, rfl, hB1, hB2, hBc, hb2⟩
      have hK2 := hK.below hb2 hsz
      have hsz2 := hb2.size
      have g0 := hK2.1 (k * 7) (by omega)
      have g1 := hK2.1 (k * 7 + 1) (by omega)
      have g2 := hK2.1 (k * 7 + 2) (by omega)
      have g3 := hK2.1 (k * 7 + 3) (by omega)
      have g4 := hK2.1 (k * 7 + 4) (by omega)
      have g5 := hK2.1 (k * 7 + 5) (by omega)
      have g6 := hK2.1 (k * 7 + 6) (by omega)
      obtain ⟨⟨u0, d0⟩, f0⟩ := g0
      obtain ⟨⟨u1, d1⟩, f1⟩ := g1
      obtain ⟨⟨u2, d2⟩, f2⟩ := g2
      obtain ⟨⟨u3, d3⟩, f3⟩ := g3
      obtain ⟨⟨u4, d4⟩, f4⟩ := g4
      obtain ⟨⟨u5, d5⟩, f5⟩ := g5
      obtain ⟨⟨u6, d6⟩, f6⟩ := g6
      have hfin : Hid (w.heap.size < (ln7 w2 w.heap.size (k * 7) X (some ⟨B, 0, none⟩) X.parts.length).heap.size ∧ LnK (ln7 w2 w.heap.size (k * 7) X (some ⟨B, 0, none⟩) X.parts.length) w.heap.size w.heap.size n (k + 1) l ∧ Below w.heap.size w (ln7 w2 w.heap.size (k * 7) X (some ⟨B, 0, none⟩) X.parts.length)) := Lib.hid ⟨by rw [ln7_size]; omega, hstep.out w2 B hK2 (by omega) hB2 (by omega) hBc, (hb.trans (hb2.mono (by omega))).trans (ln7_alt.below_ (by omega) (fun i hi hc => by have hc' : i = w.heap.size := hc; omega))⟩
      clear hK hK2 hstep hBc hrx c0 c1 c2 c3 c4 c5 c6 hb hb2
      go_wp2
      go_roundw
      case rel => exact ⟨k + 1, by omega, by go_num, hfin.out⟩
      case measure => simp [intOf]; omega
    · obtain rfl : n = k := by omega
      go_wp2
      go_ret
      exact ⟨_, rfl, hK.own hl (Nat.le_refl _) hsz, hb⟩
set_option maxRecDepth 100000 in
set_option maxHeartbeats 800000 in
theorem markText_any (k : Nat) (w : World) (hk : k ≤ 1000000000000) :
    Calls Tryz.prog 54 #[.int .i64 k] w fun e w' => (∃ s : Str, e = .returned (.string (bs s))) ∧ Below w.heap.size w w' := by
  by_cases h0 : k = 0
  · subst h0
    go_enter Tryz.func54, Tryz.ntmps54
    go_wp2
    go_ret
    exact ⟨⟨[109, 48], rfl⟩, Below.refl _ _⟩
  go_enter Tryz.func54, Tryz.ntmps54
  go_wp2
  go_loopw [3, 0] (fun o i wr => ∃ (j : Nat) (s : Str), j + s.length ≤ k ∧ i = .int .i64 j ∧ o = .string (bs s) ∧ Below w.heap.size w wr) (fun _ i _ => (intOf i).toNat)
  case atStart => exact ⟨k, [], by simp, rfl, rfl, Below.refl _ _⟩
  case round =>
    obtain ⟨j, s, hj, rfl, rfl, hb⟩ := hrel
    by_cases hlt : 0 < j
    · obtain ⟨D, hD⟩ : ∃ D, Hid (UInt8.ofNat (48 + j % 10) = D) := ⟨_, Lib.hid rfl⟩
      have hcv : (convert 112 9 (.slice (some ⟨wr.heap.size, 0, none⟩) 1 1)).run Tryz.prog (wr.alloc (.cells #[.int .u8 (48 + (j : Int) % 10)] 5)) = .ok (.string (bs [D])) (wr.alloc (.cells #[.int .u8 (48 + (j : Int) % 10)] 5)) := by
        rw [← hD.out]
        refine run_convert_bytes_back (P := Tryz.prog) (wr.alloc (.cells #[.int .u8 (48 + (j : Int) % 10)] 5)) 112 9 5 ⟨wr.heap.size, 0, none⟩ 1 [UInt8.ofNat (48 + j % 10)] Tryz.underlying112 Tryz.underlying5 Tryz.underlying9 (fun i hi => ?_)
        obtain rfl : i = 0 := by simpa using hi
        have h : (UInt8.ofNat (48 + j % 10)).toNat = 48 + j % 10 := by rw [UInt8.toNat_ofNat']; omega
        have h2 : (48 + (j : Int) % 10) = ((48 + j % 10 : Nat) : Int) := by omega
        rw [h2]
        show _ = some (Value.int .u8 ((UInt8.ofNat (48 + j % 10)).toNat : Int))
        rw [h]
        exact box_cell _ _ 0 _ rfl
      have hz1 : (bs [D]).size = 1 := bs_size _
      have hz2 : (bs s).size = s.length := bs_size _
      have hap : Hid (bs [D] ++ bs s = bs (D :: s)) := Lib.hid (bs_append _ _)
      have hb1 := hb.alloc hb.size (.cells #[.int .u8 (48 + (j : Int) % 10)] 5)
      go_wp2
      go_roundw
      case rel => exact ⟨j / 10, D :: s, by simp only [List.length_cons]; omega, by go_num, by rw [hap.out], hb1⟩
      case measure => simp [intOf]; omega
    · obtain rfl : j = 0 := by omega
      have hz2 : (bs s).size = s.length := bs_size _
      have hap : Hid ((⟨#[109]⟩ : ByteArray) ++ bs s = bs (109 :: s)) := Lib.hid (bs_append [109] s)
      go_wp2
      go_ret
      exact ⟨⟨109 :: s, by show _ = Ending.returned (.string (bs (109 :: s))); rw [← hap.out]; rfl⟩, hb⟩
structure Ex (a b : World) : Prop where
  size : a.heap.size ≤ b.heap.size
  cell : ∀ p u, a.cell? p = some u → ∃ v, b.cell? p = some v
  fz : ∀ p : Addr, p.block < a.heap.size → b.frozen? p = a.frozen? p
theorem Ex.refl_ (a : World) : Ex a a := ⟨Nat.le_refl _, fun p u h => ⟨u, h⟩, fun _ _ => rfl⟩
theorem Ex.below {a b c : World} (h : Ex a b) (k : Below b.heap.size b c) : Ex a c :=
  ⟨Nat.le_trans h.size k.size, fun p u hu => by obtain ⟨v, hv⟩ := h.cell p u hu; exact ⟨v, cell_bel hv k⟩, fun p hp => (World.frozen?_of_block (w := b) (a := p) (k.block p.block (Nat.lt_of_lt_of_le hp h.size))).trans (h.fz p hp)⟩
theorem Ex.trans_ {a b c : World} (h : Ex a b) (k : Ex b c) : Ex a c :=
  ⟨Nat.le_trans h.size k.size, fun p u hu => by obtain ⟨v, hv⟩ := h.cell p u hu; exact k.cell p v hv, fun p hp => (k.fz p (Nat.lt_of_lt_of_le hp h.size)).trans (h.fz p hp)⟩
theorem Ex.set {a b : World} (h : Ex a b) (q : Addr) (x : Value) : Ex a (b.setCell q x) :=
  ⟨by rw [World.size_setCell]; exact h.size, fun p u hu => by
    obtain ⟨v, hv⟩ := h.cell p u hu
    by_cases hpq : q = p
    · subst hpq; exact ⟨x, World.cell?_setCell_same _ _ _ hv⟩
    · exact ⟨v, (World.cell?_setCell_other _ _ _ _ hpq).trans hv⟩, fun p hp => (World.frozen?_setCell _ _ _ _).trans (h.fz p hp)⟩
set_option maxHeartbeats 800000 in
theorem markStringS_any (A : Option Addr) (n c Q : Nat) (w : World) (hrow : 0 < n → ∃ b, A = some ⟨b, 0, none⟩ ∧ b < w.heap.size ∧ ∀ i, i < n → (∃ u, w.cell? ⟨b, i, none⟩ = some u) ∧ w.frozen? ⟨b, i, none⟩ = false) (hn : n ≤ 2097152) (hq : Q ≤ 1000000000) :
    Calls Tryz.prog 55 #[.slice A n c, .int .i64 Q] w fun e w' => e = .returned (.int .i64 ((Q + n : Nat) : Int)) ∧ Alt (fun i => 0 < n ∧ ob A = some i) w w' ∧ Ex w w' := by
  go_enter Tryz.func55, Tryz.ntmps55
  go_wp2
  go_loopw [1, 5] (fun x i wr => ∃ k : Nat, k ≤ n ∧ i = .int .i64 k ∧ x = .int .i64 ((Q + k : Nat) : Int) ∧ Alt (fun i => 0 < n ∧ ob A = some i) w wr ∧ Ex w wr) (fun _ i _ => n - (intOf i).toNat)
  case atStart => exact ⟨0, Nat.zero_le _, rfl, rfl, Alt.refl_ _ _, Ex.refl_ _⟩
  case round =>
    obtain ⟨k, hk, rfl, rfl, hA, hE⟩ := hrel
    by_cases hlt : k < n
    · obtain ⟨b, rfl, hb, hc⟩ := hrow (by omega)
      obtain ⟨⟨u, hu⟩, hf⟩ := hc k hlt
      obtain ⟨u1, d1⟩ := hE.cell _ _ hu
      have f1 := (hE.fz ⟨b, k, none⟩ hb).trans hf
      clear hu hf hrow hc
      go_wp2_with fail
      refine (markText_any (Q + k) _ (by omega)).mono ?_
      rintro e w2 ⟨⟨s, rfl⟩, hb2⟩
      have d2 := cell_bel d1 hb2
      have f2 := (World.frozen?_of_block (w := wr) (a := ⟨b, k, none⟩) (hb2.block b (Nat.lt_of_lt_of_le hb hE.size))).trans f1
      have hA2 := (hA.new_ hb2).set_ ⟨b, k, none⟩ (.string (bs s)) (fun _ => ⟨by omega, rfl⟩)
      have hE2 := (hE.below hb2).set ⟨b, k, none⟩ (.string (bs s))
      clear d1 f1 hA hE hb2
      go_wp2
      go_roundw
      case rel => exact ⟨k + 1, by omega, by go_num, by go_num, hA2, hE2⟩
      case measure => simp [intOf]; omega
    · obtain rfl : n = k := by omega
      go_wp2
      go_ret
      exact ⟨rfl, hA, hE⟩
structure LM (w : World) (lo hi g n k : Nat) (l : List Ln) (W : World) : Prop where
  chg : Chg lo hi w W
  ex : Ex w W
  at_ : ∀ j, k ≤ j → j < n → ∃ P q, W.cell? ⟨g, j * 7 + 3, none⟩ = some (.slice P (lx l j).parts.length q) ∧ OwnXs w lo hi g P (lx l j).parts
theorem LM.set {w W : World} {lo hi g n k r : Nat} {l : List Ln} (h : LM w lo hi g n k l W) (hr : r < 7) (h3 : r ≠ 3) (hg : lo ≤ g ∧ g < hi) (v : Value) : LM w lo hi g n k l (W.setCell ⟨g, k * 7 + r, none⟩ v) :=
  ⟨⟨h.chg.os, h.chg.tape, h.chg.output, by rw [World.size_setCell]; exact h.chg.size, fun i hi ho => (Below.heap_setCell W ⟨g, k * 7 + r, none⟩ v i (by show ¬ i = g; omega)).trans (h.chg.block i hi ho)⟩, h.ex.set _ _, fun j h1 h2 => by
    obtain ⟨P, q, h4, h5⟩ := h.at_ j h1 h2
    exact ⟨P, q, (World.cell?_setCell_other _ _ _ _ (by simp <;> omega)).trans h4, h5⟩⟩
theorem LM.below {w W W' : World} {lo hi g n k : Nat} {l : List Ln} (h : LM w lo hi g n k l W) (hb : Below W.heap.size W W') : LM w lo hi g n k l W' :=
  ⟨h.chg.trans_ (Chg.of_below hb), h.ex.below hb, fun j h1 h2 => by
    obtain ⟨P, q, h4, h5⟩ := h.at_ j h1 h2
    exact ⟨P, q, cell_bel h4 hb, h5⟩⟩
theorem LM.alt {w W W' : World} {lo hi g n k : Nat} {S : Nat → Prop} {l : List Ln} (h : LM w lo hi g n k l W) (ha : Alt S W W') (he : Ex W W') (hP : ∀ b, S b → lo ≤ b ∧ b < hi ∧ b ≠ g) : LM w lo hi g n k l W' :=
  ⟨h.chg.trans_ ⟨ha.os, ha.tape, ha.output, ha.size, fun i hi ho => ha.block i hi (fun hc => by have := hP i hc; omega)⟩, h.ex.trans_ he, fun j h1 h2 => by
    obtain ⟨P', q, h4, h5⟩ := h.at_ j h1 h2
    exact ⟨P', q, ha.cell_ h4 (fun hc => (hP _ hc).2.2 rfl), h5⟩⟩
theorem LM.next {w W : World} {lo hi g n k : Nat} {l : List Ln} (h : LM w lo hi g n k l W) : LM w lo hi g n (k + 1) l W := ⟨h.chg, h.ex, fun j h1 h2 => h.at_ j (by omega) h2⟩
theorem LM.cell {w W : World} {lo hi g n k r : Nat} {l : List Ln} (h : LM w lo hi g n k l W) (hc : (∃ u, w.cell? ⟨g, k * 7 + r, none⟩ = some u) ∧ w.frozen? ⟨g, k * 7 + r, none⟩ = false) : (∃ u, W.cell? ⟨g, k * 7 + r, none⟩ = some u) ∧ W.frozen? ⟨g, k * 7 + r, none⟩ = false := by
  obtain ⟨⟨u, hu⟩, hf⟩ := hc
  exact ⟨h.ex.cell _ _ hu, (h.ex.fz ⟨g, k * 7 + r, none⟩ (World.block_lt_of_cell? w _ hu)).trans hf⟩
set_option maxRecDepth 100000 in
set_option maxHeartbeats 3200000 in
theorem markLineS_c (A : Option Addr) (n c lo hi : Nat) (q : Int) (l : List Ln) (w : World) (ha : OwnLn w lo hi (.slice A n c) n l) (hn : n ≤ 2097152) (hsh : ∀ x ∈ l, shortL x) (htp : (totP l : Int) ≤ 1048576) (h0 : 0 ≤ q) (h1 : q ≤ 1000000) :
    Calls Tryz.prog 20 #[.slice A n c, .int .i64 q] w fun e w' => e = .returned (.int .i64 (q + 6 * n + totP l)) ∧ Chg lo hi w w' := by
  obtain ⟨Q, rfl⟩ := Int.eq_ofNat_of_zero_le h0
  obtain ⟨hl, A', c', hv, hrow⟩ := ha
  simp only [Value.slice.injEq, true_and] at hv
  obtain ⟨rfl, rfl⟩ := hv
  have hg : ∃ g, (0 < n → A = some ⟨g, 0, none⟩ ∧ lo ≤ g ∧ g < hi) ∧ (∀ j, j < n → (∀ r, r < 7 → (∃ u, w.cell? ⟨g, j * 7 + r, none⟩ = some u) ∧ w.frozen? ⟨g, j * 7 + r, none⟩ = false)) ∧ LM w lo hi g n 0 l w := by
    by_cases hn0 : 0 < n
    · obtain ⟨g, hA, h2, h3, h4, h5⟩ := hrow hn0
      refine ⟨g, fun _ => ⟨hA, h2, h3⟩, fun j hj r hr => ?_, Chg.refl_ _ _ _, Ex.refl_ _, fun j _ hj => ?_⟩
      · obtain ⟨hf, P, q, ⟨c0, c1, c2, c3, c4, c5, c6⟩, _⟩ := h5 j hj
        refine ⟨?_, hf r hr⟩
        rcases (show r = 0 ∨ r = 1 ∨ r = 2 ∨ r = 3 ∨ r = 4 ∨ r = 5 ∨ r = 6 by omega) with rfl | rfl | rfl | rfl | rfl | rfl | rfl
        · exact ⟨_, c0⟩
        · exact ⟨_, c1⟩
        · exact ⟨_, c2⟩
        · exact ⟨_, c3⟩
        · exact ⟨_, c4⟩
        · exact ⟨_, c5⟩
        · exact ⟨_, c6⟩
      · obtain ⟨hf, P, q, hat, hx⟩ := h5 j hj
        exact ⟨P, q, hat.c3, hx⟩
    · exact ⟨0, fun h => absurd h hn0, fun j hj => by omega, Chg.refl_ _ _ _, Ex.refl_ _, fun j _ hj => by omega⟩
  obtain ⟨g, hA, hcell, hM0⟩ := hg
  have htt := Lib.hid (fun k (hk : k < l.length) => totP_take l k hk)
  have htl : Hid (∀ k, k ≤ n → totP (l.take k) ≤ totP l) := Lib.hid (fun k hk => by
    have key : ∀ (l : List Ln) (k : Nat), totP (l.take k) ≤ totP l := by
      intro l
      induction l with
      | nil => intro k; simp [totP]
      | cons x l ih =>
        intro k
        cases k with
        | zero => simp [totP]
        | succ k => have := ih k; simp only [List.take_succ_cons, totP]; omega
    exact key l k)
  clear hrow h0
  go_enter Tryz.func20, Tryz.ntmps20
  go_wp2
  go_loopw [1, 5] (fun x i wr => ∃ k : Nat, k ≤ n ∧ i = .int .i64 k ∧ x = .int .i64 ((Q + 6 * k + totP (l.take k) : Nat) : Int) ∧ LM w lo hi g n k l wr) (fun _ i _ => n - (intOf i).toNat)
  case atStart => exact ⟨0, Nat.zero_le _, rfl, by simp [totP], hM0⟩
  case round =>
    obtain ⟨k, hk, rfl, rfl, hM⟩ := hrel
    clear hM0
    by_cases hlt : k < n
    · obtain ⟨rfl, hgg⟩ := hA (by omega)
      have hcl := hcell k hlt
      have hpl := hsh _ (lx_mem (by omega : k < l.length))
      have ht1 := htt.out k (by omega)
      have ht2 := htl.out (k + 1) (by omega)
      obtain ⟨T, hT⟩ : ∃ T, Hid (totP (l.take k) = T) := ⟨_, Lib.hid rfl⟩
      rw [hT.out] at ht1 ⊢
      obtain ⟨m, hm⟩ : ∃ m, Hid ((lx l k).parts.length = m) := ⟨_, Lib.hid rfl⟩
      have hm2 : m ≤ 2097152 := by rw [← hm.out]; exact hpl.2.2.1
      rw [hm.out] at ht1
      have ht1h := Lib.hid ht1
      clear hpl
      have hM1 := hM.set (r := 0) (by omega) (by omega) hgg (.int .i64 ((Q + 6 * k + T : Nat) : Int))
      obtain ⟨⟨u0, d0⟩, f0⟩ := hM.cell (hcl 0 (by omega))
      simp only [Nat.add_zero] at d0 f0 hM1
      have hcl := Lib.hid hcl
      go_wp2_with fail
      refine (markText_any (Q + 6 * k + T + 1) _ (by omega)).mono ?_
      rintro e w2 ⟨⟨s1, rfl⟩, hb2⟩
      have hM2 := hM1.below hb2
      obtain ⟨⟨u1, d1⟩, f1⟩ := hM2.cell (hcl.out 1 (by omega))
      have hM3 := hM2.set (r := 1) (by omega) (by omega) hgg (.string (bs s1))
      clear hM1 hb2 hM d0 f0
      go_wp2_with fail
      refine (markText_any (Q + 6 * k + T + 2) _ (by omega)).mono ?_
      rintro e w4 ⟨⟨s2, rfl⟩, hb4⟩
      have hM4 := hM3.below hb4
      obtain ⟨⟨u2, d2⟩, f2⟩ := hM4.cell (hcl.out 2 (by omega))
      have hM5 := hM4.set (r := 2) (by omega) (by omega) hgg (.string (bs s2))
      obtain ⟨P, q, p3, hox⟩ := hM4.at_ k (Nat.le_refl _) hlt
      rw [hm.out] at p3
      have hxr : 0 < m → ∃ b, P = some ⟨b, 0, none⟩ ∧ lo ≤ b ∧ b < hi ∧ b < w.heap.size ∧ b ≠ g ∧ ∀ i, i < m → (∃ u, w.cell? ⟨b, i, none⟩ = some u) ∧ w.frozen? ⟨b, i, none⟩ = false := fun h => by
        rw [← hm.out] at h ⊢
        obtain ⟨b, e1, e2, e3, e4, e5, e6⟩ := hox h
        exact ⟨b, e1, e2, e3, e4, e5, fun i hi => ⟨⟨_, (e6 i hi).1⟩, (e6 i hi).2⟩⟩
      have hPb : Hid (∀ b, ob P = some b → 0 < m → lo ≤ b ∧ b < hi ∧ b ≠ g) := Lib.hid (fun b hb h => by
        obtain ⟨b', e1, e2, e3, e4, e5, e6⟩ := hxr h
        rw [e1] at hb; injection hb with hb; subst hb; exact ⟨e2, e3, e5⟩)
      have hx5 : 0 < m → ∃ b, P = some ⟨b, 0, none⟩ ∧ b < (w4.setCell ⟨g, k * 7 + 2, none⟩ (.string (bs s2))).heap.size ∧ ∀ i, i < m → (∃ u, (w4.setCell ⟨g, k * 7 + 2, none⟩ (.string (bs s2))).cell? ⟨b, i, none⟩ = some u) ∧ (w4.setCell ⟨g, k * 7 + 2, none⟩ (.string (bs s2))).frozen? ⟨b, i, none⟩ = false := fun h => by
        obtain ⟨b, e1, e2, e3, e4, e5, e6⟩ := hxr h
        exact ⟨b, e1, Nat.lt_of_lt_of_le e4 hM5.ex.size, fun i hi => ⟨by obtain ⟨u, hu⟩ := (e6 i hi).1; exact hM5.ex.cell _ _ hu, (hM5.ex.fz ⟨b, i, none⟩ e4).trans (e6 i hi).2⟩⟩
      clear hM3 hb4 hM2 d1 f1 hox hxr
      go_wp2_with fail
      refine (markStringS_any P m q (Q + 6 * k + T + 3) _ hx5 hm2 (by omega)).mono ?_
      rintro e w6 ⟨rfl, hA6, hE6⟩
      have hM6 := hM5.alt hA6 hE6 (fun b hb => hPb.out b hb.2 hb.1)
      obtain ⟨⟨u4, d4⟩, f4⟩ := hM6.cell (hcl.out 4 (by omega))
      obtain ⟨⟨u5, d5⟩, f5⟩ := hM6.cell (hcl.out 5 (by omega))
      obtain ⟨⟨u6, d6⟩, f6⟩ := hM6.cell (hcl.out 6 (by omega))
      clear hM5 hM4 hA6 hE6 hx5 d2 f2 p3
      go_wp2
      go_roundw
      case rel => exact ⟨k + 1, by omega, by go_num, by rw [ht1h.out]; go_num, (((hM6.set (r := 4) (by omega) (by omega) hgg _).set (r := 5) (by omega) (by omega) hgg _).set (r := 6) (by omega) (by omega) hgg _).next⟩
      case measure => simp [intOf]; omega
    · obtain rfl : n = k := by omega
      have : l.take n = l := List.take_of_length_le (by omega)
      rw [this] at *
      go_wp2
      go_ret
      exact ⟨by simp only [Int.natCast_add, Int.natCast_mul]; rfl, hM.chg⟩
end Go.Proofs.YtjjphaiomaiilaaGreat
namespace Go.Proofs.YtjjphaiomaiilaaGreat
open Go.ChangeShapes Go.WideShapes Go.ChangeAt Go.RowKit Go.Deep Go.Joins
set_option linter.unusedVariables false
set_option linter.unusedSimpArgs false
theorem bl_len (s : ByteArray) : s.data.toList.length = s.size := Array.length_toList
set_option maxRecDepth 100000 in
theorem RX_of_cell {H : Type} {enc : TypeId × Value → H} {W : World} {v : Value} {fuel : Nat} {y : DataW H × List MemPlace}
    (h : DataW.trod enc Tryz.prog W 0 (fun _ => true) true fuel 57 [v] = some y) : ∃ A c ps, v = .slice A ps.length c ∧ RX W A ps.length ps ∧ ps.length ≤ maxLen ∧ ∀ s ∈ ps, s.length ≤ maxLen := by
  have hC : Tryz.prog.cellsOf 9 = 1 := by kernel_rfl
  rcases open_strings Tryz.underlying57 Tryz.underlying9 hC h with ⟨hcs, _⟩ | ⟨a, len, cap, ss, hcs, hb, hl, hm, hz, hx, hcell, hsz⟩
  · exact ⟨none, 0, [], (List.cons.inj hcs).1, ⟨rfl, fun h => absurd h (by simp)⟩, Nat.zero_le _, fun s hs => by cases hs⟩
  · simp only [if_true] at hz
    have hlen : ((ss.take len).map fun s => s.data.toList).length = len := by simp; omega
    refine ⟨some a, cap, (ss.take len).map fun s => s.data.toList, by rw [hlen]; exact (List.cons.inj hcs).1, ⟨rfl, fun hn => ?_⟩, by rw [hlen]; omega, fun s hs => ?_⟩
    · rw [hlen] at hn ⊢
      obtain ⟨b, o, spot⟩ := a
      have hc0 := hcell 0 (by omega)
      have hspot : spot = none := by simpa [Addr.add] using World.cell?_spot hc0
      subst hspot
      refine ⟨b, o, rfl, World.block_lt_of_cell? W _ (by simpa [Addr.add] using hc0), fun j hj => ?_⟩
      have h1 := hcell j (by omega)
      have h2 : (⟨b, o, none⟩ : Addr).add j = ⟨b, o + j, none⟩ := by
        unfold Addr.add; split
        · rename_i h; subst h; rfl
        · rfl
      rw [h2] at h1
      rw [h1]
      have : sx ((ss.take len).map fun s => s.data.toList) j = (ss.getD j ByteArray.empty).data.toList := by
        unfold sx
        rw [List.getD_eq_getElem?_getD, List.getD_eq_getElem?_getD, List.getElem?_map, List.getElem?_take_of_lt hj, List.getElem?_eq_getElem (by omega)]
        rfl
      rw [this, bs_data]
    · obtain ⟨z, hz1, rfl⟩ := List.mem_map.1 hs
      rw [bl_len]
      exact hsz z (List.mem_of_mem_take hz1)
set_option maxRecDepth 100000 in
theorem line_of_cells {H : Type} {enc : TypeId × Value → H} {W : World} {cs : List Value} {fuel : Nat} {y : DataW H × List MemPlace}
    (h : DataW.trod enc Tryz.prog W 0 (fun _ => true) true fuel 59 cs = some y) : ∃ (g : Ln) (P : Option Addr) (q : Nat), cs = [.int .i64 g.kind, .string (bs g.name), .string (bs g.op), .slice P g.parts.length q, .int .i64 g.party, .int .i64 g.width, .int .i64 g.value] ∧ RX W P g.parts.length g.parts ∧ bigL g := by
  obtain ⟨xs, n, _, _, hlen, hxl, hf⟩ := DataW.trod_struct Tryz.underlying59 h
  have hC : Tryz.prog.cellsOf 59 = 7 := by kernel_rfl
  have hI : Tryz.prog.cellsOf 3 = 1 := by kernel_rfl
  have hS : Tryz.prog.cellsOf 9 = 1 := by kernel_rfl
  have hL : Tryz.prog.cellsOf 57 = 1 := by kernel_rfl
  rw [hC] at hlen
  match cs, hlen with
  | [c0, c1, c2, c3, c4, c5, c6], _ =>
    match xs, hxl with
    | [x0, x1, x2, x3, x4, x5, x6], _ =>
      have h0 := hf 0 _ rfl
      have h1 := hf 1 _ rfl
      have h2 := hf 2 _ rfl
      have h3 := hf 3 _ rfl
      have h4 := hf 4 _ rfl
      have h5 := hf 5 _ rfl
      have h6 := hf 6 _ rfl
      simp only [hI, hS, hL, List.drop_zero, List.drop_succ_cons, List.take_succ_cons, List.take_zero, List.getElem?_cons_zero, List.getElem?_cons_succ] at h0 h1 h2 h3 h4 h5 h6
      obtain ⟨k, e0, _⟩ := DataW.trod_int Tryz.underlying3 h0
      obtain ⟨s1, e1, _, z1⟩ := DataW.trod_string Tryz.underlying9 h1
      obtain ⟨s2, e2, _, z2⟩ := DataW.trod_string Tryz.underlying9 h2
      obtain ⟨P, q, ps, e3, hr, hp, hps⟩ := RX_of_cell h3
      obtain ⟨p, e4, _⟩ := DataW.trod_int Tryz.underlying3 h4
      obtain ⟨wd, e5, _⟩ := DataW.trod_int Tryz.underlying3 h5
      obtain ⟨va, e6, _⟩ := DataW.trod_int Tryz.underlying3 h6
      refine ⟨⟨k, s1.data.toList, s2.data.toList, ps, p, wd, va⟩, P, q, ?_, hr, by show s1.data.toList.length ≤ maxLen; rw [bl_len]; exact z1, by show s2.data.toList.length ≤ maxLen; rw [bl_len]; exact z2, hp, hps⟩
      rw [(List.cons.inj e0).1, (List.cons.inj e1).1, (List.cons.inj e2).1, e3, (List.cons.inj e4).1, (List.cons.inj e5).1, (List.cons.inj e6).1]
      simp only [bs_data]
set_option maxRecDepth 100000 in
theorem RLn_of_cell {H : Type} {enc : TypeId × Value → H} {W : World} {v : Value} {fuel : Nat} {y : DataW H × List MemPlace}
    (h : DataW.trod enc Tryz.prog W 0 (fun _ => true) true fuel 22 [v] = some y) : ∃ A n c l, v = .slice A n c ∧ RLn W A n l ∧ n ≤ maxLen ∧ ∀ s ∈ l, bigL s := by
  have hC : Tryz.prog.cellsOf 59 = 7 := by kernel_rfl
  rcases open_slice Tryz.underlying22 h with ⟨hcs, _⟩ | ⟨a, len, cap, m, n, D, Pl, hcs, hb, hl, hm, hmm, hx, hi⟩
  · exact ⟨none, 0, 0, [], (List.cons.inj hcs).1, ⟨rfl, fun h => absurd h (by omega)⟩, Nat.zero_le _, fun s hs => by cases hs⟩
  · simp only [if_true] at hmm
    rw [hC] at hi
    by_cases hl0 : len = 0
    · subst hl0
      exact ⟨some a, 0, cap, [], (List.cons.inj hcs).1, ⟨rfl, fun h => absurd h (by omega)⟩, Nat.zero_le _, fun s hs => by cases hs⟩
    obtain ⟨b, o, spot⟩ := a
    have hspot : spot = none := by
      obtain ⟨cs', h1, h2⟩ := hi 0 (by omega)
      obtain ⟨g, P, q, rfl, hr, hbg⟩ := line_of_cells h2
      obtain ⟨_, _, h3⟩ := World.cells?_some h1
      have q0 := h3 0 (by omega)
      rw [add_add] at q0
      simpa [Addr.add] using World.cell?_spot q0
    have hg : ∀ i, i < len → ∃ (g : Ln), (∃ P q, spot = none ∧ LnAt W b (o + i * 7) g P q ∧ RX W P g.parts.length g.parts) ∧ bigL g := by
      intro i him
      obtain ⟨cs', h1, h2⟩ := hi i (by omega)
      obtain ⟨g, P, q, rfl, hr, hbg⟩ := line_of_cells h2
      obtain ⟨_, _, h3⟩ := World.cells?_some h1
      have q0 := h3 0 (by omega)
      have q1 := h3 1 (by omega)
      have q2 := h3 2 (by omega)
      have q3 := h3 3 (by omega)
      have q4 := h3 4 (by omega)
      have q5 := h3 5 (by omega)
      have q6 := h3 6 (by omega)
      rw [add_add] at q0 q1 q2 q3 q4 q5 q6
      subst hspot
      have hadd : ∀ j, (⟨b, o, none⟩ : Addr).add j = ⟨b, o + j, none⟩ := by
        intro j; unfold Addr.add; split
        · rename_i h; subst h; rfl
        · rfl
      rw [hadd] at q0 q1 q2 q3 q4 q5 q6
      simp only [← Nat.add_assoc] at q0 q1 q2 q3 q4 q5 q6
      exact ⟨g, ⟨P, q, rfl, ⟨q0, q1, q2, q3, q4, q5, q6⟩, hr⟩, hbg⟩
    have hfx : ∃ f : Nat → Ln, ∀ i, i < len → (∃ P q, spot = none ∧ LnAt W b (o + i * 7) (f i) P q ∧ RX W P (f i).parts.length (f i).parts) ∧ bigL (f i) :=
      ⟨fun i => if h : i < len then (hg i h).choose else ⟨0, [], [], [], 0, 0, 0⟩, fun i hi => by simp only [dif_pos hi]; exact (hg i hi).choose_spec⟩
    obtain ⟨f, hf⟩ := hfx
    refine ⟨some ⟨b, o, spot⟩, len, cap, (List.range len).map f, (List.cons.inj hcs).1, ⟨by simp, fun hn => ?_⟩, by omega, fun s hs => ?_⟩
    · obtain ⟨⟨P, q, hsp, hat, _⟩, _⟩ := hf 0 hn
      subst hsp
      refine ⟨b, o, rfl, hat.lt, fun j hj => ?_⟩
      obtain ⟨⟨P, q, _, h1, h2⟩, _⟩ := hf j hj
      have hgf : lx ((List.range len).map f) j = f j := by
        rw [lx_lt (by simpa using hj)]
        simp
      rw [hgf]
      exact ⟨P, q, h1, h2⟩
    · obtain ⟨i, hi1, rfl⟩ := List.mem_map.1 hs
      exact (hf i (List.mem_range.1 hi1)).2
end Go.Proofs.YtjjphaiomaiilaaGreat
