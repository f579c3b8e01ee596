/- Worlds that differ in some blocks alone; marking as the laws do it. Contracts of the counts of kinds. Compiled programs: gates only grow, outs are as many as the results' bits, numbers and their bits. No program in sight. The contracts of coGood, coCircuit and the reference's CompileProgram. Texts below 2^21 bytes. -/
import Derived.Test.YtjjphaiomaiilaaGreatQB44
namespace Go.Proofs.YtjjphaiomaiilaaGreat
open Go.RowKit
set_option linter.unusedVariables false
set_option linter.unusedSimpArgs false
theorem markIntS_c (A : Option Addr) (n c lo hi : Nat) (q : Int) (xs : List Int) (w : World) (ha : Own w lo hi (.slice A n c) n xs) (hn : n ≤ 2097152) (h0 : 0 ≤ q) (h1 : q ≤ 1000000000000) :
    Calls Tryz.prog 21 #[.slice A n c, .int .i64 q] w fun e w' => e = .returned (.int .i64 (q + n)) ∧ Own w' lo hi (.slice A n c) n (marks q n) ∧ Chg lo hi w w' :=
  (markIntS_any A n c lo hi q xs w ha hn h0 h1).mono fun _ _ ⟨h1, h2, h3⟩ => ⟨h1, h2, Chg.of_grown ha h3⟩
end Go.Proofs.YtjjphaiomaiilaaGreat
namespace Go.Proofs.YtjjphaiomaiilaaGreat
open Go.RowKit
set_option linter.unusedVariables false
set_option linter.unusedSimpArgs false
def cntK (gs : List G3) : Nat → List Int
  | 0 => List.replicate 4 0
  | k + 1 => (cntK gs k).set (gg gs k).k.toNat (gi (cntK gs k) (gg gs k).k.toNat + 1)
theorem cntK_len (gs : List G3) (k : Nat) : (cntK gs k).length = 4 := by
  induction k with
  | zero => rfl
  | succ k ih => simp [cntK, ih]
theorem gi_set_bd {l : List Int} {i j : Nat} {v lo hi : Int} (hl : lo ≤ gi l j ∧ gi l j ≤ hi) (hv : lo ≤ v ∧ v ≤ hi) : lo ≤ gi (l.set i v) j ∧ gi (l.set i v) j ≤ hi := by
  unfold gi at *
  rw [List.getD_eq_getElem?_getD] at *
  rw [List.getElem?_set]
  split
  · split
    · simpa using hv
    · rename_i h1 h2; subst h1; rw [List.getElem?_eq_none (by omega)] at hl; exact hl
  · exact hl
theorem cntK_bd (gs : List G3) (k j : Nat) : 0 ≤ gi (cntK gs k) j ∧ gi (cntK gs k) j ≤ k := by
  induction k generalizing j with
  | zero =>
    unfold gi cntK
    rw [List.getD_eq_getElem?_getD, List.getElem?_replicate]
    split <;> simp
  | succ k ih =>
    rw [cntK]
    have h1 := ih j
    have h2 := ih (gg gs k).k.toNat
    exact gi_set_bd ⟨h1.1, by omega⟩ ⟨by omega, by omega⟩
set_option maxRecDepth 100000 in
set_option maxHeartbeats 2000000 in
theorem countKinds_any (Ag : Option Addr) (ng cg : Nat) (gs : List G3) (w : World) (hr : RG w Ag ng gs) (hng : ng ≤ 2097152) (hkd : ∀ k, k < ng → 0 ≤ (gg gs k).k ∧ (gg gs k).k ≤ 3) :
    Calls Tryz.prog 56 #[.slice Ag ng cg] w (RetI w (cntK gs ng)) := by
  obtain ⟨i0, hi, hz0, hz1, hz2⟩ := info_parts info_int
  have HB := Lib.hid (cntK_bd gs)
  have HL := Lib.hid (cntK_len gs)
  have HS : Hid (∀ k, cntK gs (k + 1) = (cntK gs k).set (gg gs k).k.toNat (gi (cntK gs k) (gg gs k).k.toNat + 1)) := Lib.hid fun k => rfl
  have hB0 : Below w.heap.size w w := Below.refl _ _
  go_enter Tryz.func56, Tryz.ntmps56
  go_wp2_with (at_make; refine wpList_make_full _ rfl _ _ 30 rfl (w.heap.size) 3 i0 (.int .i64 0) 1 Tryz.underlying30 hi hz0 hz1 _ _ _ _ 4 rfl rfl rfl rfl (by rw [hz2]; omega) (by unfold maxLen; omega) (by simp) ?_; intro w3 hown hgrow)
  have hrep : w3.ownsRow (w.heap.size) 3 1 (.slice (some ⟨w.heap.size, 0, none⟩) 4 4) 4 ((cntK gs 0).map (Value.int .i64)) := by
    have h : (madeCells (Value.int .i64 0).cells (4 * 1)).toList = (cntK gs 0).map (Value.int .i64) := by
      simp [Value.cells, toList_madeCells_one, cntK]
    rw [← h]; first | exact hown | (simp only [World.size_alloc] at hown; exact hown)
  have hown3 := Own.mk_ hrep
  have hb3 := below_of_grownBy hgrow
  have hB3 := hB0.trans (hb3.mono hB0.size)
  clear hrep hown hgrow hb3
  go_wp2
  go_loopw [9] (fun i wr => ∃ k : Nat, k ≤ ng ∧ i = .int .i64 k ∧ Own wr (w.heap.size) w3.heap.size (.slice (some ⟨w.heap.size, 0, none⟩) 4 4) 4 (cntK gs k) ∧ Below w.heap.size w wr) (fun i _ => ng - (intOf i).toNat)
  case atStart => exact ⟨0, Nat.zero_le _, rfl, hown3, hB3⟩
  case round =>
    obtain ⟨k, hk, rfl, ho, hb⟩ := hrel
    clear hown3 hB3
    have hz := hb.size
    by_cases hlt : k < ng
    · obtain ⟨kb, ob, rfl, hkb, c1, c2, c3⟩ := (hr.below hb (Nat.le_refl _)).at_ hlt
      have hk3 := hkd k hlt
      have hS := Lib.hid (HS.out k)
      have hbd := HB.out k (gg gs k).k.toNat
      generalize gg gs k = GG at *
      obtain ⟨gk, ga, gb⟩ := GG
      dsimp only at c1 c2 c3 hk3 hS hbd
      obtain ⟨K, rfl⟩ : ∃ K : Nat, gk = K := ⟨gk.toNat, by omega⟩
      have hK : K < 4 := by omega
      have hS' : Hid (cntK gs (k + 1) = (cntK gs k).set K (gi (cntK gs k) K + 1)) := Lib.hid hS.out
      have hbd' : 0 ≤ gi (cntK gs k) K ∧ gi (cntK gs k) K ≤ (k : Int) := hbd
      clear hS hbd hk3
      obtain ⟨v, hv⟩ : ∃ v, Hid (gi (cntK gs k) K = v) := ⟨_, Lib.hid rfl⟩
      have hoA := ho.alloc (.cells #[.int .i64 K, .int .i64 ga, .int .i64 gb] 81)
      have hbA := hb.alloc hz (.cells #[.int .i64 K, .int .i64 ga, .int .i64 gb] 81)
      obtain ⟨hc, hf⟩ := hoA.cellAt hK
      obtain ⟨hs0, _⟩ := ho.stored K (gi (cntK gs k) K + 1)
      rw [← hS'.out] at hs0
      rw [hv.out] at hc hs0 hbd'
      have hs1 := hs0.alloc (.cells #[.int .i64 K, .int .i64 ga, .int .i64 gb] 81)
      have hlw := hoA.lt (w.heap.size) (by simp [Value.ownBlock])
      simp only [World.size_alloc] at hlw
      have hl3 : w.heap.size < wr.heap.size := by have := ho.lt (w.heap.size) (by simp [Value.ownBlock]); omega
      have hbS := (hb.setCell (p := ⟨w.heap.size, K, none⟩) (by show w.heap.size ≤ w.heap.size; omega) (.int .i64 (v + 1))).alloc (by simpa using hz) (.cells #[.int .i64 K, .int .i64 ga, .int .i64 gb] 81)
      clear ho hb hoA hbA hv hS' hs0
      go_wp2
      go_roundw
      case rel => exact ⟨k + 1, by omega, by go_num, hs1, hbS⟩
      case measure => simp [intOf]; omega
    · obtain rfl : ng = k := Nat.le_antisymm (Nat.le_of_not_lt hlt) hk
      go_wp2
      go_ret
      exact RetI.mk_ (HL.out ng) rfl ((ho.lo_ (by omega)).now) hb
end Go.Proofs.YtjjphaiomaiilaaGreat
namespace Go.Proofs.YtjjphaiomaiilaaGreat
open Go.RowKit
set_option linter.unusedVariables false
set_option linter.unusedSimpArgs false
theorem addS_ge (X : Int) (g0 : List G3) (us vs : List Int) (i : Nat) : g0.length ≤ (addS X g0 us vs i).g.length := by
  induction i with
  | zero => simp [addS]
  | succ i ih => simp only [addS, addStep]; split <;> simp <;> omega
theorem subS_ge (X : Int) (g0 : List G3) (us vs : List Int) (i : Nat) : g0.length ≤ (subS X g0 us vs i).g.length := by
  induction i with
  | zero => simp [subS]
  | succ i ih => simp only [subS, subStep]; split <;> simp <;> omega
theorem bitS_ge (K : Nat) (X : Int) (us vs : List Int) (g0 : List G3) (i : Nat) : g0.length ≤ (bitS K X us vs g0 i).g.length := by
  induction i with
  | zero => simp [bitS]
  | succ i ih => simp only [bitS, bitStep]; split <;> simp <;> omega
theorem prodS_ge (X : Int) (g0 : List G3) (us vs : List Int) (n : Nat) (i : Nat) : g0.length ≤ (prodS X g0 us vs n i).g.length := by
  induction i with
  | zero => simp [prodS]
  | succ i ih =>
    simp only [prodS]
    unfold prodStep
    split
    · rw [row_g]; omega
    · have h1 := addS_ge X (rowG X (gi vs i) us (prodG1 X i (prodS X g0 us vs n i)) n).g (prodRest X i (prodS X g0 us vs n i)) (rowG X (gi vs i) us (prodG1 X i (prodS X g0 us vs n i)) n).o n
      have h2 := row_g X (gi vs i) us (prodG1 X i (prodS X g0 us vs n i)) n
      have h3 : (prodS X g0 us vs n i).g.length ≤ (prodG1 X i (prodS X g0 us vs n i)).length := by unfold prodG1; split <;> simp
      dsimp only; omega
theorem mulS_ge (X : Int) (us vs : List Int) (g : List G3) (n : Nat) : g.length ≤ (mulS X us vs g n).g.length := by
  have := prodS_ge X g us vs n n
  unfold mulS
  split
  · simp only [List.length_append]; omega
  · exact this
theorem twoS_ge (X : Int) (op : Str) (us vs : List Int) (g : List G3) (n : Nat) : g.length ≤ (twoS X op us vs g n).g.length := by
  unfold twoS
  split
  · exact addS_ge _ _ _ _ _
  split
  · exact subS_ge _ _ _ _ _
  split
  · exact subS_ge _ _ _ _ _
  split
  · unfold eqlS; dsimp only; rw [ands_g, eqs_g]; omega
  split
  · exact mulS_ge _ _ _ _ _
  · exact bitS_ge _ _ _ _ _ _
theorem lineG_ge (X : Int) (x : Ln) (ps : List (List Int)) (g : List G3) : g.length ≤ (lineG X x ps g).g.length := by
  unfold lineG
  split
  · simp [constS]
  split
  · exact twoS_ge _ _ _ _ _ _
  split
  · rw [nots_g]; omega
  split
  · rw [chs_g]; omega
  · exact Nat.le_refl _
theorem stepG_ge (l : List Ln) (x y : Int) (k : Nat) (s : Cs) : s.g.length ≤ (stepG l x y k s).g.length := by
  unfold stepG
  split
  · exact Nat.le_refl _
  · exact lineG_ge _ _ _ _
structure EInv (k : Nat) (s : Cs) : Prop where
  len : s.es.length = k
  mono : ∀ i j, i ≤ j → j < k → gi s.es i ≤ gi s.es j
  pos : ∀ j, j < k → 0 ≤ gi s.es j
  le : ∀ j, j < k → gi s.es j ≤ s.g.length
  last : ∀ j, j + 1 = k → gi s.es j = s.g.length
theorem cS_es (l : List Ln) (x y : Int) : ∀ k, EInv k (cS l x y k) := by
  intro k
  induction k with
  | zero => exact ⟨rfl, fun i j _ h => by omega, fun j h => by omega, fun j h => by omega, fun j h => by omega⟩
  | succ k ih =>
    have hge := stepG_ge l x y k (cS l x y k)
    show EInv (k + 1) (stepC l (stepG l x y k (cS l x y k)) k (cS l x y k))
    generalize stepG l x y k (cS l x y k) = r at hge
    generalize cS l x y k = s at ih hge
    obtain ⟨h1, h2, h3, h4, h5⟩ := ih
    have e1 : ∀ j, j < k → gi (s.es ++ [(r.g.length : Int)]) j = gi s.es j := fun j hj => by
      unfold gi; rw [List.getD_eq_getElem?_getD, List.getD_eq_getElem?_getD, List.getElem?_append_left (by omega)]
    have e2 : gi (s.es ++ [(r.g.length : Int)]) k = r.g.length := by
      unfold gi; rw [List.getD_eq_getElem?_getD, List.getElem?_append_right (by omega)]; simp [h1]
    refine ⟨by simp [stepC, h1], fun i j hij hj => ?_, fun j hj => ?_, fun j hj => ?_, fun j hj => ?_⟩ <;> simp only [stepC]
    · rcases Nat.lt_or_ge j k with h | h
      · rw [e1 i (by omega), e1 j h]; exact h2 i j hij h
      · obtain rfl : j = k := by omega
        rw [e2]
        rcases Nat.lt_or_ge i j with h' | h'
        · rw [e1 i h']; have := h4 i h'; omega
        · obtain rfl : i = j := by omega
          rw [e2]; omega
    · rcases Nat.lt_or_ge j k with h | h
      · rw [e1 j h]; exact h3 j h
      · obtain rfl : j = k := by omega
        rw [e2]; omega
    · rcases Nat.lt_or_ge j k with h | h
      · rw [e1 j h]; have := h4 j h; omega
      · obtain rfl : j = k := by omega
        rw [e2]; omega
    · obtain rfl : j = k := by omega
      exact e2
def cutG (gs : List G3) (a b : Nat) : List G3 := (gs.drop a).take (b - a)
theorem cutG_len {gs : List G3} {a b : Nat} (h : b ≤ gs.length) (hab : a ≤ b) : (cutG gs a b).length = b - a := by unfold cutG; simp; omega
theorem cutG_at {gs : List G3} {a b j : Nat} (h : b ≤ gs.length) (hj : j < b - a) : gg (cutG gs a b) j = gg gs (a + j) := by
  unfold cutG gg
  rw [List.getD_eq_getElem?_getD, List.getD_eq_getElem?_getD, List.getElem?_take_of_lt hj, List.getElem?_drop]
def endN (es : List Int) : Nat → Nat
  | 0 => 0
  | i + 1 => (gi es i).toNat
theorem endN_le {s : Cs} {n : Nat} (h : EInv n s) {i : Nat} (hi : i < n) : endN s.es i ≤ endN s.es (i + 1) ∧ endN s.es (i + 1) ≤ s.g.length ∧ gi s.es i = endN s.es (i + 1) := by
  have h1 := h.pos i hi
  have h2 := h.le i hi
  refine ⟨?_, by show (gi s.es i).toNat ≤ _; omega, by show _ = ((gi s.es i).toNat : Int); omega⟩
  cases i with
  | zero => exact Nat.zero_le _
  | succ i =>
    have := h.mono i (i + 1) (by omega) hi
    show (gi s.es i).toNat ≤ (gi s.es (i + 1)).toNat
    omega
def andN (s : Cs) (i : Nat) : Int := gi (cntK (cutG s.g (endN s.es i) (endN s.es (i + 1))) (endN s.es (i + 1) - endN s.es i)) 1
def andsK (s : Cs) (k : Nat) : List Int := tab k (andN s)
theorem andsK_len (s : Cs) (k : Nat) : (andsK s k).length = k := tab_len _ _
theorem andsK_snoc (s : Cs) (k : Nat) : andsK s (k + 1) = andsK s k ++ [andN s k] := tab_snoc _ _
end Go.Proofs.YtjjphaiomaiilaaGreat
namespace Go.Proofs.YtjjphaiomaiilaaGreat
open Go.RowKit
set_option linter.unusedVariables false
set_option linter.unusedSimpArgs false
theorem fld1 (B n wc ec : Nat) (Wa Ea : Option Addr) : ∀ w : World, (Instr.field 66 (.agg #[.pointer (some ⟨B, 0, none⟩), .slice Wa n wc, .slice Ea n ec]) 1).run Tryz.prog w = .ok (.slice Wa n wc) w := fun _ => by kernel_rfl
theorem fld2 (B n wc ec : Nat) (Wa Ea : Option Addr) : ∀ w : World, (Instr.field 66 (.agg #[.pointer (some ⟨B, 0, none⟩), .slice Wa n wc, .slice Ea n ec]) 2).run Tryz.prog w = .ok (.slice Ea n ec) w := fun _ => by kernel_rfl
end Go.Proofs.YtjjphaiomaiilaaGreat
