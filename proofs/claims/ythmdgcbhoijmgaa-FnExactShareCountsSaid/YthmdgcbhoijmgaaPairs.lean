/- Contracts of PairsFor and ShareCounts. No condition. -/
import Derived.Test.YthmdgcbhoijmgaaNest
import Derived.Test.YthmdgcbhoijmgaaTests
namespace Go.Proofs.Ythmdgcbhoijmgaa
open Go.RowKit
set_option linter.unusedVariables false
set_option linter.unusedSimpArgs false

/-- A call that began at w returns a new slice of lists and true; or an empty one and false. -/
def RetOSS (w : World) (o : Option (List (List Int))) (e : Ending) (w' : World) : Prop :=
  ∃ A' c', e = .returned (.tuple #[.slice A' (o.getD []).length c', .bool o.isSome]) ∧ OwnII w' w.heap.size w'.heap.size (.slice A' (o.getD []).length c') (o.getD []).length (o.getD []) ∧ Below w.heap.size w w'
theorem RetOSS.none_ {w : World} {o : Option (List (List Int))} {e : Ending} {w' : World} (hb : Below w.heap.size w w') (ho : o = none) (he : e = .returned (.tuple #[.slice none 0 0, .bool false])) : RetOSS w o e w' := by
  subst ho; exact ⟨none, 0, he, OwnII.none_ _ _ _, hb⟩
theorem RetOSS.some_ {w : World} {o : Option (List (List Int))} {zs : List (List Int)} {n : Nat} {A' : Option Addr} {c' : Nat} {e : Ending} {w' : World} (hb : Below w.heap.size w w') (ho : o = some zs) (hn : zs.length = n) (he : e = .returned (.tuple #[.slice A' n c', .bool true]))
    (hw : OwnII w' w.heap.size w'.heap.size (.slice A' n c') n zs) : RetOSS w o e w' := by
  subst ho; subst hn; exact ⟨A', c', he, hw, hb⟩
/-- The first k pairs of shares of a value. -/
def pairsL (p value : Int) (k : Nat) : List (List Int) := (List.range k).map fun x : Nat => [(x : Int), (value - x) % p]
theorem pairsL_len (p value : Int) (k : Nat) : (pairsL p value k).length = k := by simp [pairsL]
theorem pairsL_snoc (p value : Int) (k : Nat) : pairsL p value (k + 1) = pairsL p value k ++ [[(k : Int), (value - k) % p]] := by simp [pairsL, List.range_succ]
theorem gl_pairsL {p value : Int} {k n : Nat} (h : k < n) : gl (pairsL p value n) k = [(k : Int), (value - k) % p] := by simp [gl, pairsL, h]
def pairsF (p value : Int) : Option (List (List Int)) := if elemB p value then some (pairsL p value p.toNat) else none
theorem pairsF_len (p value : Int) : ((pairsF p value).getD []).length ≤ 251 := by
  unfold pairsF
  split
  · rename_i h
    have := elemB_bd h
    simp [pairsL_len]; omega
  · simp
theorem pairsF_in (p value : Int) : ∀ xs ∈ (pairsF p value).getD [], xs.length ≤ 1000 := by
  unfold pairsF
  split
  · intro xs hx
    simp only [Option.getD_some, pairsL, List.mem_map] at hx
    obtain ⟨x, _, rfl⟩ := hx
    simp
  · simp
theorem elemsB_one (p v : Int) : elemsB p [v] = elemB p v := by simp [elemsB, elemB, allB]
theorem OwnII_new0 (w : World) (lo : Nat) (hl : lo ≤ w.heap.size) : OwnII (w.alloc (.cells #[] 22)) lo (w.heap.size + 1) (.slice (some ⟨w.heap.size, 0, none⟩) 0 0) 0 [] := by
  have h := World.ownsRow_lit (base := lo) (e := 22) (size := 1) w #[] 0 hl (by unfold maxLen; omega) (by simp)
  exact ⟨[], by simpa using h, fun g hg => by simp [Value.ownBlock] at hg; omega, rfl, fun j hj => absurd hj (by omega), fun i j u u' _ h => by simp at h⟩
/-- How often each share was met among the first k pairs. -/
def cntN (p value : Int) (q : Nat) : Nat → List Int
  | 0 => List.replicate p.toNat 0
  | k + 1 => (cntN p value q k).set (gi [(k : Int), (value - k) % p] q).toNat (gi (cntN p value q k) (gi [(k : Int), (value - k) % p] q).toNat + 1)
theorem cntN_len (p value : Int) (q k : Nat) : (cntN p value q k).length = p.toNat := by
  induction k with
  | zero => simp [cntN]
  | succ k ih => simp [cntN, ih]
theorem cntN_bd (p value : Int) (q k : Nat) : ∀ x ∈ cntN p value q k, 0 ≤ x ∧ x ≤ k := by
  induction k with
  | zero => intro x hx; simp [cntN] at hx; omega
  | succ k ih =>
    intro x hx
    rcases List.mem_or_eq_of_mem_set hx with h | h
    · have := ih x h; omega
    · have hg : 0 ≤ gi (cntN p value q k) (gi [(k : Int), (value - k) % p] q).toNat ∧ gi (cntN p value q k) (gi [(k : Int), (value - k) % p] q).toNat ≤ k := by
        by_cases hl : (gi [(k : Int), (value - k) % p] q).toNat < (cntN p value q k).length
        · exact ih _ (gi_mem hl)
        · unfold gi at *
          rw [List.getD_eq_getElem?_getD, List.getElem?_eq_none (by omega)]; simp
      omega
/-- How often a party has each share. -/
def countsF (p value party : Int) : Option (List Int) := if elemB p value && inB 0 1 party then some (cntN p value party.toNat p.toNat) else none
theorem countsF_len (p value party : Int) : ((countsF p value party).getD []).length ≤ 251 := by
  unfold countsF
  split
  · rename_i h
    simp only [Bool.and_eq_true] at h
    have := elemB_bd h.1
    simp [cntN_len]; omega
  · simp

set_option maxRecDepth 100000 in
set_option maxHeartbeats 1000000 in
theorem PairsFor_any {p value : Int} {w : World} : Calls Try.prog 27 #[.int .i64 p, .int .i64 value] w (RetOSS w (pairsF p value)) := by
  obtain ⟨i0, hi, hz0, hz1, hz2⟩ := info_parts info_ints
  go_enter Try.func27, Try.ntmps27
  go_wp2_with fail
  refine (isElement_any p value _).mono ?_
  rintro e w1 ⟨rfl, rfl⟩
  cases h1 : elemB p value with
  | false =>
    go_wp2
    go_ret2
    exact RetOSS.none_ (Below.refl _ _) (by simp [pairsF, h1]) rfl
  | true =>
    obtain ⟨hp0, hp1, hv0, hv1⟩ := elemB_bd h1
    have hR : Hid (pairsF p value = some (pairsL p value p.toNat)) := Lib.hid (by simp [pairsF, h1])
    clear h1
    obtain ⟨P, rfl⟩ : ∃ P : Nat, p = P := ⟨p.toNat, by omega⟩
    rw [Int.toNat_natCast] at hR
    have hst := And.intro (OwnII_new0 w w.heap.size (Nat.le_refl _)).now ((Below.refl w.heap.size w).alloc (Nat.le_refl _) (.cells #[] 22))
    have hpne : ¬ (P : Int) = 0 := by omega
    go_wp2
    go_loopw [6, 14] (fun v i wr => ∃ (k : Nat) (A' : Option Addr) (c' : Nat), k ≤ P ∧ i = .int .i64 k ∧ v = .slice A' k c' ∧ OwnII wr w.heap.size wr.heap.size (.slice A' k c') k (pairsL P value k) ∧ Below w.heap.size w wr) (fun _ i _ => P - (intOf i).toNat)
    case atStart => exact ⟨0, _, _, Nat.zero_le _, rfl, rfl, hst.1, hst.2⟩
    case round =>
      clear hst
      obtain ⟨k, A', c', hk, rfl, rfl, hown, hbw⟩ := hrel
      by_cases hlt : k < P
      · have hsn := Lib.hid (pairsL_snoc P value k)
        have hz := hbw.size
        obtain ⟨vals, q1, q2, q3, q4, q5⟩ := hown
        have hnew := Own_new2 wr (k : Int) ((value - (k : Int)) % P) wr.heap.size (Nat.le_refl _)
        have q1' := (q1.alloc (.cells #[.int .i64 k, .int .i64 ((value - (k : Int)) % P)] 3)).alloc (.cells #[.slice (some ⟨wr.heap.size, 0, none⟩) 2 2] 22)
        have hb2 := (hbw.alloc hz (.cells #[.int .i64 k, .int .i64 ((value - (k : Int)) % P)] 3)).alloc (by simp; omega) (.cells #[.slice (some ⟨wr.heap.size, 0, none⟩) 2 2] 22)
        have hcell : ((wr.alloc (.cells #[.int .i64 k, .int .i64 ((value - (k : Int)) % P)] 3)).alloc (.cells #[.slice (some ⟨wr.heap.size, 0, none⟩) 2 2] 22)).heap[wr.heap.size + 1]? = some (.cells #[.slice (some ⟨wr.heap.size, 0, none⟩) 2 2] 22 (0, 0)) := by
          have := heap_alloc_new (wr.alloc (.cells #[.int .i64 k, .int .i64 ((value - (k : Int)) % P)] 3)) (.cells #[.slice (some ⟨wr.heap.size, 0, none⟩) 2 2] 22)
          simpa using this
        go_wp2_with (at_builtin; go_loud (refine wpList_append_lies _ rfl _ _ _ rfl w.heap.size 22 i0 (.slice none 0 0) 1 24 Try.underlying33 hi hz0 hz1 hz2 rfl (by omega) _ k vals rfl q1' ⟨wr.heap.size + 1, 0, none⟩ 1 1 [.slice (some ⟨wr.heap.size, 0, none⟩) 2 2] rfl rfl (World.news_of_block (cs := #[.slice (some ⟨wr.heap.size, 0, none⟩) 2 2]) (t := 22) (fr := (0, 0)) hcell) (by simp [Value.oneCell']) (by omega) (by unfold maxLen; omega) (by omega) (by simp; omega) _ rfl ?_); intro g5 cap5 w5 hown5 hgr5 hat5 hlt5)
        have hbx : Below wr.heap.size wr ((wr.alloc (.cells #[.int .i64 k, .int .i64 ((value - (k : Int)) % P)] 3)).alloc (.cells #[.slice (some ⟨wr.heap.size, 0, none⟩) 2 2] 22)) := ((Below.refl _ _).alloc (Nat.le_refl _) _).alloc (by simp) _
        have hn2 := (hnew.alloc (.cells #[.slice (some ⟨wr.heap.size, 0, none⟩) 2 2] 22)).hi_ (hi' := wr.heap.size + 1) (Nat.le_refl _)
        have h4' : ∀ j : Nat, j < k → ∃ A' m c', vals[j]? = some (.slice A' m c') ∧ Own wr w.heap.size (wr.heap.size + 1) (.slice A' m c') m (gl (pairsL P value k) j) := fun j hj => by
          obtain ⟨A', m, c', h1, h2⟩ := q4 j hj
          exact ⟨A', m, c', h1, h2.hi_ (by omega)⟩
        have happ := OwnII.app (A5 := some ⟨g5, 0, none⟩) (c5 := cap5) q1 q3 h4' q5 hbx hn2 hz hown5 hgr5
        have hb5 := hb2.grown hgr5 (by simp; omega) (fun q hq => by have := q1.lt q hq; omega)
        rw [← hsn.out] at happ
        clear hb2 q1' q1 q2 q3 q4 q5 hown5 hgr5 hat5 hlt5 hnew hn2 h4' hbx hcell hbw
        go_wp2
        go_roundw
        case rel => exact ⟨k + 1, _, _, by omega, by go_num, rfl, happ, hb5⟩
        case measure => simp [intOf]; omega
      · obtain rfl : k = P := by omega
        go_wp2
        go_ret2
        exact RetOSS.some_ hbw hR.out (pairsL_len _ _ _) rfl hown

set_option maxRecDepth 100000 in
set_option maxHeartbeats 1000000 in
theorem shPairs_any (P : Nat) (value : Int) (w : World) (hp : 2 ≤ P ∧ P ≤ 251) (hv : 0 ≤ value ∧ value < P) :
    Calls Try.prog 53 #[.int .i64 P, .int .i64 value] w fun e w' => ∃ A' c', e = .returned (.slice A' P c') ∧ OwnII w' w.heap.size w'.heap.size (.slice A' P c') P (pairsL P value P) ∧ Below w.heap.size w w' := by
  obtain ⟨i0, hi, hz0, hz1, hz2⟩ := info_parts info_ints
  obtain ⟨hp0, hp1⟩ := hp
  obtain ⟨hv0, hv1⟩ := hv
  go_enter Try.func53, Try.ntmps53
  go_wp2
  go_loopw [5, 6] (fun v i wr => ∃ (k : Nat) (A' : Option Addr) (c' : Nat), k ≤ P ∧ i = .int .i64 k ∧ v = .slice A' k c' ∧ OwnII wr w.heap.size wr.heap.size (.slice A' k c') k (pairsL P value k) ∧ Below w.heap.size w wr) (fun _ i _ => P - (intOf i).toNat)
  case atStart => exact ⟨0, _, _, Nat.zero_le _, rfl, rfl, OwnII.none_ _ _ _, Below.refl _ _⟩
  case round =>
    obtain ⟨k, A', c', hk, rfl, rfl, hown, hbw⟩ := hrel
    by_cases hlt : k < P
    · have hsn := Lib.hid (pairsL_snoc P value k)
      have hz := hbw.size
      obtain ⟨vals, q1, q2, q3, q4, q5⟩ := hown
      have hnew := Own_new2 wr (k : Int) ((value - (k : Int)) % P) wr.heap.size (Nat.le_refl _)
      have q1' := (q1.alloc (.cells #[.int .i64 k, .int .i64 ((value - (k : Int)) % P)] 3)).alloc (.cells #[.slice (some ⟨wr.heap.size, 0, none⟩) 2 2] 22)
      have hb2 := (hbw.alloc hz (.cells #[.int .i64 k, .int .i64 ((value - (k : Int)) % P)] 3)).alloc (by simp; omega) (.cells #[.slice (some ⟨wr.heap.size, 0, none⟩) 2 2] 22)
      have hcell : ((wr.alloc (.cells #[.int .i64 k, .int .i64 ((value - (k : Int)) % P)] 3)).alloc (.cells #[.slice (some ⟨wr.heap.size, 0, none⟩) 2 2] 22)).heap[wr.heap.size + 1]? = some (.cells #[.slice (some ⟨wr.heap.size, 0, none⟩) 2 2] 22 (0, 0)) := by
        have := heap_alloc_new (wr.alloc (.cells #[.int .i64 k, .int .i64 ((value - (k : Int)) % P)] 3)) (.cells #[.slice (some ⟨wr.heap.size, 0, none⟩) 2 2] 22)
        simpa using this
      go_wp2_with fail
      refine (btMod_any (value - k) P _ (by omega) (by omega) (by omega) (by omega)).mono ?_
      rintro e w1 ⟨rfl, rfl⟩
      go_wp2_with (at_builtin; go_loud (refine wpList_append_lies _ rfl _ _ _ rfl w.heap.size 22 i0 (.slice none 0 0) 1 24 Try.underlying33 hi hz0 hz1 hz2 rfl (by omega) _ k vals rfl q1' ⟨wr.heap.size + 1, 0, none⟩ 1 1 [.slice (some ⟨wr.heap.size, 0, none⟩) 2 2] rfl rfl (World.news_of_block (cs := #[.slice (some ⟨wr.heap.size, 0, none⟩) 2 2]) (t := 22) (fr := (0, 0)) hcell) (by simp [Value.oneCell']) (by omega) (by unfold maxLen; omega) (by omega) (by simp; omega) _ rfl ?_); intro g5 cap5 w5 hown5 hgr5 hat5 hlt5)
      have hbx : Below wr.heap.size wr ((wr.alloc (.cells #[.int .i64 k, .int .i64 ((value - (k : Int)) % P)] 3)).alloc (.cells #[.slice (some ⟨wr.heap.size, 0, none⟩) 2 2] 22)) := ((Below.refl _ _).alloc (Nat.le_refl _) _).alloc (by simp) _
      have hn2 := (hnew.alloc (.cells #[.slice (some ⟨wr.heap.size, 0, none⟩) 2 2] 22)).hi_ (hi' := wr.heap.size + 1) (Nat.le_refl _)
      have h4' : ∀ j : Nat, j < k → ∃ A' m c', vals[j]? = some (.slice A' m c') ∧ Own wr w.heap.size (wr.heap.size + 1) (.slice A' m c') m (gl (pairsL P value k) j) := fun j hj => by
        obtain ⟨A', m, c', h1, h2⟩ := q4 j hj
        exact ⟨A', m, c', h1, h2.hi_ (by omega)⟩
      have happ := OwnII.app (A5 := some ⟨g5, 0, none⟩) (c5 := cap5) q1 q3 h4' q5 hbx hn2 hz hown5 hgr5
      have hb5 := hb2.grown hgr5 (by simp; omega) (fun q hq => by have := q1.lt q hq; omega)
      rw [← hsn.out] at happ
      clear hb2 q1' q1 q2 q3 q4 q5 hown5 hgr5 hat5 hlt5 hnew hn2 h4' hbx hcell hbw
      go_wp2
      go_roundw
      case rel => exact ⟨k + 1, _, _, by omega, by go_num, rfl, happ, hb5⟩
      case measure => simp [intOf]; omega
    · obtain rfl : k = P := by omega
      go_wp2
      go_ret
      exact ⟨_, _, rfl, hown, hbw⟩

set_option maxHeartbeats 400000 in
theorem spec_PairsFor_any {p value : Int} {w : World} : Calls Try.prog 26 #[.int .i64 p, .int .i64 value] w (RetOSS w (pairsF p value)) := by
  have hB := (Below.refl w.heap.size w).alloc (Nat.le_refl _) (.cells #[.int .i64 value] 3)
  have he := Lib.hid (elemsB_one p value)
  go_enter Try.func26, Try.ntmps26
  go_wp2_with fail
  refine (fpIn_any p _ 1 1 [value] _ (RI_new1 _ _ _) (by omega)).mono ?_
  rintro e w1 ⟨rfl, rfl⟩
  rw [he.out]
  cases h1 : elemB p value with
  | false =>
    go_wp2
    go_ret2
    exact RetOSS.none_ hB (by simp [pairsF, h1]) rfl
  | true =>
    obtain ⟨hp0, hp1, hv0, hv1⟩ := elemB_bd h1
    have hR : Hid (pairsF p value = some (pairsL p value p.toNat)) := Lib.hid (by simp [pairsF, h1])
    clear h1
    obtain ⟨P, rfl⟩ : ∃ P : Nat, p = P := ⟨p.toNat, by omega⟩
    rw [Int.toNat_natCast] at hR
    go_wp2_with fail
    refine (shPairs_any P value _ (by omega) (by omega)).mono ?_
    rintro e w3 ⟨A3, c3, rfl, hown3, hb3⟩
    go_wp2
    go_ret2
    exact RetOSS.some_ (hB.trans (hb3.mono (by simp))) hR.out (pairsL_len _ _ _) rfl (hown3.lo_ (by simp))

set_option maxRecDepth 100000 in
set_option maxHeartbeats 2000000 in
theorem ShareCounts_any {p value party : Int} {w : World} : Calls Try.prog 23 #[.int .i64 p, .int .i64 value, .int .i64 party] w (RetO w (countsF p value party)) := by
  obtain ⟨i0, hi, hz0, hz1, hz2⟩ := info_parts info_int
  go_enter Try.func23, Try.ntmps23
  go_wp2_with fail
  refine (PairsFor_any).mono ?_
  rintro e w1 ⟨A3, c3, rfl, hown3, hb3⟩
  cases h1 : elemB p value with
  | false =>
    have hpn : pairsF p value = none := by simp [pairsF, h1]
    have hR : Hid (countsF p value party = none) := Lib.hid (by simp [countsF, h1])
    rw [hpn]
    clear h1
    go_wp2
    go_ret2
    exact RetO.none_ hb3 hR.out rfl
  | true =>
    obtain ⟨hp0, hp1, hv0, hv1⟩ := elemB_bd h1
    have hpn : pairsF p value = some (pairsL p value p.toNat) := by simp [pairsF, h1]
    rw [hpn] at hown3 ⊢
    have H1 := Lib.hid h1
    clear h1 hpn
    obtain ⟨P, rfl⟩ : ∃ P : Nat, p = P := ⟨p.toNat, by omega⟩
    simp only [Option.getD_some, pairsL_len, Int.toNat_natCast, Option.isSome_some] at hown3 ⊢
    go_wp2_with fail
    refine (isBit_any party _).mono ?_
    rintro e w2 ⟨rfl, rfl⟩
    cases h2 : inB 0 1 party with
    | false =>
      go_wp2
      go_ret2
      exact RetO.none_ hb3 (by simp [countsF, h2]) rfl
    | true =>
      have hq := inB_iff.1 h2
      obtain ⟨q, rfl⟩ : ∃ q : Nat, party = q := ⟨party.toNat, by omega⟩
      have hR : Hid (countsF P value q = some (cntN P value q P)) := Lib.hid (by unfold countsF; rw [H1.out, h2]; rfl)
      clear h2
      have hq1 : q < 2 := by omega
      have hz := hb3.size
      go_wp2_with (at_make; refine wpList_make_full _ rfl _ _ 22 rfl w1.heap.size 3 i0 (.int .i64 0) 1 Try.underlying22 hi hz0 hz1 _ _ _ _ P rfl rfl rfl rfl (by rw [hz2]; omega) (by unfold maxLen; omega) (Nat.le_refl _) ?_; intro w5 hown5 hgrow5)
      have hrep : w5.ownsRow w1.heap.size 3 1 (.slice (some ⟨w1.heap.size, 0, none⟩) P P) P ((cntN P value q 0).map (Value.int .i64)) := by
        have h : (madeCells (Value.int .i64 0).cells (P * 1)).toList = (cntN P value q 0).map (Value.int .i64) := by
          simp [Value.cells, toList_madeCells_one, cntN]
        rw [← h]; exact hown5
      have hO := Own.mk_ hrep
      have hb5 := below_of_grownBy hgrow5
      have hP := hown3.below hb5 (Nat.le_refl _)
      have hB4 := hb3.trans (hb5.mono hz)
      have hH : w5.heap.size ≤ w5.heap.size := Nat.le_refl _
      have HD : w5.heap.size ≤ w.heap.size ∨ w1.heap.size ≤ w1.heap.size := .inr (Nat.le_refl _)
      have hlow : w.heap.size ≤ w1.heap.size := hz
      clear hown5 hgrow5 hrep hown3 hb3 hb5 H1 hz hq
      go_wp2
      have hlo : w5.heap.size ≤ w.heap.size ∨ w1.heap.size ≤ w1.heap.size := HD
      go_loopw [30] (fun i wr => ∃ (k : Nat), k ≤ P ∧ i = .int .i64 k ∧ Own wr w1.heap.size w5.heap.size (.slice (some ⟨w1.heap.size, 0, none⟩) P P) P (cntN P value q k) ∧ OwnII wr w.heap.size w1.heap.size (.slice A3 P c3) P (pairsL P value P) ∧ Below w.heap.size w wr ∧ w5.heap.size ≤ wr.heap.size) (fun i _ => P - (intOf i).toNat)
      case atStart => exact ⟨0, Nat.zero_le _, rfl, hO, hP, hB4, hH⟩
      case round =>
        clear hO hP hB4 hH
        obtain ⟨k, hk, rfl, hown, hpr, hbw, hhi⟩ := hrel
        by_cases hlt : k < P
        · obtain ⟨b, o, A', m, c', rfl, hbB, e1, hr1⟩ := hpr.reads.at_ hlt
          rw [gl_pairsL hlt] at hr1
          obtain rfl : m = 2 := by have := hr1.len; simpa using this.symm
          obtain ⟨b', o', rfl, hbB', e2⟩ := hr1.at_ (k := q) (by omega)
          have hX : 0 ≤ gi [(k : Int), (value - k) % P] q ∧ gi [(k : Int), (value - k) % P] q < P := by
            have h0 := Int.emod_nonneg (value - (k : Int)) (show (P : Int) ≠ 0 by omega)
            have h1 := Int.emod_lt_of_pos (value - (k : Int)) (show (0 : Int) < P by omega)
            rcases (show q = 0 ∨ q = 1 by omega) with rfl | rfl
            · show 0 ≤ (k : Int) ∧ (k : Int) < P
              omega
            · exact ⟨h0, h1⟩
          obtain ⟨X, hXX⟩ : ∃ X : Nat, gi [(k : Int), (value - k) % P] q = X := ⟨(gi [(k : Int), (value - k) % P] q).toNat, by omega⟩
          have hcn : Hid (cntN P value q (k + 1) = (cntN P value q k).set X (gi (cntN P value q k) X + 1)) := Lib.hid (by
            show (cntN P value q k).set (gi [(k : Int), (value - k) % P] q).toNat _ = _
            rw [hXX]; rfl)
          have hXP : X < P := by omega
          have hcb := cntN_bd P value q k _ (gi_mem (xs := cntN P value q k) (j := X) (by rw [cntN_len]; omega))
          rw [hXX] at e2
          obtain ⟨hoc, hof⟩ := hown.cellAt hXP
          have hgl := hown.lt w1.heap.size rfl
          obtain ⟨hs1, hs2⟩ := hown.stored X (gi (cntN P value q k) X + 1)
          rw [← hcn.out] at hs1
          have hcg := Chg.of_grown hown hs2
          have hpr2 := hpr.chg hcg hlo.symm
          have hbw2 := hcg.below_ hbw (by omega) hbw.size
          have hsz := hcg.size
          have hXi : (X : Int) < P := by omega
          have hqi : (q : Int) < 2 := by omega
          clear hX hXX hcg hs2 hr1 hpr hown
          obtain ⟨hcb0, hcb1⟩ := hcb
          generalize gi (cntN P value q k) X = C at *
          go_wp2
          go_roundw
          case rel => exact ⟨k + 1, by omega, by go_num, hs1, hpr2, hbw2, by omega⟩
          case measure => simp [intOf]; omega
        · obtain rfl : k = P := by omega
          go_wp2
          go_ret2
          exact RetO.some_ hbw hR.out (by rw [cntN_len]; rfl) rfl ((hown.lo_ hlow).hi_ hhi)

set_option maxRecDepth 100000 in
set_option maxHeartbeats 2000000 in
theorem spec_ShareCounts_any {p value party : Int} {w : World} : Calls Try.prog 22 #[.int .i64 p, .int .i64 value, .int .i64 party] w (RetO w (countsF p value party)) := by
  obtain ⟨i0, hi, hz0, hz1, hz2⟩ := info_parts info_int
  have hB := (Below.refl w.heap.size w).alloc (Nat.le_refl _) (.cells #[.int .i64 value] 3)
  have he := Lib.hid (elemsB_one p value)
  go_enter Try.func22, Try.ntmps22
  go_wp2_with fail
  refine (fpIn_any p _ 1 1 [value] _ (RI_new1 _ _ _) (by omega)).mono ?_
  rintro e w1 ⟨rfl, rfl⟩
  rw [he.out]
  cases h1 : elemB p value with
  | false =>
    go_wp2
    go_ret2
    exact RetO.none_ hB (by simp [countsF, h1]) rfl
  | true =>
    obtain ⟨hp0, hp1, hv0, hv1⟩ := elemB_bd h1
    have H1 := Lib.hid h1
    clear h1
    obtain ⟨P, rfl⟩ : ∃ P : Nat, p = P := ⟨p.toNat, by omega⟩
    go_wp2_with fail
    refine (l1In_any party 0 1 _ rfl _).mono ?_
    rintro e w2 ⟨rfl, rfl⟩
    cases h2 : inB 0 1 party with
    | false =>
      go_wp2
      go_ret2
      exact RetO.none_ hB (by simp [countsF, h2]) rfl
    | true =>
      have hq := inB_iff.1 h2
      obtain ⟨q, rfl⟩ : ∃ q : Nat, party = q := ⟨party.toNat, by omega⟩
      have hR : Hid (countsF P value q = some (cntN P value q P)) := Lib.hid (by unfold countsF; rw [H1.out, h2]; rfl)
      clear h2
      have hq1 : q < 2 := by omega
      have hz : w.heap.size ≤ w.heap.size + 1 := by omega
      go_wp2_with (at_make; refine wpList_make_full _ rfl _ _ 22 rfl (w.heap.size + 1) 3 i0 (.int .i64 0) 1 Try.underlying22 hi hz0 hz1 _ _ _ _ P rfl rfl rfl rfl (by rw [hz2]; omega) (by unfold maxLen; omega) (by simp) ?_; intro w5 hown5 hgrow5)
      have hrep : w5.ownsRow (w.heap.size + 1) 3 1 (.slice (some ⟨w.heap.size + 1, 0, none⟩) P P) P ((cntN P value q 0).map (Value.int .i64)) := by
        have h : (madeCells (Value.int .i64 0).cells (P * 1)).toList = (cntN P value q 0).map (Value.int .i64) := by
          simp [Value.cells, toList_madeCells_one, cntN]
        rw [← h]; simpa using hown5
      have hO1 := Own.mk_ hrep
      have hb5 := hB.trans ((below_of_grownBy hgrow5).mono (by simp))
      have hz5 := hgrow5.size
      simp at hz5
      clear hown5 hgrow5 hrep hB H1 hq
      refine (shPairs_any P value _ (by omega) (by omega)).mono ?_
      rintro e w6 ⟨A3, c3, rfl, hP, hb6⟩
      have hO := hO1.below hb6 (.inl (Nat.le_refl _))
      have hB4 := hb5.trans (hb6.mono (by omega))
      have hH := hb6.size
      have HD : w5.heap.size ≤ w5.heap.size ∨ w6.heap.size ≤ w.heap.size + 1 := .inl (Nat.le_refl _)
      have hlow : w.heap.size ≤ w.heap.size + 1 := by omega
      clear hO1 hb5 hb6
      go_wp2
      have hlo : w5.heap.size ≤ w5.heap.size ∨ w6.heap.size ≤ (w.heap.size + 1) := HD
      go_loopw [27] (fun i wr => ∃ (k : Nat), k ≤ P ∧ i = .int .i64 k ∧ Own wr (w.heap.size + 1) w5.heap.size (.slice (some ⟨w.heap.size + 1, 0, none⟩) P P) P (cntN P value q k) ∧ OwnII wr w5.heap.size w6.heap.size (.slice A3 P c3) P (pairsL P value P) ∧ Below w.heap.size w wr ∧ w5.heap.size ≤ wr.heap.size) (fun i _ => P - (intOf i).toNat)
      case atStart => exact ⟨0, Nat.zero_le _, rfl, hO, hP, hB4, hH⟩
      case round =>
        clear hO hP hB4 hH
        obtain ⟨k, hk, rfl, hown, hpr, hbw, hhi⟩ := hrel
        by_cases hlt : k < P
        · obtain ⟨b, o, A', m, c', rfl, hbB, e1, hr1⟩ := hpr.reads.at_ hlt
          rw [gl_pairsL hlt] at hr1
          obtain rfl : m = 2 := by have := hr1.len; simpa using this.symm
          obtain ⟨b', o', rfl, hbB', e2⟩ := hr1.at_ (k := q) (by omega)
          have hX : 0 ≤ gi [(k : Int), (value - k) % P] q ∧ gi [(k : Int), (value - k) % P] q < P := by
            have h0 := Int.emod_nonneg (value - (k : Int)) (show (P : Int) ≠ 0 by omega)
            have h1 := Int.emod_lt_of_pos (value - (k : Int)) (show (0 : Int) < P by omega)
            rcases (show q = 0 ∨ q = 1 by omega) with rfl | rfl
            · show 0 ≤ (k : Int) ∧ (k : Int) < P
              omega
            · exact ⟨h0, h1⟩
          obtain ⟨X, hXX⟩ : ∃ X : Nat, gi [(k : Int), (value - k) % P] q = X := ⟨(gi [(k : Int), (value - k) % P] q).toNat, by omega⟩
          have hcn : Hid (cntN P value q (k + 1) = (cntN P value q k).set X (gi (cntN P value q k) X + 1)) := Lib.hid (by
            show (cntN P value q k).set (gi [(k : Int), (value - k) % P] q).toNat _ = _
            rw [hXX]; rfl)
          have hXP : X < P := by omega
          have hcb := cntN_bd P value q k _ (gi_mem (xs := cntN P value q k) (j := X) (by rw [cntN_len]; omega))
          rw [hXX] at e2
          obtain ⟨hoc, hof⟩ := hown.cellAt hXP
          have hgl := hown.lt (w.heap.size + 1) rfl
          obtain ⟨hs1, hs2⟩ := hown.stored X (gi (cntN P value q k) X + 1)
          rw [← hcn.out] at hs1
          have hcg := Chg.of_grown hown hs2
          have hpr2 := hpr.chg hcg hlo.symm
          have hbw2 := hcg.below_ hbw (by omega) hbw.size
          have hsz := hcg.size
          have hXi : (X : Int) < P := by omega
          have hqi : (q : Int) < 2 := by omega
          clear hX hXX hcg hs2 hr1 hpr hown
          obtain ⟨hcb0, hcb1⟩ := hcb
          generalize gi (cntN P value q k) X = C at *
          go_wp2
          go_roundw
          case rel => exact ⟨k + 1, by omega, by go_num, hs1, hpr2, hbw2, by omega⟩
          case measure => simp [intOf]; omega
        · obtain rfl : k = P := by omega
          go_wp2
          go_ret2
          exact RetO.some_ hbw hR.out (by rw [cntN_len]; rfl) rfl ((hown.lo_ hlow).hi_ hhi)

end Go.Proofs.Ythmdgcbhoijmgaa
