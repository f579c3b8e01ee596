/- Contracts of OnesOf, TruthTable, AreEqual, FirstUnequal. -/
import Derived.Test.YtjjphaiomaiilaaQTable3
import Derived.Deep.RegionLaw
namespace Go.Proofs.Ytjjphaiomaiilaa
open Go.RowKit
set_option linter.unusedVariables false
set_option linter.unusedSimpArgs false



/-- A call that began at w returns a number and true; or 0 and false. -/
def RetZO (w : World) (o : Option Int) (e : Ending) (w' : World) : Prop := e = .returned (.tuple #[.int .i64 (o.getD 0), .bool o.isSome]) ∧ Below w.heap.size w w'
theorem RetZO.none_ {w : World} {o : Option Int} {e : Ending} {w' : World} (hb : Below w.heap.size w w') (ho : o = none) (he : e = .returned (.tuple #[.int .i64 0, .bool false])) : RetZO w o e w' := by subst ho; exact ⟨he, hb⟩
theorem RetZO.some_ {w : World} {o : Option Int} {z : Int} {e : Ending} {w' : World} (hb : Below w.heap.size w w') (ho : o = some z) (he : e = .returned (.tuple #[.int .i64 z, .bool true])) : RetZO w o e w' := by subst ho; exact ⟨he, hb⟩
def onesF (x y : Int) (gs : List G3) (os : List Int) (k : Int) : Option Int := (columnF x y gs os k).map sumI
theorem col_bd {gs : List G3} {os : List Int} {X N q : Nat} (hg : gatesB X gs gs.length = true) (ho : allB 0 (X + gs.length - 1) os = true) (hq : q < os.length) : allB 0 1 (tab N fun n => gi (outsN gs os X n) q) = true := allB_iff.2 fun z hz => by
  obtain ⟨j, _, rfl⟩ := mem_tab hz
  exact allB_gi (outsN_bd hg ho j) (by rw [outsN_len]; exact hq)
def truthF (x y : Int) (gs : List G3) (os : List Int) : Option (List Int) :=
  if smallB x y gs os 16 then some (tab (2 ^ (x + y).toNat) fun n => numN (outsN gs os (x + y).toNat n)) else none
theorem truthF_len (x y : Int) (gs : List G3) (os : List Int) : ((truthF x y gs os).getD []).length ≤ 1024 := by
  unfold truthF
  split
  · rename_i h
    obtain ⟨h1, h2, h3⟩ := smallB_bd h
    simp only [Option.getD_some, tab_len]
    exact two_pow_small (by omega)
  · simp
/-- Two small circuits with the same numbers of inputs and outs. -/
def pairB (x y : Int) (gs : List G3) (os : List Int) (x2 y2 : Int) (hs : List G3) (ps : List Int) : Bool :=
  smallB x y gs os 40 && (smallB x2 y2 hs ps 40 && (decide (x = x2) && (decide (y = y2) && decide (os.length = ps.length))))
theorem pairB_bd {x y : Int} {gs : List G3} {os : List Int} {x2 y2 : Int} {hs : List G3} {ps : List Int} (h : pairB x y gs os x2 y2 hs ps = true) : smallB x y gs os 40 = true ∧ smallB x2 y2 hs ps 40 = true ∧ x = x2 ∧ y = y2 ∧ os.length = ps.length := by
  simp only [pairB, Bool.and_eq_true, decide_eq_true_eq] at h
  exact h
/-- The first input at which the two differ, or -1. -/
def uneqF (x y : Int) (gs : List G3) (os : List Int) (hs : List G3) (ps : List Int) : Int := uneq (outsN gs os (x + y).toNat) (outsN hs ps (x + y).toNat) (2 ^ (x + y).toNat)
def firstF (x y : Int) (gs : List G3) (os : List Int) (x2 y2 : Int) (hs : List G3) (ps : List Int) : Option Int :=
  if pairB x y gs os x2 y2 hs ps = true ∧ 0 ≤ uneqF x y gs os hs ps then some (uneqF x y gs os hs ps) else none

set_option maxRecDepth 100000 in
set_option maxHeartbeats 1600000 in
theorem spec_OnesOf_any (x y : Int) (Ag : Option Addr) (ng cg : Nat) (Ao : Option Addr) (no co : Nat) (k : Int) (gs : List G3) (os : List Int) (w : World) (hr : RG w Ag ng gs ∧ RI w Ao no os) (hng : ng ≤ 2097152) (hno : no ≤ 2097152) :
    Calls Try.prog 9 #[.agg #[.int .i64 x, .int .i64 y, .slice Ag ng cg, .slice Ao no co], .int .i64 k] w (RetZO w (onesF x y gs os k)) := by
  have hB : Below w.heap.size w (w.alloc (.cells #[.int .i64 x, .int .i64 y, .slice Ag ng cg, .slice Ao no co] 26)) := (Below.refl _ _).alloc (Nat.le_refl _) _
  have hlg := hr.1.len
  have hlo := hr.2.len
  cases h0 : smallB x y gs os 40 with
  | false =>
    have HC : Hid (columnF x y gs os k = none) := Lib.hid (by simp [columnF, h0])
    have HR : Hid (onesF x y gs os k = none) := Lib.hid (by simp [onesF, HC.out])
    have H0 := Lib.hid h0; clear h0
    go_enter Try.func9, Try.ntmps9
    go_wp2_with fail
    refine (siSmall_any x y Ag ng cg Ao no co gs os _ ⟨hr.1.below hB (Nat.le_refl _), hr.2.below hB (Nat.le_refl _)⟩ hng hno).mono ?_
    rintro e v1 ⟨rfl, hb1⟩
    rw [H0.out]
    obtain ⟨hc1, hf1⟩ := bcell hb1
    have hz1 := hb1.size
    simp only [World.size_alloc] at hz1
    have hz1' : w.heap.size < v1.heap.size := by omega
    have hB1 := hB.trans (hb1.mono hB.size)
    go_wp2
    go_ret2
    exact RetZO.none_ hB1 HR.out rfl
  | true =>
    obtain ⟨h1, h2, h3⟩ := smallB_bd h0
    obtain ⟨⟨b1, b2⟩, ⟨b3, b4⟩, b5, b6, b7, b8⟩ := circB_bd h1
    cases h4 : inB 0 ((no : Int) - 1) k with
    | false =>
      have HC : Hid (columnF x y gs os k = none) := Lib.hid (by simp [columnF, h4, hlo])
      have HR : Hid (onesF x y gs os k = none) := Lib.hid (by simp [onesF, HC.out])
      have H0 := Lib.hid h0; have H4 := Lib.hid h4; clear h0 h4 h1 b7 b8
      go_enter Try.func9, Try.ntmps9
      go_wp2_with fail
      refine (siSmall_any x y Ag ng cg Ao no co gs os _ ⟨hr.1.below hB (Nat.le_refl _), hr.2.below hB (Nat.le_refl _)⟩ hng hno).mono ?_
      rintro e v1 ⟨rfl, hb1⟩
      rw [H0.out]
      obtain ⟨hc1, hf1⟩ := bcell hb1
      have hz1 := hb1.size
      simp only [World.size_alloc] at hz1
      have hz1' : w.heap.size < v1.heap.size := by omega
      have hB1 := hB.trans (hb1.mono hB.size)
      go_wp2_with fail
      refine (l1In_any k 0 ((no : Int) - 1) false H4.out _).mono ?_
      rintro e v2 ⟨rfl, rfl⟩
      go_wp2
      go_ret2
      exact RetZO.none_ hB1 HR.out rfl
    | true =>
      obtain ⟨c1, c2⟩ := inB_iff.1 h4
      obtain ⟨q, rfl⟩ := Int.eq_ofNat_of_zero_le c1
      obtain ⟨X, hX⟩ : ∃ X : Nat, x + y = X := ⟨(x + y).toNat, by omega⟩
      have hXt : (x + y).toNat = X := by omega
      rw [hX] at b7 b8
      obtain ⟨N, hN⟩ : ∃ N, N = 2 ^ X := ⟨_, rfl⟩
      have hP := (pow_wrap hN (by omega)).1
      have HC : Hid (columnF x y gs os q = some (tab N fun n => gi (outsN gs os X n) q)) := Lib.hid (by simp [columnF, h4, h0, hlo, hXt, colN, hN])
      have HR : Hid (onesF x y gs os q = some (sumI (tab N fun n => gi (outsN gs os X n) q))) := Lib.hid (by simp [onesF, HC.out])
      have HZ := Lib.hid (col_bd (N := N) (q := q) b7 b8 (by omega))
      have HN := Lib.hid hN; clear hN
      have H0 := Lib.hid h0; have H4 := Lib.hid h4; have H7 := Lib.hid b7; have H8 := Lib.hid b8; clear h0 h4 h1 b7 b8
      go_enter Try.func9, Try.ntmps9
      go_wp2_with fail
      refine (siSmall_any x y Ag ng cg Ao no co gs os _ ⟨hr.1.below hB (Nat.le_refl _), hr.2.below hB (Nat.le_refl _)⟩ hng hno).mono ?_
      rintro e v1 ⟨rfl, hb1⟩
      rw [H0.out]
      obtain ⟨hc1, hf1⟩ := bcell hb1
      have hz1 := hb1.size
      simp only [World.size_alloc] at hz1
      have hz1' : w.heap.size < v1.heap.size := by omega
      have hB1 := hB.trans (hb1.mono hB.size)
      go_wp2_with fail
      refine (l1In_any q 0 ((no : Int) - 1) true H4.out _).mono ?_
      rintro e v2 ⟨rfl, rfl⟩
      go_wp2_with fail
      refine (siOut_any x y Ag ng cg Ao no co gs os X N q _ ⟨hr.1.below hB1 (Nat.le_refl _), hr.2.below hB1 (Nat.le_refl _)⟩ (by omega) (by omega) hX (by omega) HN.out H7.out H8.out (by omega) (by omega) (by omega)).mono ?_
      rintro e v3 hT
      obtain ⟨At, ct, rfl, hownT, hb3⟩ := hT.open_ (tab_len _ _)
      go_wp2_with fail
      refine (laSum_any At N ct _ _ hownT.reads (by omega) HZ.out).mono ?_
      rintro e v4 ⟨rfl, rfl⟩
      go_wp2
      go_ret2
      exact RetZO.some_ (hB1.trans (hb3.mono hB1.size)) HR.out rfl

set_option maxRecDepth 100000 in
set_option maxHeartbeats 1600000 in
theorem OnesOf_any (x y : Int) (Ag : Option Addr) (ng cg : Nat) (Ao : Option Addr) (no co : Nat) (k : Int) (gs : List G3) (os : List Int) (w : World) (hr : RG w Ag ng gs ∧ RI w Ao no os) (hng : ng ≤ 2097152) (hno : no ≤ 2097152) :
    Calls Try.prog 8 #[.agg #[.int .i64 x, .int .i64 y, .slice Ag ng cg, .slice Ao no co], .int .i64 k] w (RetZO w (onesF x y gs os k)) := by
  have hB : Below w.heap.size w (w.alloc (.cells #[.int .i64 x, .int .i64 y, .slice Ag ng cg, .slice Ao no co] 26)) := (Below.refl _ _).alloc (Nat.le_refl _) _
  have hlg := hr.1.len
  have hlo := hr.2.len
  cases h0 : smallB x y gs os 40 with
  | false =>
    have HC : Hid (columnF x y gs os k = none) := Lib.hid (by simp [columnF, h0])
    have HR : Hid (onesF x y gs os k = none) := Lib.hid (by simp [onesF, HC.out])
    have H0 := Lib.hid h0; clear h0
    go_enter Try.func8, Try.ntmps8
    go_wp2_with fail
    refine (column_any x y Ag ng cg Ao no co k gs os _ ⟨hr.1.below hB (Nat.le_refl _), hr.2.below hB (Nat.le_refl _)⟩ hng hno).mono ?_
    rintro e v1 hT
    rw [HC.out] at hT
    obtain ⟨A1, c1_, rfl, hown1, hb1⟩ := hT
    simp only [Option.getD_none, Option.getD_some, Option.isSome_none, Option.isSome_some, List.length_nil, tab_len] at hown1 ⊢
    have hB1 := hB.trans (hb1.mono hB.size)
    go_wp2_with fail
    refine (sumOf_any A1 0 c1_ _ _ hown1.reads (by omega) rfl).mono ?_
    rintro e v2 ⟨rfl, rfl⟩
    go_wp2
    go_ret2
    exact RetZO.none_ hB1 HR.out rfl
  | true =>
    obtain ⟨h1, h2, h3⟩ := smallB_bd h0
    obtain ⟨⟨b1, b2⟩, ⟨b3, b4⟩, b5, b6, b7, b8⟩ := circB_bd h1
    cases h4 : inB 0 ((no : Int) - 1) k with
    | false =>
      have HC : Hid (columnF x y gs os k = none) := Lib.hid (by simp [columnF, h4, hlo])
      have HR : Hid (onesF x y gs os k = none) := Lib.hid (by simp [onesF, HC.out])
      have H0 := Lib.hid h0; have H4 := Lib.hid h4; clear h0 h4 h1 b7 b8
      clear H4
      go_enter Try.func8, Try.ntmps8
      go_wp2_with fail
      refine (column_any x y Ag ng cg Ao no co k gs os _ ⟨hr.1.below hB (Nat.le_refl _), hr.2.below hB (Nat.le_refl _)⟩ hng hno).mono ?_
      rintro e v1 hT
      rw [HC.out] at hT
      obtain ⟨A1, c1_, rfl, hown1, hb1⟩ := hT
      simp only [Option.getD_none, Option.getD_some, Option.isSome_none, Option.isSome_some, List.length_nil, tab_len] at hown1 ⊢
      have hB1 := hB.trans (hb1.mono hB.size)
      go_wp2_with fail
      refine (sumOf_any A1 0 c1_ _ _ hown1.reads (by omega) rfl).mono ?_
      rintro e v2 ⟨rfl, rfl⟩
      go_wp2
      go_ret2
      exact RetZO.none_ hB1 HR.out rfl
    | true =>
      obtain ⟨c1, c2⟩ := inB_iff.1 h4
      obtain ⟨q, rfl⟩ := Int.eq_ofNat_of_zero_le c1
      obtain ⟨X, hX⟩ : ∃ X : Nat, x + y = X := ⟨(x + y).toNat, by omega⟩
      have hXt : (x + y).toNat = X := by omega
      rw [hX] at b7 b8
      obtain ⟨N, hN⟩ : ∃ N, N = 2 ^ X := ⟨_, rfl⟩
      have hP := (pow_wrap hN (by omega)).1
      have HC : Hid (columnF x y gs os q = some (tab N fun n => gi (outsN gs os X n) q)) := Lib.hid (by simp [columnF, h4, h0, hlo, hXt, colN, hN])
      have HR : Hid (onesF x y gs os q = some (sumI (tab N fun n => gi (outsN gs os X n) q))) := Lib.hid (by simp [onesF, HC.out])
      have HZ := Lib.hid (col_bd (N := N) (q := q) b7 b8 (by omega))
      have HN := Lib.hid hN; clear hN
      have H0 := Lib.hid h0; have H4 := Lib.hid h4; have H7 := Lib.hid b7; have H8 := Lib.hid b8; clear h0 h4 h1 b7 b8
      clear H4
      go_enter Try.func8, Try.ntmps8
      go_wp2_with fail
      refine (column_any x y Ag ng cg Ao no co q gs os _ ⟨hr.1.below hB (Nat.le_refl _), hr.2.below hB (Nat.le_refl _)⟩ hng hno).mono ?_
      rintro e v1 hT
      rw [HC.out] at hT
      obtain ⟨A1, c1_, rfl, hown1, hb1⟩ := hT
      simp only [Option.getD_none, Option.getD_some, Option.isSome_none, Option.isSome_some, List.length_nil, tab_len] at hown1 ⊢
      have hB1 := hB.trans (hb1.mono hB.size)
      go_wp2_with fail
      refine (sumOf_any A1 N c1_ _ _ hown1.reads (by omega) HZ.out).mono ?_
      rintro e v2 ⟨rfl, rfl⟩
      go_wp2
      go_ret2
      exact RetZO.some_ hB1 HR.out rfl

end Go.Proofs.Ytjjphaiomaiilaa
