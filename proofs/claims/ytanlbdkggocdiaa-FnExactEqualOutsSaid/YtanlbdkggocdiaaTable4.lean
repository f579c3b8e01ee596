/- Contracts of OnesOf, TruthTable, AreEqual, FirstUnequal. -/
import Derived.Test.YtanlbdkggocdiaaTable3
import Derived.Deep.RegionLaw
namespace Go.Proofs.Ytanlbdkggocdiaa
open Go.RowKit
set_option linter.unusedVariables false
set_option linter.unusedSimpArgs false



/-- A call that began at w returns a number and true; or 0 and false. -/
def RetZO (w : World) (o : Option Int) (e : Ending) (w' : World) : Prop := e = .returned (.tuple #[.int .i64 (o.getD 0), .bool o.isSome]) ∧ Below w.heap.size w w'
theorem RetZO.none_ {w : World} {o : Option Int} {e : Ending} {w' : World} (hb : Below w.heap.size w w') (ho : o = none) (he : e = .returned (.tuple #[.int .i64 0, .bool false])) : RetZO w o e w' := by subst ho; exact ⟨he, hb⟩
theorem RetZO.some_ {w : World} {o : Option Int} {z : Int} {e : Ending} {w' : World} (hb : Below w.heap.size w w') (ho : o = some z) (he : e = .returned (.tuple #[.int .i64 z, .bool true])) : RetZO w o e w' := by subst ho; exact ⟨he, hb⟩
def onesF (x y : Int) (gs : List G3) (os : List Int) (k : Int) : Option Int := (columnF x y gs os k).map sumI
theorem col_bd {gs : List G3} {os : List Int} {X N q : Nat} (hg : gatesB X gs gs.length = true) (ho : allB 0 (X + gs.length - 1) os = true) (hq : q < os.length) : allB 0 1 (tab N fun n => gi (outsN gs os X n) q) = true := allB_iff.2 fun z hz => by
  obtain ⟨j, _, rfl⟩ := mem_tab hz
  exact allB_gi (outsN_bd hg ho j) (by rw [outsN_len]; exact hq)
def truthF (x y : Int) (gs : List G3) (os : List Int) : Option (List Int) :=
  if smallB x y gs os 16 then some (tab (2 ^ (x + y).toNat) fun n => numN (outsN gs os (x + y).toNat n)) else none
theorem truthF_len (x y : Int) (gs : List G3) (os : List Int) : ((truthF x y gs os).getD []).length ≤ 1024 := by
  unfold truthF
  split
  · rename_i h
    obtain ⟨h1, h2, h3⟩ := smallB_bd h
    simp only [Option.getD_some, tab_len]
    exact two_pow_small (by omega)
  · simp
/-- Two small circuits with the same numbers of inputs and outs. -/
def pairB (x y : Int) (gs : List G3) (os : List Int) (x2 y2 : Int) (hs : List G3) (ps : List Int) : Bool :=
  smallB x y gs os 40 && (smallB x2 y2 hs ps 40 && (decide (x = x2) && (decide (y = y2) && decide (os.length = ps.length))))
theorem pairB_bd {x y : Int} {gs : List G3} {os : List Int} {x2 y2 : Int} {hs : List G3} {ps : List Int} (h : pairB x y gs os x2 y2 hs ps = true) : smallB x y gs os 40 = true ∧ smallB x2 y2 hs ps 40 = true ∧ x = x2 ∧ y = y2 ∧ os.length = ps.length := by
  simp only [pairB, Bool.and_eq_true, decide_eq_true_eq] at h
  exact h
/-- The first input at which the two differ, or -1. -/
def uneqF (x y : Int) (gs : List G3) (os : List Int) (hs : List G3) (ps : List Int) : Int := uneq (outsN gs os (x + y).toNat) (outsN hs ps (x + y).toNat) (2 ^ (x + y).toNat)
def firstF (x y : Int) (gs : List G3) (os : List Int) (x2 y2 : Int) (hs : List G3) (ps : List Int) : Option Int :=
  if pairB x y gs os x2 y2 hs ps = true ∧ 0 ≤ uneqF x y gs os hs ps then some (uneqF x y gs os hs ps) else none

set_option maxRecDepth 100000 in
set_option maxHeartbeats 1600000 in
theorem spec_OnesOf_any (x y : Int) (Ag : Option Addr) (ng cg : Nat) (Ao : Option Addr) (no co : Nat) (k : Int) (gs : List G3) (os : List Int) (w : World) (hr : RG w Ag ng gs ∧ RI w Ao no os) (hng : ng ≤ 2097152) (hno : no ≤ 2097152) :
    Calls Try.prog 31 #[.agg #[.int .i64 x, .int .i64 y, .slice Ag ng cg, .slice Ao no co], .int .i64 k] w (RetZO w (onesF x y gs os k)) := by
  have hB : Below w.heap.size w (w.alloc (.cells #[.int .i64 x, .int .i64 y, .slice Ag ng cg, .slice Ao no co] 45)) := (Below.refl _ _).alloc (Nat.le_refl _) _
  have hlg := hr.1.len
  have hlo := hr.2.len
  cases h0 : smallB x y gs os 40 with
  | false =>
    have HC : Hid (columnF x y gs os k = none) := Lib.hid (by simp [columnF, h0])
    have HR : Hid (onesF x y gs os k = none) := Lib.hid (by simp [onesF, HC.out])
    have H0 := Lib.hid h0; clear h0
    go_enter Try.func31, Try.ntmps31
    go_wp2_with fail
    refine (siSmall_any x y Ag ng cg Ao no co gs os _ ⟨hr.1.below hB (Nat.le_refl _), hr.2.below hB (Nat.le_refl _)⟩ hng hno).mono ?_
    rintro e v1 ⟨rfl, hb1⟩
    rw [H0.out]
    obtain ⟨hc1, hf1⟩ := bcell hb1
    have hz1 := hb1.size
    simp only [World.size_alloc] at hz1
    have hz1' : w.heap.size < v1.heap.size := by omega
    have hB1 := hB.trans (hb1.mono hB.size)
    go_wp2
    go_ret2
    exact RetZO.none_ hB1 HR.out rfl
  | true =>
    obtain ⟨h1, h2, h3⟩ := smallB_bd h0
    obtain ⟨⟨b1, b2⟩, ⟨b3, b4⟩, b5, b6, b7, b8⟩ := circB_bd h1
    cases h4 : inB 0 ((no : Int) - 1) k with
    | false =>
      have HC : Hid (columnF x y gs os k = none) := Lib.hid (by simp [columnF, h4, hlo])
      have HR : Hid (onesF x y gs os k = none) := Lib.hid (by simp [onesF, HC.out])
      have H0 := Lib.hid h0; have H4 := Lib.hid h4; clear h0 h4 h1 b7 b8
      go_enter Try.func31, Try.ntmps31
      go_wp2_with fail
      refine (siSmall_any x y Ag ng cg Ao no co gs os _ ⟨hr.1.below hB (Nat.le_refl _), hr.2.below hB (Nat.le_refl _)⟩ hng hno).mono ?_
      rintro e v1 ⟨rfl, hb1⟩
      rw [H0.out]
      obtain ⟨hc1, hf1⟩ := bcell hb1
      have hz1 := hb1.size
      simp only [World.size_alloc] at hz1
      have hz1' : w.heap.size < v1.heap.size := by omega
      have hB1 := hB.trans (hb1.mono hB.size)
      go_wp2_with fail
      refine (l1In_any k 0 ((no : Int) - 1) false H4.out _).mono ?_
      rintro e v2 ⟨rfl, rfl⟩
      go_wp2
      go_ret2
      exact RetZO.none_ hB1 HR.out rfl
    | true =>
      obtain ⟨c1, c2⟩ := inB_iff.1 h4
      obtain ⟨q, rfl⟩ := Int.eq_ofNat_of_zero_le c1
      obtain ⟨X, hX⟩ : ∃ X : Nat, x + y = X := ⟨(x + y).toNat, by omega⟩
      have hXt : (x + y).toNat = X := by omega
      rw [hX] at b7 b8
      obtain ⟨N, hN⟩ : ∃ N, N = 2 ^ X := ⟨_, rfl⟩
      have hP := (pow_wrap hN (by omega)).1
      have HC : Hid (columnF x y gs os q = some (tab N fun n => gi (outsN gs os X n) q)) := Lib.hid (by simp [columnF, h4, h0, hlo, hXt, colN, hN])
      have HR : Hid (onesF x y gs os q = some (sumI (tab N fun n => gi (outsN gs os X n) q))) := Lib.hid (by simp [onesF, HC.out])
      have HZ := Lib.hid (col_bd (N := N) (q := q) b7 b8 (by omega))
      have HN := Lib.hid hN; clear hN
      have H0 := Lib.hid h0; have H4 := Lib.hid h4; have H7 := Lib.hid b7; have H8 := Lib.hid b8; clear h0 h4 h1 b7 b8
      go_enter Try.func31, Try.ntmps31
      go_wp2_with fail
      refine (siSmall_any x y Ag ng cg Ao no co gs os _ ⟨hr.1.below hB (Nat.le_refl _), hr.2.below hB (Nat.le_refl _)⟩ hng hno).mono ?_
      rintro e v1 ⟨rfl, hb1⟩
      rw [H0.out]
      obtain ⟨hc1, hf1⟩ := bcell hb1
      have hz1 := hb1.size
      simp only [World.size_alloc] at hz1
      have hz1' : w.heap.size < v1.heap.size := by omega
      have hB1 := hB.trans (hb1.mono hB.size)
      go_wp2_with fail
      refine (l1In_any q 0 ((no : Int) - 1) true H4.out _).mono ?_
      rintro e v2 ⟨rfl, rfl⟩
      go_wp2_with fail
      refine (siOut_any x y Ag ng cg Ao no co gs os X N q _ ⟨hr.1.below hB1 (Nat.le_refl _), hr.2.below hB1 (Nat.le_refl _)⟩ (by omega) (by omega) hX (by omega) HN.out H7.out H8.out (by omega) (by omega) (by omega)).mono ?_
      rintro e v3 hT
      obtain ⟨At, ct, rfl, hownT, hb3⟩ := hT.open_ (tab_len _ _)
      go_wp2_with fail
      refine (laSum_any At N ct _ _ hownT.reads (by omega) HZ.out).mono ?_
      rintro e v4 ⟨rfl, rfl⟩
      go_wp2
      go_ret2
      exact RetZO.some_ (hB1.trans (hb3.mono hB1.size)) HR.out rfl

set_option maxRecDepth 100000 in
set_option maxHeartbeats 1600000 in
theorem OnesOf_any (x y : Int) (Ag : Option Addr) (ng cg : Nat) (Ao : Option Addr) (no co : Nat) (k : Int) (gs : List G3) (os : List Int) (w : World) (hr : RG w Ag ng gs ∧ RI w Ao no os) (hng : ng ≤ 2097152) (hno : no ≤ 2097152) :
    Calls Try.prog 33 #[.agg #[.int .i64 x, .int .i64 y, .slice Ag ng cg, .slice Ao no co], .int .i64 k] w (RetZO w (onesF x y gs os k)) := by
  have hB : Below w.heap.size w (w.alloc (.cells #[.int .i64 x, .int .i64 y, .slice Ag ng cg, .slice Ao no co] 45)) := (Below.refl _ _).alloc (Nat.le_refl _) _
  have hlg := hr.1.len
  have hlo := hr.2.len
  cases h0 : smallB x y gs os 40 with
  | false =>
    have HC : Hid (columnF x y gs os k = none) := Lib.hid (by simp [columnF, h0])
    have HR : Hid (onesF x y gs os k = none) := Lib.hid (by simp [onesF, HC.out])
    have H0 := Lib.hid h0; clear h0
    go_enter Try.func33, Try.ntmps33
    go_wp2_with fail
    refine (column_any x y Ag ng cg Ao no co k gs os _ ⟨hr.1.below hB (Nat.le_refl _), hr.2.below hB (Nat.le_refl _)⟩ hng hno).mono ?_
    rintro e v1 hT
    rw [HC.out] at hT
    obtain ⟨A1, c1_, rfl, hown1, hb1⟩ := hT
    simp only [Option.getD_none, Option.getD_some, Option.isSome_none, Option.isSome_some, List.length_nil, tab_len] at hown1 ⊢
    have hB1 := hB.trans (hb1.mono hB.size)
    go_wp2_with fail
    refine (sumOf_any A1 0 c1_ _ _ hown1.reads (by omega) rfl).mono ?_
    rintro e v2 ⟨rfl, rfl⟩
    go_wp2
    go_ret2
    exact RetZO.none_ hB1 HR.out rfl
  | true =>
    obtain ⟨h1, h2, h3⟩ := smallB_bd h0
    obtain ⟨⟨b1, b2⟩, ⟨b3, b4⟩, b5, b6, b7, b8⟩ := circB_bd h1
    cases h4 : inB 0 ((no : Int) - 1) k with
    | false =>
      have HC : Hid (columnF x y gs os k = none) := Lib.hid (by simp [columnF, h4, hlo])
      have HR : Hid (onesF x y gs os k = none) := Lib.hid (by simp [onesF, HC.out])
      have H0 := Lib.hid h0; have H4 := Lib.hid h4; clear h0 h4 h1 b7 b8
      clear H4
      go_enter Try.func33, Try.ntmps33
      go_wp2_with fail
      refine (column_any x y Ag ng cg Ao no co k gs os _ ⟨hr.1.below hB (Nat.le_refl _), hr.2.below hB (Nat.le_refl _)⟩ hng hno).mono ?_
      rintro e v1 hT
      rw [HC.out] at hT
      obtain ⟨A1, c1_, rfl, hown1, hb1⟩ := hT
      simp only [Option.getD_none, Option.getD_some, Option.isSome_none, Option.isSome_some, List.length_nil, tab_len] at hown1 ⊢
      have hB1 := hB.trans (hb1.mono hB.size)
      go_wp2_with fail
      refine (sumOf_any A1 0 c1_ _ _ hown1.reads (by omega) rfl).mono ?_
      rintro e v2 ⟨rfl, rfl⟩
      go_wp2
      go_ret2
      exact RetZO.none_ hB1 HR.out rfl
    | true =>
      obtain ⟨c1, c2⟩ := inB_iff.1 h4
      obtain ⟨q, rfl⟩ := Int.eq_ofNat_of_zero_le c1
      obtain ⟨X, hX⟩ : ∃ X : Nat, x + y = X := ⟨(x + y).toNat, by omega⟩
      have hXt : (x + y).toNat = X := by omega
      rw [hX] at b7 b8
      obtain ⟨N, hN⟩ : ∃ N, N = 2 ^ X := ⟨_, rfl⟩
      have hP := (pow_wrap hN (by omega)).1
      have HC : Hid (columnF x y gs os q = some (tab N fun n => gi (outsN gs os X n) q)) := Lib.hid (by simp [columnF, h4, h0, hlo, hXt, colN, hN])
      have HR : Hid (onesF x y gs os q = some (sumI (tab N fun n => gi (outsN gs os X n) q))) := Lib.hid (by simp [onesF, HC.out])
      have HZ := Lib.hid (col_bd (N := N) (q := q) b7 b8 (by omega))
      have HN := Lib.hid hN; clear hN
      have H0 := Lib.hid h0; have H4 := Lib.hid h4; have H7 := Lib.hid b7; have H8 := Lib.hid b8; clear h0 h4 h1 b7 b8
      clear H4
      go_enter Try.func33, Try.ntmps33
      go_wp2_with fail
      refine (column_any x y Ag ng cg Ao no co q gs os _ ⟨hr.1.below hB (Nat.le_refl _), hr.2.below hB (Nat.le_refl _)⟩ hng hno).mono ?_
      rintro e v1 hT
      rw [HC.out] at hT
      obtain ⟨A1, c1_, rfl, hown1, hb1⟩ := hT
      simp only [Option.getD_none, Option.getD_some, Option.isSome_none, Option.isSome_some, List.length_nil, tab_len] at hown1 ⊢
      have hB1 := hB.trans (hb1.mono hB.size)
      go_wp2_with fail
      refine (sumOf_any A1 N c1_ _ _ hown1.reads (by omega) HZ.out).mono ?_
      rintro e v2 ⟨rfl, rfl⟩
      go_wp2
      go_ret2
      exact RetZO.some_ hB1 HR.out rfl

set_option maxRecDepth 100000 in
set_option maxHeartbeats 1600000 in
theorem TruthTable_any (x y : Int) (Ag : Option Addr) (ng cg : Nat) (Ao : Option Addr) (no co : Nat) (gs : List G3) (os : List Int) (w : World) (hr : RG w Ag ng gs ∧ RI w Ao no os) (hng : ng ≤ 2097152) (hno : no ≤ 2097152) :
    Calls Try.prog 49 #[.agg #[.int .i64 x, .int .i64 y, .slice Ag ng cg, .slice Ao no co]] w (RetO w (truthF x y gs os)) := by
  have hB : Below w.heap.size w (w.alloc (.cells #[.int .i64 x, .int .i64 y, .slice Ag ng cg, .slice Ao no co] 45)) := (Below.refl _ _).alloc (Nat.le_refl _) _
  have hlg := hr.1.len
  have hlo := hr.2.len
  cases h0 : circB x y gs os with
  | false =>
    have HR : Hid (truthF x y gs os = none) := Lib.hid (by simp [truthF, smallB, h0])
    have H0 := Lib.hid h0; clear h0
    go_enter Try.func49, Try.ntmps49
    go_wp2_with fail
    refine (IsCircuit_any x y Ag ng cg Ao no co gs os _ (hr.1.below hB (Nat.le_refl _)) (hr.2.below hB (Nat.le_refl _)) hng hno).mono ?_
    rintro e v1 ⟨rfl, hb1⟩
    rw [H0.out]
    obtain ⟨hc1, hf1⟩ := bcell hb1
    have hz1 := hb1.size
    simp only [World.size_alloc] at hz1
    have hz1' : w.heap.size < v1.heap.size := by omega
    have hB1 := hB.trans (hb1.mono hB.size)
    go_wp2
    go_ret2
    exact RetO.none_ hB1 HR.out rfl
  | true =>
    obtain ⟨⟨b1, b2⟩, ⟨b3, b4⟩, b5, b6, b7, b8⟩ := circB_bd h0
    by_cases h2 : x + y ≤ 10
    rotate_left
    · have HR : Hid (truthF x y gs os = none) := Lib.hid (by simp [truthF, smallB, h2])
      have H0 := Lib.hid h0; clear h0 b7 b8
      go_enter Try.func49, Try.ntmps49
      go_wp2_with fail
      refine (IsCircuit_any x y Ag ng cg Ao no co gs os _ (hr.1.below hB (Nat.le_refl _)) (hr.2.below hB (Nat.le_refl _)) hng hno).mono ?_
      rintro e v1 ⟨rfl, hb1⟩
      rw [H0.out]
      obtain ⟨hc1, hf1⟩ := bcell hb1
      have hz1 := hb1.size
      simp only [World.size_alloc] at hz1
      have hz1' : w.heap.size < v1.heap.size := by omega
      have hB1 := hB.trans (hb1.mono hB.size)
      go_wp2_with fail
      refine (Circuit_inputs_any x y Ag ng cg Ao no co _ (by omega) (by omega)).mono ?_
      rintro e v2 ⟨rfl, hb2⟩
      obtain ⟨hc2, hf2⟩ := bcell hb2
      have hz2 := hb2.size
      have hz2' : w.heap.size < v2.heap.size := by omega
      have hB2 := hB1.trans (hb2.mono hB1.size)
      go_wp2
      go_ret2
      exact RetO.none_ hB2 HR.out rfl
    by_cases h3 : no ≤ 16
    rotate_left
    · have HR : Hid (truthF x y gs os = none) := Lib.hid (by simp [truthF, smallB, hlo, h3])
      have H0 := Lib.hid h0; clear h0 b7 b8
      go_enter Try.func49, Try.ntmps49
      go_wp2_with fail
      refine (IsCircuit_any x y Ag ng cg Ao no co gs os _ (hr.1.below hB (Nat.le_refl _)) (hr.2.below hB (Nat.le_refl _)) hng hno).mono ?_
      rintro e v1 ⟨rfl, hb1⟩
      rw [H0.out]
      obtain ⟨hc1, hf1⟩ := bcell hb1
      have hz1 := hb1.size
      simp only [World.size_alloc] at hz1
      have hz1' : w.heap.size < v1.heap.size := by omega
      have hB1 := hB.trans (hb1.mono hB.size)
      go_wp2_with fail
      refine (Circuit_inputs_any x y Ag ng cg Ao no co _ (by omega) (by omega)).mono ?_
      rintro e v2 ⟨rfl, hb2⟩
      obtain ⟨hc2, hf2⟩ := bcell hb2
      have hz2 := hb2.size
      have hz2' : w.heap.size < v2.heap.size := by omega
      have hB2 := hB1.trans (hb2.mono hB1.size)
      go_wp2
      go_ret2
      exact RetO.none_ hB2 HR.out rfl
    obtain ⟨X, hX⟩ : ∃ X : Nat, x + y = X := ⟨(x + y).toNat, by omega⟩
    have hXt : (x + y).toNat = X := by omega
    rw [hX] at b7 b8
    obtain ⟨N, hN⟩ : ∃ N, N = 2 ^ X := ⟨_, rfl⟩
    have HR : Hid (truthF x y gs os = some (tab N fun n => numN (outsN gs os X n))) := Lib.hid (by simp [truthF, smallB, h0, h2, hlo, h3, hXt, hN])
    have hX10 : X ≤ 10 := by omega
    have hgat := b7; have hos := b8
    have hng : ng ≤ 300 := by omega
    have hno : no ≤ 40 := by omega
    have hx : 0 ≤ x ∧ x ≤ 20 := ⟨b1, b2⟩
    have hy : 0 ≤ y ∧ y ≤ 20 := ⟨b3, b4⟩
    have H0 := Lib.hid h0; clear h0 b7 b8 b1 b2 b3 b4
    have hos' : allB 0 (((X + ng : Nat) : Int) - 1) os = true := by rw [show (((X + ng : Nat) : Int) - 1) = (X : Int) + gs.length - 1 from by omega]; exact hos
    have hob := Lib.hid fun n => outsN_bd hgat hos n
    have hvl := Lib.hid fun n => show (vals gs (bitsN n X) ng).length = X + ng from by rw [vals_len, bitsN_len]
    have hon := Lib.hid fun n => show outsN gs os X n = pick (vals gs (bitsN n X) ng) os from by rw [outsN, hlg]
    rw [hlg] at hgat
    obtain ⟨hP, hsh⟩ := pow_wrap hN hX10
    clear hN hos
    go_enter Try.func49, Try.ntmps49
    go_wp2_with fail
    refine (IsCircuit_any x y Ag ng cg Ao no co gs os _ (hr.1.below hB (Nat.le_refl _)) (hr.2.below hB (Nat.le_refl _)) (by omega) (by omega)).mono ?_
    rintro e v1 ⟨rfl, hb1⟩
    rw [H0.out]
    obtain ⟨hc1, hf1⟩ := bcell hb1
    have hz1 := hb1.size
    simp only [World.size_alloc] at hz1
    have hz1' : w.heap.size < v1.heap.size := by omega
    have hB1 := hB.trans (hb1.mono hB.size)
    go_wp2_with fail
    refine (Circuit_inputs_any x y Ag ng cg Ao no co _ (by omega) (by omega)).mono ?_
    rintro e v2 ⟨rfl, hb2⟩
    obtain ⟨hc2, hf2⟩ := bcell hb2
    have hz2 := hb2.size
    have hz2' : w.heap.size < v2.heap.size := by omega
    have hB2 := hB1.trans (hb2.mono hB1.size)
    have hown0 := (Own_new0 v2 (w.heap.size + 1) (by omega))
    simp only [World.size_alloc] at hb1
    have hbA := (hb1.trans (hb2.mono (by omega))).alloc (by omega) (.cells #[] 3)
    have hBA := hB2.alloc (by omega) (.cells #[] 3)
    have hcx : x + y = (X : Int) := hX
    go_wp2_with fail
    refine (Circuit_inputs_any x y Ag ng cg Ao no co _ hx hy).mono ?_
    rintro e v3 ⟨rfl, hb3⟩
    rw [hX]
    have hz3 := hb3.size
    simp only [World.size_alloc] at hz3
    have hown1 := (hown0.hi_ (hi' := v3.heap.size) (by omega)).below hb3 (.inl (Nat.le_refl _))
    have hbW := hbA.trans (hb3.mono (by simp; omega))
    have hst := And.intro hown1 hbW
    clear hown0 hbA hb1 hb2 hb3 hc1 hc2 hf1 hf2 hown1 hbW
    go_wp2_with fail
    rw [hsh]
    go_loopw [4, 25] (fun v i wr => ∃ (k : Nat) (A' : Option Addr) (c' : Nat), k ≤ N ∧ i = .int .i64 k ∧ v = .slice A' k c' ∧ Own wr (w.heap.size + 1) wr.heap.size (.slice A' k c') k (tab k fun n => numN (outsN gs os X n)) ∧ Below (w.heap.size + 1) (w.alloc (.cells #[.int .i64 x, .int .i64 y, .slice Ag ng cg, .slice Ao no co] 45)) wr) (fun _ i _ => N - (intOf i).toNat)
    case atStart => exact ⟨0, _, _, Nat.zero_le _, rfl, rfl, by simpa [tab] using hst.1, hst.2⟩
    case round =>
      clear hst hBA hz1 hz1' hz2 hz2' hz3 hB1 hB2 H0
      obtain ⟨k, A', c', hk, rfl, rfl, hown, hb⟩ := hrel
      have hbw : Below w.heap.size w wr := hB.trans (hb.mono (by omega))
      obtain ⟨k0, k1, k2, k3⟩ := box_at hb
      by_cases hlt : k < N
      · have hsn : Hid (tab (k + 1) (fun n => numN (outsN gs os X n)) = tab k (fun n => numN (outsN gs os X n)) ++ [numN (outsN gs os X k)]) := Lib.hid (tab_snoc k _)
        have hbk := hob.out k
        have hOl := hlo ▸ outsN_len gs os X k
        obtain ⟨O, hO⟩ : ∃ O, Hid (outsN gs os X k = O) := ⟨_, rfl⟩
        have hPk : Hid (pick (vals gs (bitsN k X) ng) os = O) := Lib.hid ((hon.out k).symm.trans hO.out)
        have hvk := hvl.out k
        obtain ⟨Z, hZ⟩ : ∃ Z, Hid (numN O = Z) := ⟨_, rfl⟩
        rw [hO.out] at hbk hOl hsn
        rw [hZ.out] at hsn
        have hz := hb.size
        simp only [World.size_alloc] at hz
        have hbd := below_drewN hbw 1
        have hfar := hown.from_
        go_wp2_with fail
        go_region_held3 (fun w' => w'.cell? ⟨w.heap.size, 0, none⟩ = some (.int .i64 x) ∧ w'.cell? ⟨w.heap.size, 1, none⟩ = some (.int .i64 y) ∧ w'.cell? ⟨w.heap.size, 2, none⟩ = some (.slice Ag ng cg) ∧ w'.cell? ⟨w.heap.size, 3, none⟩ = some (.slice Ao no co))
          (first | go_keep | (go_split_ands; exact ⟨hk5 _ _ _ (by assumption) (fun g9 hg9 he9 => by first | omega | (have := hfar _ hg9; omega) | (simp only [Option.some.injEq, Addr.mk.injEq, and_true] at hg9; omega)), hk5 _ _ _ (by assumption) (fun g9 hg9 he9 => by first | omega | (have := hfar _ hg9; omega) | (simp only [Option.some.injEq, Addr.mk.injEq, and_true] at hg9; omega)), hk5 _ _ _ (by assumption) (fun g9 hg9 he9 => by first | omega | (have := hfar _ hg9; omega) | (simp only [Option.some.injEq, Addr.mk.injEq, and_true] at hg9; omega)), hk5 _ _ _ (by assumption) (fun g9 hg9 he9 => by first | omega | (have := hfar _ hg9; omega) | (simp only [Option.some.injEq, Addr.mk.injEq, and_true] at hg9; omega))⟩) | (go_split_ands; exact ⟨cell_below (by assumption) hb3, cell_below (by assumption) hb3, cell_below (by assumption) hb3, cell_below (by assumption) hb3⟩) | (go_split_ands; exact ⟨cell_below (by assumption) hb2, cell_below (by assumption) hb2, cell_below (by assumption) hb2, cell_below (by assumption) hb2⟩) | (go_split_ands; exact ⟨cell_below (by assumption) hb1, cell_below (by assumption) hb1, cell_below (by assumption) hb1, cell_below (by assumption) hb1⟩) | (go_split_ands; exact ⟨cell_below (by assumption) hb0, cell_below (by assumption) hb0, cell_below (by assumption) hb0, cell_below (by assumption) hb0⟩))
          (first | (go_at_call 105; refine (Circuit_inputs_any x y Ag ng cg Ao no co _ hx hy).mono ?_; rintro e W0 ⟨rfl, hb0⟩; rw [hX]; have hs0 : wr.heap.size ≤ W0.heap.size := hb0.size) | (go_at_call 116; refine (bitsOf_any k X _ (by omega) (by omega)).mono ?_; rintro e W1 hT; obtain ⟨A1, c1, rfl, ho1, hb1⟩ := hT.open_ (bitsN_len _ _); have hs1 : W0.heap.size ≤ W1.heap.size := hb1.size) | (go_at_call 115; refine (Circuit_values_any x y Ag ng cg Ao no co A1 X c1 gs (bitsN k X) _ (hr.1.below (hbd.trans ((bnext hb0 hb1).mono hbd.size)) (Nat.le_refl _)) ho1.reads (bitsN_bd _ _) hgat (by omega) (by omega)).mono ?_; rintro e W2 hT; obtain ⟨A2, c2, rfl, ho2, hb2⟩ := hT.open_ hvk; have hs2 := hb2.size) | (go_at_call 97; refine (at_any A2 Ao (X + ng) c2 no co (vals gs (bitsN k X) ng) os _ ho2.reads (hr.2.below (hbd.trans ((bnext (bnext hb0 hb1) hb2).mono hbd.size)) (Nat.le_refl _)) (by omega) (by omega) hos').mono ?_; rintro e W3 hT; rw [hPk.out] at hT; obtain ⟨A3, c3, rfl, ho3, hb3⟩ := hT.open_ hOl; have hs3 := hb3.size) | (go_at_call 114; refine (number_any A3 no c3 O _ ho3.reads (by omega) hbk).mono ?_; rintro e W4 ⟨he, rfl⟩; rw [hZ.out] at he; obtain rfl := he) | (refine step_appI _ (by rfl) _ _ (by rfl) (by rfl) ((hown.below (bnext (bnext (bnext (bnext (below_of_drewN 1) hb0) hb1) hb2) hb3) (.inl (Nat.le_refl _))).alloc _) (by rfl) (RI_one _ _ _ _ (by simp)) (by omega) (by first | omega | (simp; done) | (simp; omega)) ?_; intro A5 c5 w5 hown5 hg5 hat5 hk5))
        have hb5 := below_chain_app hb hz (bnext (bnext (bnext (bnext (below_of_drewN 1) hb0) hb1) hb2) hb3) ((hown.below (bnext (bnext (bnext (bnext (below_of_drewN 1) hb0) hb1) hb2) hb3) (.inl (Nat.le_refl _))).alloc _) hg5 (Nat.le_refl _)
        rw [← hsn.out] at hown5
        clear hown hb hb0 hb1 hb2 hb3 hg5 hk5 hat5 hbk hPk
        go_wp2
        go_roundw
        case rel => exact ⟨k + 1, _, _, by omega, by go_num, rfl, hown5, hb5⟩
        case measure => simp [intOf]; omega
      · obtain rfl : N = k := by omega
        go_wp2
        go_ret2
        exact RetO.some_ hbw HR.out (tab_len _ _) rfl (hown.lo_ (by omega))

set_option maxHeartbeats 800000 in
theorem ciSmall_any (x y : Int) (Ag : Option Addr) (ng cg : Nat) (Ao : Option Addr) (no co : Nat) (gs : List G3) (os : List Int) (w : World) (hr : RG w Ag ng gs ∧ RI w Ao no os) (hng : ng ≤ 2097152) (hno : no ≤ 2097152) :
    Calls Try.prog 112 #[.agg #[.int .i64 x, .int .i64 y, .slice Ag ng cg, .slice Ao no co]] w fun e w' => e = .returned (.bool (smallB x y gs os 16)) ∧ Below w.heap.size w w' := by
  have hB : Below w.heap.size w (w.alloc (.cells #[.int .i64 x, .int .i64 y, .slice Ag ng cg, .slice Ao no co] 45)) := (Below.refl _ _).alloc (Nat.le_refl _) _
  have hlg := hr.1.len
  have hlo := hr.2.len
  cases h0 : circB x y gs os with
  | false =>
    have HR : Hid (smallB x y gs os 16 = false) := Lib.hid (by simp [smallB, h0])
    have H0 := Lib.hid h0; clear h0
    go_enter Try.func112, Try.ntmps112
    go_wp2_with fail
    refine (ciGood_any x y Ag ng cg Ao no co gs os _ (hr.1.below hB (Nat.le_refl _)) (hr.2.below hB (Nat.le_refl _)) hng hno).mono ?_
    rintro e v1 ⟨rfl, hb1⟩
    rw [H0.out]
    obtain ⟨hc1, hf1⟩ := bcell hb1
    have hz1 := hb1.size
    simp only [World.size_alloc] at hz1
    have hz1' : w.heap.size < v1.heap.size := by omega
    have hB1 := hB.trans (hb1.mono hB.size)
    go_wp2
    go_ret
    exact ⟨by rw [HR.out]; rfl, hB1⟩
  | true =>
    obtain ⟨⟨b1, b2⟩, ⟨b3, b4⟩, b5, b6, b7, b8⟩ := circB_bd h0
    by_cases h2 : x + y ≤ 10
    rotate_left
    · have HR : Hid (smallB x y gs os 16 = false) := Lib.hid (by simp [smallB, h2])
      have H0 := Lib.hid h0; clear h0 b7 b8
      go_enter Try.func112, Try.ntmps112
      go_wp2_with fail
      refine (ciGood_any x y Ag ng cg Ao no co gs os _ (hr.1.below hB (Nat.le_refl _)) (hr.2.below hB (Nat.le_refl _)) hng hno).mono ?_
      rintro e v1 ⟨rfl, hb1⟩
      rw [H0.out]
      obtain ⟨hc1, hf1⟩ := bcell hb1
      have hz1 := hb1.size
      simp only [World.size_alloc] at hz1
      have hz1' : w.heap.size < v1.heap.size := by omega
      have hB1 := hB.trans (hb1.mono hB.size)
      go_wp2_with fail
      refine (ciInputs_any x y Ag ng cg Ao no co _ (by omega) (by omega)).mono ?_
      rintro e v2 ⟨rfl, hb2⟩
      obtain ⟨hc2, hf2⟩ := bcell hb2
      have hz2 := hb2.size
      have hz2' : w.heap.size < v2.heap.size := by omega
      have hB2 := hB1.trans (hb2.mono hB1.size)
      go_wp2
      go_ret
      exact ⟨by rw [HR.out]; rfl, hB2⟩
    have HR : Hid (smallB x y gs os 16 = decide (no ≤ 16)) := Lib.hid (by simp [smallB, h0, h2, hlo])
    have H0 := Lib.hid h0; clear h0 b7 b8
    go_enter Try.func112, Try.ntmps112
    go_wp2_with fail
    refine (ciGood_any x y Ag ng cg Ao no co gs os _ (hr.1.below hB (Nat.le_refl _)) (hr.2.below hB (Nat.le_refl _)) hng hno).mono ?_
    rintro e v1 ⟨rfl, hb1⟩
    rw [H0.out]
    obtain ⟨hc1, hf1⟩ := bcell hb1
    have hz1 := hb1.size
    simp only [World.size_alloc] at hz1
    have hz1' : w.heap.size < v1.heap.size := by omega
    have hB1 := hB.trans (hb1.mono hB.size)
    go_wp2_with fail
    refine (ciInputs_any x y Ag ng cg Ao no co _ (by omega) (by omega)).mono ?_
    rintro e v2 ⟨rfl, hb2⟩
    obtain ⟨hc2, hf2⟩ := bcell hb2
    have hz2 := hb2.size
    have hz2' : w.heap.size < v2.heap.size := by omega
    have hB2 := hB1.trans (hb2.mono hB1.size)
    go_wp2
    go_ret
    exact ⟨by rw [HR.out]; simp; omega, hB2⟩
set_option maxHeartbeats 800000 in
theorem spec_TruthTable_any (x y : Int) (Ag : Option Addr) (ng cg : Nat) (Ao : Option Addr) (no co : Nat) (gs : List G3) (os : List Int) (w : World) (hr : RG w Ag ng gs ∧ RI w Ao no os) (hng : ng ≤ 2097152) (hno : no ≤ 2097152) :
    Calls Try.prog 48 #[.agg #[.int .i64 x, .int .i64 y, .slice Ag ng cg, .slice Ao no co]] w (RetO w (truthF x y gs os)) := by
  have hB : Below w.heap.size w (w.alloc (.cells #[.int .i64 x, .int .i64 y, .slice Ag ng cg, .slice Ao no co] 45)) := (Below.refl _ _).alloc (Nat.le_refl _) _
  have hlg := hr.1.len
  have hlo := hr.2.len
  cases h0 : smallB x y gs os 16 with
  | false =>
    have HR : Hid (truthF x y gs os = none) := Lib.hid (by simp [truthF, h0])
    have H0 := Lib.hid h0; clear h0
    go_enter Try.func48, Try.ntmps48
    go_wp2_with fail
    refine (ciSmall_any x y Ag ng cg Ao no co gs os _ ⟨hr.1.below hB (Nat.le_refl _), hr.2.below hB (Nat.le_refl _)⟩ hng hno).mono ?_
    rintro e v1 ⟨rfl, hb1⟩
    rw [H0.out]
    obtain ⟨hc1, hf1⟩ := bcell hb1
    have hz1 := hb1.size
    simp only [World.size_alloc] at hz1
    have hz1' : w.heap.size < v1.heap.size := by omega
    have hB1 := hB.trans (hb1.mono hB.size)
    go_wp2
    go_ret2
    exact RetO.none_ hB1 HR.out rfl
  | true =>
    obtain ⟨h1, h2, h3⟩ := smallB_bd h0
    obtain ⟨⟨b1, b2⟩, ⟨b3, b4⟩, b5, b6, b7, b8⟩ := circB_bd h1
    obtain ⟨X, hX⟩ : ∃ X : Nat, x + y = X := ⟨(x + y).toNat, by omega⟩
    have hXt : (x + y).toNat = X := by omega
    rw [hX] at b7 b8
    obtain ⟨N, hN⟩ : ∃ N, N = 2 ^ X := ⟨_, rfl⟩
    have hP := (pow_wrap hN (by omega)).1
    have HR : Hid (truthF x y gs os = some (tab N fun n => numN (outsN gs os X n))) := Lib.hid (by simp [truthF, h0, hXt, hN])
    have HN := Lib.hid hN; clear hN
    have H0 := Lib.hid h0; have H7 := Lib.hid b7; have H8 := Lib.hid b8; clear h0 h1 b7 b8
    go_enter Try.func48, Try.ntmps48
    go_wp2_with fail
    refine (ciSmall_any x y Ag ng cg Ao no co gs os _ ⟨hr.1.below hB (Nat.le_refl _), hr.2.below hB (Nat.le_refl _)⟩ hng hno).mono ?_
    rintro e v1 ⟨rfl, hb1⟩
    rw [H0.out]
    obtain ⟨hc1, hf1⟩ := bcell hb1
    have hz1 := hb1.size
    simp only [World.size_alloc] at hz1
    have hz1' : w.heap.size < v1.heap.size := by omega
    have hB1 := hB.trans (hb1.mono hB.size)
    go_wp2_with fail
    refine (ciTable_any x y Ag ng cg Ao no co gs os X N _ ⟨hr.1.below hB1 (Nat.le_refl _), hr.2.below hB1 (Nat.le_refl _)⟩ (by omega) (by omega) hX (by omega) HN.out H7.out H8.out (by omega) (by omega)).mono ?_
    rintro e v3 hT
    obtain ⟨At, ct, rfl, hownT, hb3⟩ := hT.open_ (tab_len _ _)
    go_wp2
    go_ret2
    exact RetO.some_ (hB1.trans (hb3.mono hB1.size)) HR.out (tab_len _ _) rfl (hownT.lo_ hB1.size)

end Go.Proofs.Ytanlbdkggocdiaa
