/- Contracts of ArithValues and EvalArith, of the program and of the reference. -/
import Derived.Test.YtanlbdkggocdiaaEval2
namespace Go.Proofs.Ytanlbdkggocdiaa
open Go.RowKit
set_option linter.unusedVariables false
set_option linter.unusedSimpArgs false

/-- A valid arithmetic circuit and inputs for it. -/
def arAskB (p x y : Int) (gs : List G3) (os : List Int) (n m : Nat) (xs ys : List Int) : Bool :=
  arB p x y gs os && (decide ((n : Int) = x) && (decide ((m : Int) = y) && (elemsB p xs && elemsB p ys)))
def arValF (p x y : Int) (gs : List G3) (os : List Int) (n m : Nat) (xs ys : List Int) : Option (List Int) :=
  if arAskB p x y gs os n m xs ys then some (avals p gs (xs ++ ys) gs.length) else none
def arEvalF (p x y : Int) (gs : List G3) (os : List Int) (n m : Nat) (xs ys : List Int) : Option (List Int) :=
  if arAskB p x y gs os n m xs ys then some (pick (avals p gs (xs ++ ys) gs.length) os) else none
theorem arAskB_bd {p x y : Int} {gs : List G3} {os : List Int} {n m : Nat} {xs ys : List Int} (h : arAskB p x y gs os n m xs ys = true) :
    arB p x y gs os = true ∧ (n : Int) = x ∧ (m : Int) = y ∧ elemsB p xs = true ∧ elemsB p ys = true := by
  simp only [arAskB, Bool.and_eq_true, decide_eq_true_eq] at h
  exact ⟨h.1, h.2.1, h.2.2.1, h.2.2.2.1, h.2.2.2.2⟩
theorem elemsB_allB {p : Int} {xs : List Int} (h : elemsB p xs = true) : allB 0 (p - 1) xs = true := by
  simp only [elemsB, Bool.and_eq_true] at h; exact h.2

theorem arValF_len (p x y : Int) (gs : List G3) (os : List Int) (n m : Nat) (xs ys : List Int) (hl : xs.length = n) (hk : ys.length = m) : ((arValF p x y gs os n m xs ys).getD []).length ≤ 200 := by
  unfold arValF
  split
  · rename_i h
    obtain ⟨a1, a2, a3, _⟩ := arAskB_bd h
    obtain ⟨_, b2, b3, b4, _⟩ := arB_bd a1
    simp only [Option.getD_some, avals_len, List.length_append]
    omega
  · simp
theorem arEvalF_len (p x y : Int) (gs : List G3) (os : List Int) (n m : Nat) (xs ys : List Int) : ((arEvalF p x y gs os n m xs ys).getD []).length ≤ 200 := by
  unfold arEvalF
  split
  · rename_i h
    obtain ⟨a1, _⟩ := arAskB_bd h
    obtain ⟨_, b2, b3, b4, b5, _⟩ := arB_bd a1
    simp only [Option.getD_some, pick_len]
    omega
  · simp

theorem ciJoin_any (A B : Option Addr) (n c m d : Nat) (xs ys : List Int) (w : World) (ha : RI w A n xs) (hb : RI w B m ys) (hn : n ≤ 2097152) (hm : m ≤ 2097152) :
    Calls Try.prog 72 #[.slice A n c, .slice B m d] w fun e w' => ∃ A' c', e = .returned (.slice A' (n + m) c') ∧ Own w' w.heap.size w'.heap.size (.slice A' (n + m) c') (n + m) (xs ++ ys) ∧ Below w.heap.size w w' := by
  have hl := ha.len
  go_enter Try.func72, Try.ntmps72
  go_wp2_with fail
  refine (l1Own_any A n c xs _ ha hn).mono ?_
  rintro e w1 ⟨A1, c1, rfl, hown1, hb1⟩
  have hr := hb.below hb1 (Nat.le_refl _)
  have hz := hb1.size
  go_wp2_with (at_builtin; refine wpList_app _ rfl _ _ rfl rfl hown1 rfl hr (by omega) (by first | omega | (simp; done) | (simp; omega)) ?_; intro A5 c5 w5 hown5 hg5 hat5)
  have hb5 := below_app hb1 hown1 hg5 hz (Nat.le_refl _)
  clear hown1 hb1 hr hg5 hat5
  go_wp2
  go_ret
  exact ⟨_, _, rfl, hown5, hb5⟩

set_option maxRecDepth 100000 in
set_option maxHeartbeats 800000 in
theorem arAsked_any (p x y : Int) (Ag : Option Addr) (ng cg : Nat) (Ao : Option Addr) (no co : Nat) (A B : Option Addr) (n c m d : Nat) (gs : List G3) (os xs ys : List Int) (w : World) (hr : RG w Ag ng gs ∧ RI w Ao no os) (hng : ng ≤ 2097152) (hno : no ≤ 2097152) (ha : RI w A n xs) (hn : n ≤ 2097152) (hb : RI w B m ys) (hm : m ≤ 2097152) :
    Calls Try.prog 70 #[.agg #[.int .i64 p, .int .i64 x, .int .i64 y, .slice Ag ng cg, .slice Ao no co], .slice A n c, .slice B m d] w fun e w' => e = .returned (.bool (arAskB p x y gs os n m xs ys)) ∧ Below w.heap.size w w' := by
  obtain ⟨hg, ho⟩ := hr
  have hB : Below w.heap.size w (w.alloc (.cells #[.int .i64 p, .int .i64 x, .int .i64 y, .slice Ag ng cg, .slice Ao no co] 31)) := (Below.refl _ _).alloc (Nat.le_refl _) _
  cases h1 : arB p x y gs os with
  | false =>
    have HR : Hid (arAskB p x y gs os n m xs ys = false) := Lib.hid (by simp only [arAskB, h1]; rfl)
    have H1 := Lib.hid h1; clear h1
    go_enter Try.func70, Try.ntmps70
    go_wp2_with fail
    refine (arGood_any p x y Ag ng cg Ao no co gs os _ (hg.below hB (Nat.le_refl _)) (ho.below hB (Nat.le_refl _)) hng hno).mono ?_
    rintro e w1 ⟨rfl, hb1⟩
    rw [H1.out]
    go_wp2
    go_ret
    exact ⟨by rw [HR.out]; rfl, hB.trans (hb1.mono hB.size)⟩
  | true =>
    have H1 := Lib.hid h1; clear h1
    by_cases h2 : (n : Int) = x
    · by_cases h3 : (m : Int) = y
      · subst h2
        subst h3
        have e2 : ((n : Int) == n) = true := by simp
        have e3 : ((m : Int) == m) = true := by simp
        cases h4 : elemsB p xs with
        | false =>
          have HR : Hid (arAskB p n m gs os n m xs ys = false) := Lib.hid (by simp only [arAskB, H1.out, h4, decide_true]; rfl)
          have H4 := Lib.hid h4; clear h4
          go_enter Try.func70, Try.ntmps70
          go_wp2_with fail
          refine (arGood_any p n m Ag ng cg Ao no co gs os _ (hg.below hB (Nat.le_refl _)) (ho.below hB (Nat.le_refl _)) hng hno).mono ?_
          rintro e w1 ⟨rfl, hb1⟩
          rw [H1.out]
          have hB1 := hB.trans (hb1.mono hB.size)
          have k0 := cell_below (box_cell w #[.int .i64 p, .int .i64 n, .int .i64 m, .slice Ag ng cg, .slice Ao no co] (T := 31) 0 _ rfl) hb1
          have k1 := cell_below (box_cell w #[.int .i64 p, .int .i64 n, .int .i64 m, .slice Ag ng cg, .slice Ao no co] (T := 31) 1 _ rfl) hb1
          have k2 := cell_below (box_cell w #[.int .i64 p, .int .i64 n, .int .i64 m, .slice Ag ng cg, .slice Ao no co] (T := 31) 2 _ rfl) hb1
          go_wp2_with fail
          refine (fpIn_any p A n c xs _ (ha.below hB1 (Nat.le_refl _)) hn).mono ?_
          rintro e w2 ⟨rfl, rfl⟩
          rw [H4.out]
          go_wp2
          go_ret
          exact ⟨by rw [HR.out]; rfl, hB1⟩
        | true =>
          have HR : Hid (arAskB p n m gs os n m xs ys = elemsB p ys) := Lib.hid (by simp only [arAskB, H1.out, h4, decide_true, Bool.true_and])
          have H4 := Lib.hid h4; clear h4
          go_enter Try.func70, Try.ntmps70
          go_wp2_with fail
          refine (arGood_any p n m Ag ng cg Ao no co gs os _ (hg.below hB (Nat.le_refl _)) (ho.below hB (Nat.le_refl _)) hng hno).mono ?_
          rintro e w1 ⟨rfl, hb1⟩
          rw [H1.out]
          have hB1 := hB.trans (hb1.mono hB.size)
          have k0 := cell_below (box_cell w #[.int .i64 p, .int .i64 n, .int .i64 m, .slice Ag ng cg, .slice Ao no co] (T := 31) 0 _ rfl) hb1
          have k1 := cell_below (box_cell w #[.int .i64 p, .int .i64 n, .int .i64 m, .slice Ag ng cg, .slice Ao no co] (T := 31) 1 _ rfl) hb1
          have k2 := cell_below (box_cell w #[.int .i64 p, .int .i64 n, .int .i64 m, .slice Ag ng cg, .slice Ao no co] (T := 31) 2 _ rfl) hb1
          go_wp2_with fail
          refine (fpIn_any p A n c xs _ (ha.below hB1 (Nat.le_refl _)) hn).mono ?_
          rintro e w2 ⟨rfl, rfl⟩
          rw [H4.out]
          go_wp2_with fail
          refine (fpIn_any p B m d ys _ (hb.below hB1 (Nat.le_refl _)) hm).mono ?_
          rintro e w3 ⟨rfl, rfl⟩
          go_wp2
          go_ret
          exact ⟨by rw [HR.out]; rfl, hB1⟩
      · have HR : Hid (arAskB p x y gs os n m xs ys = false) := Lib.hid (by simp only [arAskB, H1.out, h3, decide_false, Bool.false_and, Bool.and_false])
        subst h2
        have e2 : ((n : Int) == n) = true := by simp
        have e3 : ((m : Int) == y) = false := by simpa using h3
        clear h3
        go_enter Try.func70, Try.ntmps70
        go_wp2_with fail
        refine (arGood_any p n y Ag ng cg Ao no co gs os _ (hg.below hB (Nat.le_refl _)) (ho.below hB (Nat.le_refl _)) hng hno).mono ?_
        rintro e w1 ⟨rfl, hb1⟩
        rw [H1.out]
        have hB1 := hB.trans (hb1.mono hB.size)
        have k1 := cell_below (box_cell w #[.int .i64 p, .int .i64 n, .int .i64 y, .slice Ag ng cg, .slice Ao no co] (T := 31) 1 _ rfl) hb1
        have k2 := cell_below (box_cell w #[.int .i64 p, .int .i64 n, .int .i64 y, .slice Ag ng cg, .slice Ao no co] (T := 31) 2 _ rfl) hb1
        go_wp2
        go_ret
        exact ⟨by rw [HR.out]; rfl, hB1⟩
    · have HR : Hid (arAskB p x y gs os n m xs ys = false) := Lib.hid (by simp only [arAskB, H1.out, h2, decide_false, Bool.false_and, Bool.and_false])
      have e2 : ((n : Int) == x) = false := by simpa using h2
      clear h2
      go_enter Try.func70, Try.ntmps70
      go_wp2_with fail
      refine (arGood_any p x y Ag ng cg Ao no co gs os _ (hg.below hB (Nat.le_refl _)) (ho.below hB (Nat.le_refl _)) hng hno).mono ?_
      rintro e w1 ⟨rfl, hb1⟩
      rw [H1.out]
      have hB1 := hB.trans (hb1.mono hB.size)
      have k1 := cell_below (box_cell w #[.int .i64 p, .int .i64 x, .int .i64 y, .slice Ag ng cg, .slice Ao no co] (T := 31) 1 _ rfl) hb1
      go_wp2
      go_ret
      exact ⟨by rw [HR.out]; rfl, hB1⟩

set_option maxRecDepth 100000 in
set_option maxHeartbeats 1600000 in
theorem spec_ArithValues_any (p x y : Int) (Ag : Option Addr) (ng cg : Nat) (Ao : Option Addr) (no co : Nat) (A B : Option Addr) (n c m d : Nat) (gs : List G3) (os xs ys : List Int) (w : World) (hr : RG w Ag ng gs ∧ RI w Ao no os) (hng : ng ≤ 2097152) (hno : no ≤ 2097152) (ha : RI w A n xs) (hn : n ≤ 2097152) (hb : RI w B m ys) (hm : m ≤ 2097152) :
    Calls Try.prog 21 #[.agg #[.int .i64 p, .int .i64 x, .int .i64 y, .slice Ag ng cg, .slice Ao no co], .slice A n c, .slice B m d] w (RetO w (arValF p x y gs os n m xs ys)) := by
  have hB : Below w.heap.size w (w.alloc (.cells #[.int .i64 p, .int .i64 x, .int .i64 y, .slice Ag ng cg, .slice Ao no co] 31)) := (Below.refl _ _).alloc (Nat.le_refl _) _
  have hlg := hr.1.len
  have hlx := ha.len
  have hly := hb.len
  cases h0 : arAskB p x y gs os n m xs ys with
  | false =>
    have HR : Hid (arValF p x y gs os n m xs ys = none) := Lib.hid (by simp [arValF, h0])
    have H0 := Lib.hid h0; clear h0
    go_enter Try.func21, Try.ntmps21
    go_wp2_with fail
    refine (arAsked_any p x y Ag ng cg Ao no co A B n c m d gs os xs ys _ ⟨hr.1.below hB (Nat.le_refl _), hr.2.below hB (Nat.le_refl _)⟩ hng hno (ha.below hB (Nat.le_refl _)) hn (hb.below hB (Nat.le_refl _)) hm).mono ?_
    rintro e v1 ⟨rfl, hb1⟩
    rw [H0.out]
    have hB1 := hB.trans (hb1.mono hB.size)
    go_wp2
    go_ret2
    exact RetO.none_ hB1 HR.out rfl
  | true =>
    have HT : Hid (arValF p x y gs os n m xs ys = some (avals p gs (xs ++ ys) ng)) := Lib.hid (by simp [arValF, h0, hlg])
    obtain ⟨a1, a2, a3, a4, a5⟩ := arAskB_bd h0
    obtain ⟨b1, b2, b3, b4, b5, b6, b7⟩ := arB_bd a1
    have hp := primeB_bd b1
    have hin : allB 0 (p - 1) (xs ++ ys) = true := by rw [allB_append, elemsB_allB a4, elemsB_allB a5]; rfl
    have hgt : agatesB p ((n + m : Nat) : Int) gs ng = true := by rw [← hlg, Int.natCast_add, a2, a3]; exact b6
    have hnn : n ≤ 8 := by omega
    have hmm : m ≤ 8 := by omega
    have hvl : Hid ((avals p gs (xs ++ ys) ng).length = n + m + ng) := Lib.hid (by rw [avals_len, List.length_append]; omega)
    have hos : allB 0 (((n + m + ng : Nat) : Int) - 1) os = true := by rw [show (((n + m + ng : Nat) : Int) - 1) = x + y + gs.length - 1 from by omega]; exact b7
    have H0 := Lib.hid h0; clear h0 a1 a2 a3 a4 a5 b1 b6 b7
    go_enter Try.func21, Try.ntmps21
    go_wp2_with fail
    refine (arAsked_any p x y Ag ng cg Ao no co A B n c m d gs os xs ys _ ⟨hr.1.below hB (Nat.le_refl _), hr.2.below hB (Nat.le_refl _)⟩ hng hno (ha.below hB (Nat.le_refl _)) hn (hb.below hB (Nat.le_refl _)) hm).mono ?_
    rintro e v1 ⟨rfl, hb1⟩
    rw [H0.out]
    have hB1 := hB.trans (hb1.mono hB.size)
    have k0_0_1 := cell_below (box_cell w #[.int .i64 p, .int .i64 x, .int .i64 y, .slice Ag ng cg, .slice Ao no co] (T := 31) 0 _ rfl) hb1
    have k0_1_1 := cell_below (box_cell w #[.int .i64 p, .int .i64 x, .int .i64 y, .slice Ag ng cg, .slice Ao no co] (T := 31) 1 _ rfl) hb1
    have k0_2_1 := cell_below (box_cell w #[.int .i64 p, .int .i64 x, .int .i64 y, .slice Ag ng cg, .slice Ao no co] (T := 31) 2 _ rfl) hb1
    have k0_3_1 := cell_below (box_cell w #[.int .i64 p, .int .i64 x, .int .i64 y, .slice Ag ng cg, .slice Ao no co] (T := 31) 3 _ rfl) hb1
    have k0_4_1 := cell_below (box_cell w #[.int .i64 p, .int .i64 x, .int .i64 y, .slice Ag ng cg, .slice Ao no co] (T := 31) 4 _ rfl) hb1
    have z0 : w.heap.size < v1.heap.size := by have := hb1.size; simp only [World.size_alloc] at this; omega
    have hB1d := below_drewN hB1 1
    go_wp2_with fail
    go_region_held3 (fun w' => w'.cell? ⟨w.heap.size, 0, none⟩ = some (.int .i64 p) ∧ w'.cell? ⟨w.heap.size, 1, none⟩ = some (.int .i64 x) ∧ w'.cell? ⟨w.heap.size, 2, none⟩ = some (.int .i64 y) ∧ w'.cell? ⟨w.heap.size, 3, none⟩ = some (.slice Ag ng cg) ∧ w'.cell? ⟨w.heap.size, 4, none⟩ = some (.slice Ao no co))
      (first | go_keep | (go_split_ands; exact ⟨cell_below (by assumption) hbV, cell_below (by assumption) hbV, cell_below (by assumption) hbV, cell_below (by assumption) hbV, cell_below (by assumption) hbV⟩) | (go_split_ands; exact ⟨cell_below (by assumption) hbJ, cell_below (by assumption) hbJ, cell_below (by assumption) hbJ, cell_below (by assumption) hbJ, cell_below (by assumption) hbJ⟩))
      (first | (go_at_call 72; refine (ciJoin_any A B n c m d xs ys _ ((ha.below hB1 (Nat.le_refl _)).drewN 1) ((hb.below hB1 (Nat.le_refl _)).drewN 1) (by omega) (by omega)).mono ?_; rintro e W2 ⟨AJ, cJ, rfl, hownJ, hbJ⟩) | (go_at_call 71; refine (arValues_any p x y Ag ng cg Ao no co _ (n + m) _ gs _ _ (hr.1.below (hB1d.trans (hbJ.mono hB1.size)) (Nat.le_refl _)) hownJ.reads ⟨hp.1, hp.2⟩ hin hgt (by omega) (by omega)).mono ?_; rintro e W3 hV; obtain ⟨AV, cV, rfl, hownV, hbV⟩ := hV.open_ hvl.out))
    have hB2 := hB1d.trans (hbJ.mono hB1.size); have hB3 := hB2.trans (hbV.mono hB2.size)
    go_wp2
    go_ret2
    exact RetO.some_ hB3 HT.out hvl.out rfl (hownV.lo_ hB2.size)

set_option maxRecDepth 100000 in
set_option maxHeartbeats 1600000 in
theorem spec_EvalArith_any (p x y : Int) (Ag : Option Addr) (ng cg : Nat) (Ao : Option Addr) (no co : Nat) (A B : Option Addr) (n c m d : Nat) (gs : List G3) (os xs ys : List Int) (w : World) (hr : RG w Ag ng gs ∧ RI w Ao no os) (hng : ng ≤ 2097152) (hno : no ≤ 2097152) (ha : RI w A n xs) (hn : n ≤ 2097152) (hb : RI w B m ys) (hm : m ≤ 2097152) :
    Calls Try.prog 42 #[.agg #[.int .i64 p, .int .i64 x, .int .i64 y, .slice Ag ng cg, .slice Ao no co], .slice A n c, .slice B m d] w (RetO w (arEvalF p x y gs os n m xs ys)) := by
  have hB : Below w.heap.size w (w.alloc (.cells #[.int .i64 p, .int .i64 x, .int .i64 y, .slice Ag ng cg, .slice Ao no co] 31)) := (Below.refl _ _).alloc (Nat.le_refl _) _
  have hlg := hr.1.len
  have hlx := ha.len
  have hly := hb.len
  cases h0 : arAskB p x y gs os n m xs ys with
  | false =>
    have HR : Hid (arEvalF p x y gs os n m xs ys = none) := Lib.hid (by simp [arEvalF, h0])
    have H0 := Lib.hid h0; clear h0
    go_enter Try.func42, Try.ntmps42
    go_wp2_with fail
    refine (arAsked_any p x y Ag ng cg Ao no co A B n c m d gs os xs ys _ ⟨hr.1.below hB (Nat.le_refl _), hr.2.below hB (Nat.le_refl _)⟩ hng hno (ha.below hB (Nat.le_refl _)) hn (hb.below hB (Nat.le_refl _)) hm).mono ?_
    rintro e v1 ⟨rfl, hb1⟩
    rw [H0.out]
    have hB1 := hB.trans (hb1.mono hB.size)
    go_wp2
    go_ret2
    exact RetO.none_ hB1 HR.out rfl
  | true =>
    have HT : Hid (arEvalF p x y gs os n m xs ys = some (pick (avals p gs (xs ++ ys) ng) os)) := Lib.hid (by simp [arEvalF, h0, hlg])
    obtain ⟨a1, a2, a3, a4, a5⟩ := arAskB_bd h0
    obtain ⟨b1, b2, b3, b4, b5, b6, b7⟩ := arB_bd a1
    have hp := primeB_bd b1
    have hin : allB 0 (p - 1) (xs ++ ys) = true := by rw [allB_append, elemsB_allB a4, elemsB_allB a5]; rfl
    have hgt : agatesB p ((n + m : Nat) : Int) gs ng = true := by rw [← hlg, Int.natCast_add, a2, a3]; exact b6
    have hnn : n ≤ 8 := by omega
    have hmm : m ≤ 8 := by omega
    have hvl : Hid ((avals p gs (xs ++ ys) ng).length = n + m + ng) := Lib.hid (by rw [avals_len, List.length_append]; omega)
    have hos : allB 0 (((n + m + ng : Nat) : Int) - 1) os = true := by rw [show (((n + m + ng : Nat) : Int) - 1) = x + y + gs.length - 1 from by omega]; exact b7
    have H0 := Lib.hid h0; clear h0 a1 a2 a3 a4 a5 b1 b6 b7
    go_enter Try.func42, Try.ntmps42
    go_wp2_with fail
    refine (arAsked_any p x y Ag ng cg Ao no co A B n c m d gs os xs ys _ ⟨hr.1.below hB (Nat.le_refl _), hr.2.below hB (Nat.le_refl _)⟩ hng hno (ha.below hB (Nat.le_refl _)) hn (hb.below hB (Nat.le_refl _)) hm).mono ?_
    rintro e v1 ⟨rfl, hb1⟩
    rw [H0.out]
    have hB1 := hB.trans (hb1.mono hB.size)
    have k0_0_1 := cell_below (box_cell w #[.int .i64 p, .int .i64 x, .int .i64 y, .slice Ag ng cg, .slice Ao no co] (T := 31) 0 _ rfl) hb1
    have k0_1_1 := cell_below (box_cell w #[.int .i64 p, .int .i64 x, .int .i64 y, .slice Ag ng cg, .slice Ao no co] (T := 31) 1 _ rfl) hb1
    have k0_2_1 := cell_below (box_cell w #[.int .i64 p, .int .i64 x, .int .i64 y, .slice Ag ng cg, .slice Ao no co] (T := 31) 2 _ rfl) hb1
    have k0_3_1 := cell_below (box_cell w #[.int .i64 p, .int .i64 x, .int .i64 y, .slice Ag ng cg, .slice Ao no co] (T := 31) 3 _ rfl) hb1
    have k0_4_1 := cell_below (box_cell w #[.int .i64 p, .int .i64 x, .int .i64 y, .slice Ag ng cg, .slice Ao no co] (T := 31) 4 _ rfl) hb1
    have z0 : w.heap.size < v1.heap.size := by have := hb1.size; simp only [World.size_alloc] at this; omega
    have hB1d := below_drewN hB1 1
    go_wp2_with fail
    go_region_held3 (fun w' => w'.cell? ⟨w.heap.size, 0, none⟩ = some (.int .i64 p) ∧ w'.cell? ⟨w.heap.size, 1, none⟩ = some (.int .i64 x) ∧ w'.cell? ⟨w.heap.size, 2, none⟩ = some (.int .i64 y) ∧ w'.cell? ⟨w.heap.size, 3, none⟩ = some (.slice Ag ng cg) ∧ w'.cell? ⟨w.heap.size, 4, none⟩ = some (.slice Ao no co))
      (first | go_keep | (go_split_ands; exact ⟨cell_below (by assumption) hbP, cell_below (by assumption) hbP, cell_below (by assumption) hbP, cell_below (by assumption) hbP, cell_below (by assumption) hbP⟩) | (go_split_ands; exact ⟨cell_below (by assumption) hbV, cell_below (by assumption) hbV, cell_below (by assumption) hbV, cell_below (by assumption) hbV, cell_below (by assumption) hbV⟩) | (go_split_ands; exact ⟨cell_below (by assumption) hbJ, cell_below (by assumption) hbJ, cell_below (by assumption) hbJ, cell_below (by assumption) hbJ, cell_below (by assumption) hbJ⟩))
      (first | (go_at_call 72; refine (ciJoin_any A B n c m d xs ys _ ((ha.below hB1 (Nat.le_refl _)).drewN 1) ((hb.below hB1 (Nat.le_refl _)).drewN 1) (by omega) (by omega)).mono ?_; rintro e W2 ⟨AJ, cJ, rfl, hownJ, hbJ⟩) | (go_at_call 71; refine (arValues_any p x y Ag ng cg Ao no co _ (n + m) _ gs _ _ (hr.1.below (hB1d.trans (hbJ.mono hB1.size)) (Nat.le_refl _)) hownJ.reads ⟨hp.1, hp.2⟩ hin hgt (by omega) (by omega)).mono ?_; rintro e W3 hV; obtain ⟨AV, cV, rfl, hownV, hbV⟩ := hV.open_ hvl.out) | (go_at_call 96; refine (ciPick_any AV Ao (n + m + ng) cV no co (avals p gs (xs ++ ys) ng) os _ hownV.reads (hr.2.below ((hB1d.trans (hbJ.mono hB1.size)).trans (hbV.mono (hB1d.trans (hbJ.mono hB1.size)).size)) (Nat.le_refl _)) (by omega) (by omega) hos).mono ?_; rintro e W4 hP; obtain ⟨AP, cP, rfl, hownP, hbP⟩ := hP.open_ (pick_len _ _)))
    have hB2 := hB1d.trans (hbJ.mono hB1.size); have hB3 := hB2.trans (hbV.mono hB2.size)
    have hB4 := hB3.trans (hbP.mono hB3.size)
    go_wp2
    go_ret2
    exact RetO.some_ hB4 HT.out (pick_len _ _) rfl (hownP.lo_ hB3.size)

set_option maxRecDepth 100000 in
set_option maxHeartbeats 1600000 in
theorem ArithValues_any (p x y : Int) (Ag : Option Addr) (ng cg : Nat) (Ao : Option Addr) (no co : Nat) (A B : Option Addr) (n c m d : Nat) (gs : List G3) (os xs ys : List Int) (w : World) (hr : RG w Ag ng gs ∧ RI w Ao no os) (hng : ng ≤ 2097152) (hno : no ≤ 2097152) (ha : RI w A n xs) (hn : n ≤ 2097152) (hb : RI w B m ys) (hm : m ≤ 2097152) :
    Calls Try.prog 24 #[.agg #[.int .i64 p, .int .i64 x, .int .i64 y, .slice Ag ng cg, .slice Ao no co], .slice A n c, .slice B m d] w (RetO w (arValF p x y gs os n m xs ys)) := by
  have hB : Below w.heap.size w (w.alloc (.cells #[.int .i64 p, .int .i64 x, .int .i64 y, .slice Ag ng cg, .slice Ao no co] 31)) := (Below.refl _ _).alloc (Nat.le_refl _) _
  have hlg := hr.1.len
  have hlx := ha.len
  have hly := hb.len
  cases h0 : arB p x y gs os with
  | false =>
    have HR : Hid (arValF p x y gs os n m xs ys = none) := Lib.hid (by simp [arValF, arAskB, h0])
    have H0 := Lib.hid h0; clear h0
    go_enter Try.func24, Try.ntmps24
    go_wp2_with fail
    refine (IsArith_any p x y Ag ng cg Ao no co gs os _ (hr.1.below hB (Nat.le_refl _)) (hr.2.below hB (Nat.le_refl _)) hng hno).mono ?_
    rintro e v1 ⟨rfl, hb1⟩
    rw [H0.out]
    have hB1 := hB.trans (hb1.mono hB.size)
    go_wp2
    go_ret2
    exact RetO.none_ hB1 HR.out rfl
  | true =>
    have H0 := Lib.hid h0; clear h0
    cases h1 : elemsB p xs with
    | false =>
      have HR : Hid (arValF p x y gs os n m xs ys = none) := Lib.hid (by simp [arValF, arAskB, H0.out, h1])
      have H1 := Lib.hid h1; clear h1
      go_enter Try.func24, Try.ntmps24
      go_wp2_with fail
      refine (IsArith_any p x y Ag ng cg Ao no co gs os _ (hr.1.below hB (Nat.le_refl _)) (hr.2.below hB (Nat.le_refl _)) hng hno).mono ?_
      rintro e v1 ⟨rfl, hb1⟩
      rw [H0.out]
      have hB1 := hB.trans (hb1.mono hB.size)
      have k0_0_1 := cell_below (box_cell w #[.int .i64 p, .int .i64 x, .int .i64 y, .slice Ag ng cg, .slice Ao no co] (T := 31) 0 _ rfl) hb1
      have k0_1_1 := cell_below (box_cell w #[.int .i64 p, .int .i64 x, .int .i64 y, .slice Ag ng cg, .slice Ao no co] (T := 31) 1 _ rfl) hb1
      have k0_2_1 := cell_below (box_cell w #[.int .i64 p, .int .i64 x, .int .i64 y, .slice Ag ng cg, .slice Ao no co] (T := 31) 2 _ rfl) hb1
      have k0_3_1 := cell_below (box_cell w #[.int .i64 p, .int .i64 x, .int .i64 y, .slice Ag ng cg, .slice Ao no co] (T := 31) 3 _ rfl) hb1
      have k0_4_1 := cell_below (box_cell w #[.int .i64 p, .int .i64 x, .int .i64 y, .slice Ag ng cg, .slice Ao no co] (T := 31) 4 _ rfl) hb1
      have z0 : w.heap.size < v1.heap.size := by have := hb1.size; simp only [World.size_alloc] at this; omega
      go_wp2_with fail
      refine (areElements_any p A n c xs _ (ha.below hB1 (Nat.le_refl _)) hn).mono ?_
      rintro e v2 ⟨rfl, hb2⟩
      rw [H1.out]
      have hB2 := hB1.trans (hb2.mono hB1.size)
      go_wp2
      go_ret2
      exact RetO.none_ hB2 HR.out rfl
    | true =>
      have H1 := Lib.hid h1; clear h1
      cases h2 : elemsB p ys with
      | false =>
        have HR : Hid (arValF p x y gs os n m xs ys = none) := Lib.hid (by simp [arValF, arAskB, H0.out, H1.out, h2])
        have H2 := Lib.hid h2; clear h2
        go_enter Try.func24, Try.ntmps24
        go_wp2_with fail
        refine (IsArith_any p x y Ag ng cg Ao no co gs os _ (hr.1.below hB (Nat.le_refl _)) (hr.2.below hB (Nat.le_refl _)) hng hno).mono ?_
        rintro e v1 ⟨rfl, hb1⟩
        rw [H0.out]
        have hB1 := hB.trans (hb1.mono hB.size)
        have k0_0_1 := cell_below (box_cell w #[.int .i64 p, .int .i64 x, .int .i64 y, .slice Ag ng cg, .slice Ao no co] (T := 31) 0 _ rfl) hb1
        have k0_1_1 := cell_below (box_cell w #[.int .i64 p, .int .i64 x, .int .i64 y, .slice Ag ng cg, .slice Ao no co] (T := 31) 1 _ rfl) hb1
        have k0_2_1 := cell_below (box_cell w #[.int .i64 p, .int .i64 x, .int .i64 y, .slice Ag ng cg, .slice Ao no co] (T := 31) 2 _ rfl) hb1
        have k0_3_1 := cell_below (box_cell w #[.int .i64 p, .int .i64 x, .int .i64 y, .slice Ag ng cg, .slice Ao no co] (T := 31) 3 _ rfl) hb1
        have k0_4_1 := cell_below (box_cell w #[.int .i64 p, .int .i64 x, .int .i64 y, .slice Ag ng cg, .slice Ao no co] (T := 31) 4 _ rfl) hb1
        have z0 : w.heap.size < v1.heap.size := by have := hb1.size; simp only [World.size_alloc] at this; omega
        go_wp2_with fail
        refine (areElements_any p A n c xs _ (ha.below hB1 (Nat.le_refl _)) hn).mono ?_
        rintro e v2 ⟨rfl, hb2⟩
        rw [H1.out]
        have hB2 := hB1.trans (hb2.mono hB1.size)
        have k0_0_2 := cell_below k0_0_1 hb2; clear k0_0_1
        have k0_1_2 := cell_below k0_1_1 hb2; clear k0_1_1
        have k0_2_2 := cell_below k0_2_1 hb2; clear k0_2_1
        have k0_3_2 := cell_below k0_3_1 hb2; clear k0_3_1
        have k0_4_2 := cell_below k0_4_1 hb2; clear k0_4_1
        have z0_2 : w.heap.size < v2.heap.size := by have := hb2.size; omega
        go_wp2_with fail
        refine (areElements_any p B m d ys _ (hb.below hB2 (Nat.le_refl _)) hm).mono ?_
        rintro e v3 ⟨rfl, hb3⟩
        rw [H2.out]
        have hB3 := hB2.trans (hb3.mono hB2.size)
        go_wp2
        go_ret2
        exact RetO.none_ hB3 HR.out rfl
      | true =>
        have H2 := Lib.hid h2; clear h2
        by_cases h3 : (n : Int) = x
        rotate_left
        · have e3 : (((n : Int)) == (x)) = false := by simpa using h3
          have g3 : (((n : Int)) != (x)) = true := by simpa using h3
          have HR : Hid (arValF p x y gs os n m xs ys = none) := Lib.hid (by simp [arValF, arAskB, H0.out, H1.out, H2.out, h3])
          clear h3
          go_enter Try.func24, Try.ntmps24
          go_wp2_with fail
          refine (IsArith_any p x y Ag ng cg Ao no co gs os _ (hr.1.below hB (Nat.le_refl _)) (hr.2.below hB (Nat.le_refl _)) hng hno).mono ?_
          rintro e v1 ⟨rfl, hb1⟩
          rw [H0.out]
          have hB1 := hB.trans (hb1.mono hB.size)
          have k0_0_1 := cell_below (box_cell w #[.int .i64 p, .int .i64 x, .int .i64 y, .slice Ag ng cg, .slice Ao no co] (T := 31) 0 _ rfl) hb1
          have k0_1_1 := cell_below (box_cell w #[.int .i64 p, .int .i64 x, .int .i64 y, .slice Ag ng cg, .slice Ao no co] (T := 31) 1 _ rfl) hb1
          have k0_2_1 := cell_below (box_cell w #[.int .i64 p, .int .i64 x, .int .i64 y, .slice Ag ng cg, .slice Ao no co] (T := 31) 2 _ rfl) hb1
          have k0_3_1 := cell_below (box_cell w #[.int .i64 p, .int .i64 x, .int .i64 y, .slice Ag ng cg, .slice Ao no co] (T := 31) 3 _ rfl) hb1
          have k0_4_1 := cell_below (box_cell w #[.int .i64 p, .int .i64 x, .int .i64 y, .slice Ag ng cg, .slice Ao no co] (T := 31) 4 _ rfl) hb1
          have z0 : w.heap.size < v1.heap.size := by have := hb1.size; simp only [World.size_alloc] at this; omega
          go_wp2_with fail
          refine (areElements_any p A n c xs _ (ha.below hB1 (Nat.le_refl _)) hn).mono ?_
          rintro e v2 ⟨rfl, hb2⟩
          rw [H1.out]
          have hB2 := hB1.trans (hb2.mono hB1.size)
          have k0_0_2 := cell_below k0_0_1 hb2; clear k0_0_1
          have k0_1_2 := cell_below k0_1_1 hb2; clear k0_1_1
          have k0_2_2 := cell_below k0_2_1 hb2; clear k0_2_1
          have k0_3_2 := cell_below k0_3_1 hb2; clear k0_3_1
          have k0_4_2 := cell_below k0_4_1 hb2; clear k0_4_1
          have z0_2 : w.heap.size < v2.heap.size := by have := hb2.size; omega
          go_wp2_with fail
          refine (areElements_any p B m d ys _ (hb.below hB2 (Nat.le_refl _)) hm).mono ?_
          rintro e v3 ⟨rfl, hb3⟩
          rw [H2.out]
          have hB3 := hB2.trans (hb3.mono hB2.size)
          have k0_0_3 := cell_below k0_0_2 hb3; clear k0_0_2
          have k0_1_3 := cell_below k0_1_2 hb3; clear k0_1_2
          have k0_2_3 := cell_below k0_2_2 hb3; clear k0_2_2
          have k0_3_3 := cell_below k0_3_2 hb3; clear k0_3_2
          have k0_4_3 := cell_below k0_4_2 hb3; clear k0_4_2
          have z0_3 : w.heap.size < v3.heap.size := by have := hb3.size; omega
          go_wp2
          go_ret2
          exact RetO.none_ hB3 HR.out rfl
        have e3 : (((n : Int)) == (x)) = true := by simpa using h3
        have g3 : (((n : Int)) != (x)) = false := by simpa using h3
        have H3 := Lib.hid h3; clear h3
        by_cases h4 : (m : Int) = y
        rotate_left
        · have e4 : (((m : Int)) == (y)) = false := by simpa using h4
          have g4 : (((m : Int)) != (y)) = true := by simpa using h4
          have HR : Hid (arValF p x y gs os n m xs ys = none) := Lib.hid (by simp [arValF, arAskB, H0.out, H1.out, H2.out, H3.out, h4])
          clear h4
          go_enter Try.func24, Try.ntmps24
          go_wp2_with fail
          refine (IsArith_any p x y Ag ng cg Ao no co gs os _ (hr.1.below hB (Nat.le_refl _)) (hr.2.below hB (Nat.le_refl _)) hng hno).mono ?_
          rintro e v1 ⟨rfl, hb1⟩
          rw [H0.out]
          have hB1 := hB.trans (hb1.mono hB.size)
          have k0_0_1 := cell_below (box_cell w #[.int .i64 p, .int .i64 x, .int .i64 y, .slice Ag ng cg, .slice Ao no co] (T := 31) 0 _ rfl) hb1
          have k0_1_1 := cell_below (box_cell w #[.int .i64 p, .int .i64 x, .int .i64 y, .slice Ag ng cg, .slice Ao no co] (T := 31) 1 _ rfl) hb1
          have k0_2_1 := cell_below (box_cell w #[.int .i64 p, .int .i64 x, .int .i64 y, .slice Ag ng cg, .slice Ao no co] (T := 31) 2 _ rfl) hb1
          have k0_3_1 := cell_below (box_cell w #[.int .i64 p, .int .i64 x, .int .i64 y, .slice Ag ng cg, .slice Ao no co] (T := 31) 3 _ rfl) hb1
          have k0_4_1 := cell_below (box_cell w #[.int .i64 p, .int .i64 x, .int .i64 y, .slice Ag ng cg, .slice Ao no co] (T := 31) 4 _ rfl) hb1
          have z0 : w.heap.size < v1.heap.size := by have := hb1.size; simp only [World.size_alloc] at this; omega
          go_wp2_with fail
          refine (areElements_any p A n c xs _ (ha.below hB1 (Nat.le_refl _)) hn).mono ?_
          rintro e v2 ⟨rfl, hb2⟩
          rw [H1.out]
          have hB2 := hB1.trans (hb2.mono hB1.size)
          have k0_0_2 := cell_below k0_0_1 hb2; clear k0_0_1
          have k0_1_2 := cell_below k0_1_1 hb2; clear k0_1_1
          have k0_2_2 := cell_below k0_2_1 hb2; clear k0_2_1
          have k0_3_2 := cell_below k0_3_1 hb2; clear k0_3_1
          have k0_4_2 := cell_below k0_4_1 hb2; clear k0_4_1
          have z0_2 : w.heap.size < v2.heap.size := by have := hb2.size; omega
          go_wp2_with fail
          refine (areElements_any p B m d ys _ (hb.below hB2 (Nat.le_refl _)) hm).mono ?_
          rintro e v3 ⟨rfl, hb3⟩
          rw [H2.out]
          have hB3 := hB2.trans (hb3.mono hB2.size)
          have k0_0_3 := cell_below k0_0_2 hb3; clear k0_0_2
          have k0_1_3 := cell_below k0_1_2 hb3; clear k0_1_2
          have k0_2_3 := cell_below k0_2_2 hb3; clear k0_2_2
          have k0_3_3 := cell_below k0_3_2 hb3; clear k0_3_2
          have k0_4_3 := cell_below k0_4_2 hb3; clear k0_4_2
          have z0_3 : w.heap.size < v3.heap.size := by have := hb3.size; omega
          go_wp2
          go_ret2
          exact RetO.none_ hB3 HR.out rfl
        have e4 : (((m : Int)) == (y)) = true := by simpa using h4
        have g4 : (((m : Int)) != (y)) = false := by simpa using h4
        have H4 := Lib.hid h4; clear h4
        have h0 : arAskB p x y gs os n m xs ys = true := by simp [arAskB, H0.out, H1.out, H2.out, H3.out, H4.out]
        have HT : Hid (arValF p x y gs os n m xs ys = some (avals p gs (xs ++ ys) ng)) := Lib.hid (by simp [arValF, h0, hlg])
        obtain ⟨a1, a2, a3, a4, a5⟩ := arAskB_bd h0
        obtain ⟨b1, b2, b3, b4, b5, b6, b7⟩ := arB_bd a1
        have hp := primeB_bd b1
        have hin : allB 0 (p - 1) (xs ++ ys) = true := by rw [allB_append, elemsB_allB a4, elemsB_allB a5]; rfl
        have hgt : agatesB p ((n + m : Nat) : Int) gs ng = true := by rw [← hlg, Int.natCast_add, a2, a3]; exact b6
        have hnn : n ≤ 8 := by omega
        have hmm : m ≤ 8 := by omega
        have hvl : Hid ((avals p gs (xs ++ ys) ng).length = n + m + ng) := Lib.hid (by rw [avals_len, List.length_append]; omega)
        have hos : allB 0 (((n + m + ng : Nat) : Int) - 1) os = true := by rw [show (((n + m + ng : Nat) : Int) - 1) = x + y + gs.length - 1 from by omega]; exact b7
        clear h0 a1 a2 a3 a4 a5 b1 b6 b7
        go_enter Try.func24, Try.ntmps24
        go_wp2_with fail
        refine (IsArith_any p x y Ag ng cg Ao no co gs os _ (hr.1.below hB (Nat.le_refl _)) (hr.2.below hB (Nat.le_refl _)) hng hno).mono ?_
        rintro e v1 ⟨rfl, hb1⟩
        rw [H0.out]
        have hB1 := hB.trans (hb1.mono hB.size)
        have k0_0_1 := cell_below (box_cell w #[.int .i64 p, .int .i64 x, .int .i64 y, .slice Ag ng cg, .slice Ao no co] (T := 31) 0 _ rfl) hb1
        have k0_1_1 := cell_below (box_cell w #[.int .i64 p, .int .i64 x, .int .i64 y, .slice Ag ng cg, .slice Ao no co] (T := 31) 1 _ rfl) hb1
        have k0_2_1 := cell_below (box_cell w #[.int .i64 p, .int .i64 x, .int .i64 y, .slice Ag ng cg, .slice Ao no co] (T := 31) 2 _ rfl) hb1
        have k0_3_1 := cell_below (box_cell w #[.int .i64 p, .int .i64 x, .int .i64 y, .slice Ag ng cg, .slice Ao no co] (T := 31) 3 _ rfl) hb1
        have k0_4_1 := cell_below (box_cell w #[.int .i64 p, .int .i64 x, .int .i64 y, .slice Ag ng cg, .slice Ao no co] (T := 31) 4 _ rfl) hb1
        have z0 : w.heap.size < v1.heap.size := by have := hb1.size; simp only [World.size_alloc] at this; omega
        go_wp2_with fail
        refine (areElements_any p A n c xs _ (ha.below hB1 (Nat.le_refl _)) hn).mono ?_
        rintro e v2 ⟨rfl, hb2⟩
        rw [H1.out]
        have hB2 := hB1.trans (hb2.mono hB1.size)
        have k0_0_2 := cell_below k0_0_1 hb2; clear k0_0_1
        have k0_1_2 := cell_below k0_1_1 hb2; clear k0_1_1
        have k0_2_2 := cell_below k0_2_1 hb2; clear k0_2_1
        have k0_3_2 := cell_below k0_3_1 hb2; clear k0_3_1
        have k0_4_2 := cell_below k0_4_1 hb2; clear k0_4_1
        have z0_2 : w.heap.size < v2.heap.size := by have := hb2.size; omega
        go_wp2_with fail
        refine (areElements_any p B m d ys _ (hb.below hB2 (Nat.le_refl _)) hm).mono ?_
        rintro e v3 ⟨rfl, hb3⟩
        rw [H2.out]
        have hB3 := hB2.trans (hb3.mono hB2.size)
        have k0_0_3 := cell_below k0_0_2 hb3; clear k0_0_2
        have k0_1_3 := cell_below k0_1_2 hb3; clear k0_1_2
        have k0_2_3 := cell_below k0_2_2 hb3; clear k0_2_2
        have k0_3_3 := cell_below k0_3_2 hb3; clear k0_3_2
        have k0_4_3 := cell_below k0_4_2 hb3; clear k0_4_2
        have z0_3 : w.heap.size < v3.heap.size := by have := hb3.size; omega
        have hB1d := below_drewN hB3 1
        go_wp2_with fail
        go_region_held3 (fun w' => w'.cell? ⟨w.heap.size, 0, none⟩ = some (.int .i64 p) ∧ w'.cell? ⟨w.heap.size, 1, none⟩ = some (.int .i64 x) ∧ w'.cell? ⟨w.heap.size, 2, none⟩ = some (.int .i64 y) ∧ w'.cell? ⟨w.heap.size, 3, none⟩ = some (.slice Ag ng cg) ∧ w'.cell? ⟨w.heap.size, 4, none⟩ = some (.slice Ao no co))
          (first | go_keep | (go_split_ands; exact ⟨cell_below (by assumption) hbV, cell_below (by assumption) hbV, cell_below (by assumption) hbV, cell_below (by assumption) hbV, cell_below (by assumption) hbV⟩) | (go_split_ands; exact ⟨cell_below (by assumption) hbJ, cell_below (by assumption) hbJ, cell_below (by assumption) hbJ, cell_below (by assumption) hbJ, cell_below (by assumption) hbJ⟩))
          (first | (go_at_call 77; refine (with_any A B n c m d xs ys _ ((ha.below hB3 (Nat.le_refl _)).drewN 1) ((hb.below hB3 (Nat.le_refl _)).drewN 1) (by omega) (by omega)).mono ?_; rintro e W2 ⟨AJ, cJ, rfl, hownJ, hbJ⟩) | (go_at_call 76; refine (Arith_values_any p x y Ag ng cg Ao no co _ (n + m) _ gs _ _ (hr.1.below (hB1d.trans (hbJ.mono hB3.size)) (Nat.le_refl _)) hownJ.reads ⟨hp.1, hp.2⟩ hin hgt (by omega) (by omega)).mono ?_; rintro e W3 hV; obtain ⟨AV, cV, rfl, hownV, hbV⟩ := hV.open_ hvl.out))
        have hB2 := hB1d.trans (hbJ.mono hB3.size); have hB3 := hB2.trans (hbV.mono hB2.size)
        go_wp2
        go_ret2
        exact RetO.some_ hB3 HT.out hvl.out rfl (hownV.lo_ hB2.size)

set_option maxRecDepth 100000 in
set_option maxHeartbeats 1600000 in
theorem EvalArith_any (p x y : Int) (Ag : Option Addr) (ng cg : Nat) (Ao : Option Addr) (no co : Nat) (A B : Option Addr) (n c m d : Nat) (gs : List G3) (os xs ys : List Int) (w : World) (hr : RG w Ag ng gs ∧ RI w Ao no os) (hng : ng ≤ 2097152) (hno : no ≤ 2097152) (ha : RI w A n xs) (hn : n ≤ 2097152) (hb : RI w B m ys) (hm : m ≤ 2097152) :
    Calls Try.prog 43 #[.agg #[.int .i64 p, .int .i64 x, .int .i64 y, .slice Ag ng cg, .slice Ao no co], .slice A n c, .slice B m d] w (RetO w (arEvalF p x y gs os n m xs ys)) := by
  have hB : Below w.heap.size w (w.alloc (.cells #[.int .i64 p, .int .i64 x, .int .i64 y, .slice Ag ng cg, .slice Ao no co] 31)) := (Below.refl _ _).alloc (Nat.le_refl _) _
  have hlg := hr.1.len
  have hlx := ha.len
  have hly := hb.len
  cases h0 : arAskB p x y gs os n m xs ys with
  | false =>
    have HV : Hid (arValF p x y gs os n m xs ys = none) := Lib.hid (by simp [arValF, h0])
    have HR : Hid (arEvalF p x y gs os n m xs ys = none) := Lib.hid (by simp [arEvalF, h0])
    clear h0
    go_enter Try.func43, Try.ntmps43
    go_wp2_with fail
    refine (ArithValues_any p x y Ag ng cg Ao no co A B n c m d gs os xs ys _ ⟨hr.1.below hB (Nat.le_refl _), hr.2.below hB (Nat.le_refl _)⟩ hng hno (ha.below hB (Nat.le_refl _)) hn (hb.below hB (Nat.le_refl _)) hm).mono ?_
    rintro e v1 h1
    rw [HV.out] at h1
    obtain ⟨A1, c1, rfl, hown1, hb1⟩ := h1
    go_wp2
    go_ret2
    exact RetO.none_ (hB.trans (hb1.mono hB.size)) HR.out rfl
  | true =>
    have HV : Hid (arValF p x y gs os n m xs ys = some (avals p gs (xs ++ ys) ng)) := Lib.hid (by simp [arValF, h0, hlg])
    have HR : Hid (arEvalF p x y gs os n m xs ys = some (pick (avals p gs (xs ++ ys) ng) os)) := Lib.hid (by simp [arEvalF, h0, hlg])
    obtain ⟨a1, a2, a3, a4, a5⟩ := arAskB_bd h0
    obtain ⟨b1, b2, b3, b4, b5, b6, b7⟩ := arB_bd a1
    have hp := primeB_bd b1
    have hin : allB 0 (p - 1) (xs ++ ys) = true := by rw [allB_append, elemsB_allB a4, elemsB_allB a5]; rfl
    have hgt : agatesB p ((n + m : Nat) : Int) gs ng = true := by rw [← hlg, Int.natCast_add, a2, a3]; exact b6
    have hnn : n ≤ 8 := by omega
    have hmm : m ≤ 8 := by omega
    have hvl : Hid ((avals p gs (xs ++ ys) ng).length = n + m + ng) := Lib.hid (by rw [avals_len, List.length_append]; omega)
    have hos : allB 0 (((n + m + ng : Nat) : Int) - 1) os = true := by rw [show (((n + m + ng : Nat) : Int) - 1) = x + y + gs.length - 1 from by omega]; exact b7
    clear h0 a1 a2 a3 a4 a5 b1 b6 b7
    go_enter Try.func43, Try.ntmps43
    go_wp2_with fail
    refine (ArithValues_any p x y Ag ng cg Ao no co A B n c m d gs os xs ys _ ⟨hr.1.below hB (Nat.le_refl _), hr.2.below hB (Nat.le_refl _)⟩ hng hno (ha.below hB (Nat.le_refl _)) hn (hb.below hB (Nat.le_refl _)) hm).mono ?_
    rintro e v1 h1
    rw [HV.out] at h1
    obtain ⟨A1, c1, rfl, hown1, hb1⟩ := h1
    simp only [Option.getD_some, Option.isSome_some] at hown1 ⊢
    rw [hvl.out] at hown1 ⊢
    have hB1 := hB.trans (hb1.mono hB.size)
    have k4 := cell_below (box_cell w #[.int .i64 p, .int .i64 x, .int .i64 y, .slice Ag ng cg, .slice Ao no co] (T := 31) 4 _ rfl) hb1
    go_wp2_with fail
    refine (at_any A1 Ao (n + m + ng) c1 no co (avals p gs (xs ++ ys) ng) os _ hown1.reads (hr.2.below hB1 (Nat.le_refl _)) (by omega) (by omega) hos).mono ?_
    rintro e v2 h2
    obtain ⟨A2, c2, rfl, hown2, hb2⟩ := h2.open_ (pick_len _ _)
    go_wp2
    go_ret2
    exact RetO.some_ (hB1.trans (hb2.mono hB1.size)) HR.out (pick_len _ _) rfl (hown2.lo_ hB1.size)

end Go.Proofs.Ytanlbdkggocdiaa
