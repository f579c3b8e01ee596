/- Contracts of equality of lists, of small circuits, of the tables of a circuit's outs. The laws' own comparison of two lists. Lengths up to 2^21. Plain functions: degrees of arithmetic circuits, constant wires, moved gates; no program in sight. Contracts: a circuit that is valid or not; gates moved by a closure. -/
import Derived.Test.YtcdhmcpocohbpaaQP14
import Derived.Deep.RegionLaw
import Derived.Test.YtcdhmcpocohbpaaQP06
namespace Go.Proofs.Ytcdhmcpocohbpaa
open Go.RowKit
set_option linter.unusedVariables false
set_option linter.unusedSimpArgs false
theorem box_at {w wr : World} {x y : Int} {Ag : Option Addr} {ng cg : Nat} {Ao : Option Addr} {no co : Nat} {T : TypeId} (hb : Below (w.heap.size + 1) (w.alloc (.cells #[.int .i64 x, .int .i64 y, .slice Ag ng cg, .slice Ao no co] T)) wr) : BxC wr w.heap.size x y Ag ng cg Ao no co :=
  ⟨(hb.cell (p := ⟨w.heap.size, 0, none⟩) (by simp)).trans (box_cell w _ 0 _ rfl), (hb.cell (p := ⟨w.heap.size, 1, none⟩) (by simp)).trans (box_cell w _ 1 _ rfl), (hb.cell (p := ⟨w.heap.size, 2, none⟩) (by simp)).trans (box_cell w _ 2 _ rfl), (hb.cell (p := ⟨w.heap.size, 3, none⟩) (by simp)).trans (box_cell w _ 3 _ rfl)⟩
theorem two_pow_small {X : Nat} (h : X ≤ 10) : 2 ^ X ≤ 1024 := by
  have := Nat.pow_le_pow_right (n := 2) (by omega) h
  exact this
theorem pow_wrap {X N : Nat} (hN : N = 2 ^ X) (h : X ≤ 10) : N ≤ 1024 ∧ wrap64 ((2 : Int) ^ X) = N := by
  have h1 := two_pow_small h
  have h2 : (2 : Int) ^ X = (N : Int) := by rw [hN, Int.natCast_pow]; rfl
  rw [h2]
  exact ⟨by omega, IntWalk.wrap64_in _ (by omega)⟩
theorem below_chain_app {B : Nat} {a wr W w5 : World} {lo hi n c : Nat} {A : Option Addr} {xs : List Int} {o : Obj} (h : Below B a wr) (hB : B ≤ wr.heap.size) (k : Below wr.heap.size wr W) (hown : Own (W.alloc o) lo hi (.slice A n c) n xs) (hg : (W.alloc o).grownBy w5 (Value.slice A n c).ownBlock) (hl : B ≤ lo) : Below B a w5 :=
  below_app ((h.trans (k.mono hB)).alloc (by have := k.size; omega) o) hown hg (by simp; have := k.size; omega) hl
theorem below_chain_appL {B : Nat} {a wr W w5 : World} {lo hi n c : Nat} {A : Option Addr} {xss : List (List Int)} {o : Obj} (h : Below B a wr) (hB : B ≤ wr.heap.size) (k : Below wr.heap.size wr W) (hown : OwnII (W.alloc o) lo hi (.slice A n c) n xss) (hg : (W.alloc o).grownBy w5 (Value.slice A n c).ownBlock) (hl : B ≤ lo) : Below B a w5 :=
  below_appL ((h.trans (k.mono hB)).alloc (by have := k.size; omega) o) hown hg (by simp; have := k.size; omega) hl
theorem Own.from_ {w : World} {lo hi n c : Nat} {A : Option Addr} {xs : List Int} (h : Own w lo hi (.slice A n c) n xs) : ∀ g, A = some ⟨g, 0, none⟩ → lo ≤ g := fun g he => by subst he; exact (h.lt g (by simp [Value.ownBlock])).1
theorem OwnII.from_ {w : World} {lo hi n c : Nat} {A : Option Addr} {xss : List (List Int)} (h : OwnII w lo hi (.slice A n c) n xss) : ∀ g, A = some ⟨g, 0, none⟩ → lo ≤ g := fun g he => by subst he; exact (h.lt g (by simp [Value.ownBlock])).1
def sameB (xs ys : List Int) : Bool := decide (xs = ys)
theorem sameB_len {xs ys : List Int} (h : xs.length ≠ ys.length) : sameB xs ys = false := by
  simp only [sameB, decide_eq_false_iff_not]; intro hc; exact h (by rw [hc])
theorem sameB_at {xs ys : List Int} {k : Nat} (h : gi xs k ≠ gi ys k) : sameB xs ys = false := by
  simp only [sameB, decide_eq_false_iff_not]; intro hc; exact h (by rw [hc])
theorem sameB_all {xs ys : List Int} (h : xs.length = ys.length) (hg : ∀ j, j < xs.length → gi xs j = gi ys j) : sameB xs ys = true := by
  simp only [sameB, decide_eq_true_eq]; exact gi_eq h hg
def smallB (x y : Int) (gs : List G3) (os : List Int) (lim : Nat) : Bool := circB x y gs os && (decide (x + y ≤ 10) && decide (os.length ≤ lim))
set_option maxHeartbeats 400000 in
theorem l1Same_any (A B : Option Addr) (n c m d : Nat) (xs ys : List Int) (w : World) (ha : RI w A n xs) (hb : RI w B m ys) (hn : n ≤ 2097152) (hm : m ≤ 2097152) :
    Calls Try.prog 47 #[.slice A n c, .slice B m d] w fun e w' => e = .returned (.bool (sameB xs ys)) ∧ ∃ j, w' = w.drewN j := by
  have hl := ha.len
  have hm' := hb.len
  by_cases h0 : n = m
  · subst h0
    have hne : ((n : Int) != n) = false := by simp
    go_enter Try.func47, Try.ntmps47
    go_wp2
    go_loopw [13] (fun i wr => ∃ k j : Nat, k ≤ n ∧ i = .int .i64 k ∧ wr = w.drewN j ∧ Hid (∀ q, q < k → gi xs q = gi ys q)) (fun i _ => n - (intOf i).toNat)
    case atStart => exact ⟨0, 0, Nat.zero_le _, rfl, rfl, Lib.hid fun q hq => absurd hq (by omega)⟩
    case round =>
      obtain ⟨k, j, hk, rfl, rfl, hq⟩ := hrel
      by_cases hlt : k < n
      · obtain ⟨b, o, rfl, hbB, e1⟩ := ha.at_ hlt
        obtain ⟨b', o', rfl, hbB', e2⟩ := hb.at_ hlt
        by_cases h1 : gi xs k = gi ys k
        · have H1 := Lib.hid h1
          rw [← h1] at e2
          clear h1
          have hnx : (gi xs k != gi xs k) = false := by simp
          generalize hX : gi xs k = X at *
          clear ha hb
          go_wp2_with fail
          go_quiet (fail)
          go_wp2
          go_roundw
          case rel => exact ⟨k + 1, _, by omega, by go_num, by first | rfl | exact World.drewN_drewN _ _ _, Lib.hid fun q hq' => by
            rcases Nat.lt_or_ge q k with h | h
            · exact hq.out q h
            · obtain rfl : q = k := by omega
              exact hX.trans H1.out⟩
          case measure => simp [intOf]; omega
        · have H1 := Lib.hid h1
          have hnx : (gi xs k != gi ys k) = true := by simpa using h1
          clear h1
          have HR : Hid (sameB xs ys = false) := Lib.hid (sameB_at H1.out)
          generalize gi xs k = X at *
          generalize gi ys k = Y at *
          clear ha hb
          go_wp2_with fail
          go_quiet (fail)
          go_wp2
          go_ret
          exact ⟨by rw [HR.out]; rfl, _, by first | rfl | exact World.drewN_drewN _ _ _⟩
      · obtain rfl : k = n := by omega
        have HR : Hid (sameB xs ys = true) := Lib.hid (sameB_all (by omega) fun q hq' => hq.out q (by omega))
        go_wp2
        go_ret
        exact ⟨by rw [HR.out]; rfl, _, rfl⟩
  · have h1 : ((n : Int) != m) = true := by simp; omega
    have HR : Hid (sameB xs ys = false) := Lib.hid (sameB_len (by omega))
    go_enter Try.func47, Try.ntmps47
    go_wp2
    go_ret
    exact ⟨by rw [HR.out]; rfl, 0, rfl⟩
set_option maxHeartbeats 400000 in
theorem Equal_any (A B : Option Addr) (n c m d : Nat) (xs ys : List Int) (w : World) (ha : RI w A n xs) (hb : RI w B m ys) (hn : n ≤ 2097152) (hm : m ≤ 2097152) :
    Calls Try.prog 45 #[.slice A n c, .slice B m d] w fun e w' => e = .returned (.bool (sameB xs ys)) ∧ ∃ j, w' = w.drewN j := by
  have hl := ha.len
  have hm' := hb.len
  by_cases h0 : n = m
  · subst h0
    have hne : ((n : Int) != n) = false := by simp
    go_enter Try.func45, Try.ntmps45
    go_wp2
    go_loopw [13] (fun i wr => ∃ k j : Nat, k ≤ n ∧ i = .int .i64 k ∧ wr = w.drewN j ∧ Hid (∀ q, q < k → gi xs q = gi ys q)) (fun i _ => n - (intOf i).toNat)
    case atStart => exact ⟨0, 0, Nat.zero_le _, rfl, rfl, Lib.hid fun q hq => absurd hq (by omega)⟩
    case round =>
      obtain ⟨k, j, hk, rfl, rfl, hq⟩ := hrel
      by_cases hlt : k < n
      · obtain ⟨b, o, rfl, hbB, e1⟩ := ha.at_ hlt
        obtain ⟨b', o', rfl, hbB', e2⟩ := hb.at_ hlt
        by_cases h1 : gi xs k = gi ys k
        · have H1 := Lib.hid h1
          rw [← h1] at e2
          clear h1
          have hnx : (gi xs k != gi xs k) = false := by simp
          generalize hX : gi xs k = X at *
          clear ha hb
          go_wp2_with fail
          go_quiet (fail)
          go_wp2
          go_roundw
          case rel => exact ⟨k + 1, _, by omega, by go_num, by first | rfl | exact World.drewN_drewN _ _ _, Lib.hid fun q hq' => by
            rcases Nat.lt_or_ge q k with h | h
            · exact hq.out q h
            · obtain rfl : q = k := by omega
              exact hX.trans H1.out⟩
          case measure => simp [intOf]; omega
        · have H1 := Lib.hid h1
          have hnx : (gi xs k != gi ys k) = true := by simpa using h1
          clear h1
          have HR : Hid (sameB xs ys = false) := Lib.hid (sameB_at H1.out)
          generalize gi xs k = X at *
          generalize gi ys k = Y at *
          clear ha hb
          go_wp2_with fail
          go_quiet (fail)
          go_wp2
          go_ret
          exact ⟨by rw [HR.out]; rfl, _, by first | rfl | exact World.drewN_drewN _ _ _⟩
      · obtain rfl : k = n := by omega
        have HR : Hid (sameB xs ys = true) := Lib.hid (sameB_all (by omega) fun q hq' => hq.out q (by omega))
        go_wp2
        go_ret
        exact ⟨by rw [HR.out]; rfl, _, rfl⟩
  · have h1 : ((n : Int) != m) = true := by simp; omega
    have HR : Hid (sameB xs ys = false) := Lib.hid (sameB_len (by omega))
    go_enter Try.func45, Try.ntmps45
    go_wp2
    go_ret
    exact ⟨by rw [HR.out]; rfl, 0, rfl⟩
set_option maxHeartbeats 400000 in
theorem siSmall_any (x y : Int) (Ag : Option Addr) (ng cg : Nat) (Ao : Option Addr) (no co : Nat) (gs : List G3) (os : List Int) (w : World) (hr : RG w Ag ng gs ∧ RI w Ao no os) (hng : ng ≤ 2097152) (hno : no ≤ 2097152) :
    Calls Try.prog 46 #[.agg #[.int .i64 x, .int .i64 y, .slice Ag ng cg, .slice Ao no co]] w fun e w' => e = .returned (.bool (smallB x y gs os 40)) ∧ Below w.heap.size w w' := by
  have hB : Below w.heap.size w (w.alloc (.cells #[.int .i64 x, .int .i64 y, .slice Ag ng cg, .slice Ao no co] 26)) := (Below.refl _ _).alloc (Nat.le_refl _) _
  cases h0 : circB x y gs os with
  | false =>
    have HR : Hid (smallB x y gs os 40 = false) := Lib.hid (by simp [smallB, h0])
    have H0 := Lib.hid h0; clear h0
    go_enter Try.func46, Try.ntmps46
    go_wp2_with fail
    refine (ciGood_any x y Ag ng cg Ao no co gs os _ (hr.1.below hB (Nat.le_refl _)) (hr.2.below hB (Nat.le_refl _)) hng hno).mono ?_
    rintro e v1 ⟨rfl, hb1⟩
    rw [H0.out]
    go_wp2
    go_ret
    exact ⟨by rw [HR.out]; rfl, hB.trans (hb1.mono hB.size)⟩
  | true =>
    obtain ⟨⟨b1, b2⟩, ⟨b3, b4⟩, _, b5, _, _⟩ := circB_bd h0
    have HR : Hid (smallB x y gs os 40 = decide (x + y ≤ 10)) := Lib.hid (by simp [smallB, h0, b5])
    have H0 := Lib.hid h0; clear h0 b5
    go_enter Try.func46, Try.ntmps46
    go_wp2_with fail
    refine (ciGood_any x y Ag ng cg Ao no co gs os _ (hr.1.below hB (Nat.le_refl _)) (hr.2.below hB (Nat.le_refl _)) hng hno).mono ?_
    rintro e v1 ⟨rfl, hb1⟩
    rw [H0.out]
    have hB1 := hB.trans (hb1.mono hB.size)
    obtain ⟨hc1, hf1⟩ := bcell hb1
    have hz1 := hb1.size
    simp only [World.size_alloc] at hz1
    have hz1' : w.heap.size < v1.heap.size := by omega
    go_wp2_with fail
    refine (ciInputs_any x y Ag ng cg Ao no co _ (by omega) (by omega)).mono ?_
    rintro e v2 ⟨rfl, hb2⟩
    go_wp2
    go_ret
    exact ⟨by rw [HR.out]; rfl, hB1.trans (hb2.mono hB1.size)⟩
set_option maxHeartbeats 400000 in
theorem isSmall_any (x y : Int) (Ag : Option Addr) (ng cg : Nat) (Ao : Option Addr) (no co : Nat) (gs : List G3) (os : List Int) (w : World) (hr : RG w Ag ng gs ∧ RI w Ao no os) (hng : ng ≤ 2097152) (hno : no ≤ 2097152) :
    Calls Try.prog 41 #[.agg #[.int .i64 x, .int .i64 y, .slice Ag ng cg, .slice Ao no co]] w fun e w' => e = .returned (.bool (smallB x y gs os 40)) ∧ Below w.heap.size w w' := by
  have hB : Below w.heap.size w (w.alloc (.cells #[.int .i64 x, .int .i64 y, .slice Ag ng cg, .slice Ao no co] 26)) := (Below.refl _ _).alloc (Nat.le_refl _) _
  cases h0 : circB x y gs os with
  | false =>
    have HR : Hid (smallB x y gs os 40 = false) := Lib.hid (by simp [smallB, h0])
    have H0 := Lib.hid h0; clear h0
    go_enter Try.func41, Try.ntmps41
    go_wp2_with fail
    refine (IsCircuit_any x y Ag ng cg Ao no co gs os _ (hr.1.below hB (Nat.le_refl _)) (hr.2.below hB (Nat.le_refl _)) hng hno).mono ?_
    rintro e v1 ⟨rfl, hb1⟩
    rw [H0.out]
    go_wp2
    go_ret
    exact ⟨by rw [HR.out]; rfl, hB.trans (hb1.mono hB.size)⟩
  | true =>
    obtain ⟨⟨b1, b2⟩, ⟨b3, b4⟩, _, b5, _, _⟩ := circB_bd h0
    have HR : Hid (smallB x y gs os 40 = decide (x + y ≤ 10)) := Lib.hid (by simp [smallB, h0, b5])
    have H0 := Lib.hid h0; clear h0 b5
    go_enter Try.func41, Try.ntmps41
    go_wp2_with fail
    refine (IsCircuit_any x y Ag ng cg Ao no co gs os _ (hr.1.below hB (Nat.le_refl _)) (hr.2.below hB (Nat.le_refl _)) hng hno).mono ?_
    rintro e v1 ⟨rfl, hb1⟩
    rw [H0.out]
    have hB1 := hB.trans (hb1.mono hB.size)
    obtain ⟨hc1, hf1⟩ := bcell hb1
    have hz1 := hb1.size
    simp only [World.size_alloc] at hz1
    have hz1' : w.heap.size < v1.heap.size := by omega
    go_wp2_with fail
    refine (Circuit_inputs_any x y Ag ng cg Ao no co _ (by omega) (by omega)).mono ?_
    rintro e v2 ⟨rfl, hb2⟩
    go_wp2
    go_ret
    exact ⟨by rw [HR.out]; rfl, hB1.trans (hb2.mono hB1.size)⟩
set_option maxHeartbeats 400000 in
theorem qInts_any (A B : Option Addr) (n c m d : Nat) (xs ys : List Int) (w : World) (ha : RI w A n xs) (hb : RI w B m ys) (hn : n ≤ 2097152) (hm : m ≤ 2097152) :
    Calls Try.prog 14 #[.slice A n c, .slice B m d] w fun e w' => e = .returned (.bool (sameB xs ys)) ∧ ∃ j, w' = w.drewN j := by
  have hl := ha.len
  have hm' := hb.len
  by_cases h0 : n = m
  · subst h0
    have hne : ((n : Int) != n) = false := by simp
    go_enter Try.func14, Try.ntmps14
    go_wp2
    go_loopw [13] (fun i wr => ∃ k j : Nat, k ≤ n ∧ i = .int .i64 k ∧ wr = w.drewN j ∧ Hid (∀ q, q < k → gi xs q = gi ys q)) (fun i _ => n - (intOf i).toNat)
    case atStart => exact ⟨0, 0, Nat.zero_le _, rfl, rfl, Lib.hid fun q hq => absurd hq (by omega)⟩
    case round =>
      obtain ⟨k, j, hk, rfl, rfl, hq⟩ := hrel
      by_cases hlt : k < n
      · obtain ⟨b, o, rfl, hbB, e1⟩ := ha.at_ hlt
        obtain ⟨b', o', rfl, hbB', e2⟩ := hb.at_ hlt
        by_cases h1 : gi xs k = gi ys k
        · have H1 := Lib.hid h1
          rw [← h1] at e2
          clear h1
          have hnx : (gi xs k != gi xs k) = false := by simp
          generalize hX : gi xs k = X at *
          clear ha hb
          go_wp2_with fail
          go_quiet (fail)
          go_wp2
          go_roundw
          case rel => exact ⟨k + 1, _, by omega, by go_num, by first | rfl | exact World.drewN_drewN _ _ _, Lib.hid fun q hq' => by
            rcases Nat.lt_or_ge q k with h | h
            · exact hq.out q h
            · obtain rfl : q = k := by omega
              exact hX.trans H1.out⟩
          case measure => simp [intOf]; omega
        · have H1 := Lib.hid h1
          have hnx : (gi xs k != gi ys k) = true := by simpa using h1
          clear h1
          have HR : Hid (sameB xs ys = false) := Lib.hid (sameB_at H1.out)
          generalize gi xs k = X at *
          generalize gi ys k = Y at *
          clear ha hb
          go_wp2_with fail
          go_quiet (fail)
          go_wp2
          go_ret
          exact ⟨by rw [HR.out]; rfl, _, by first | rfl | exact World.drewN_drewN _ _ _⟩
      · obtain rfl : k = n := by omega
        have HR : Hid (sameB xs ys = true) := Lib.hid (sameB_all (by omega) fun q hq' => hq.out q (by omega))
        go_wp2
        go_ret
        exact ⟨by rw [HR.out]; rfl, _, rfl⟩
  · have h1 : ((n : Int) != m) = true := by simp; omega
    have HR : Hid (sameB xs ys = false) := Lib.hid (sameB_len (by omega))
    go_enter Try.func14, Try.ntmps14
    go_wp2
    go_ret
    exact ⟨by rw [HR.out]; rfl, 0, rfl⟩
theorem gi_bd0 {lo hi : Int} {l : List Int} (h : allB lo hi l = true) (h0 : lo ≤ 0 ∧ 0 ≤ hi) (j : Nat) : lo ≤ gi l j ∧ gi l j ≤ hi := by
  rcases Nat.lt_or_ge j l.length with hj | hj
  · exact allB_gi h hj
  · unfold gi; rw [List.getD_eq_getElem?_getD, List.getElem?_eq_none hj]; exact h0
def cst (g : G3) (out : List Int) : Int :=
  if g.k = 3 then 1 else if g.k = 2 then (if 0 ≤ gi out g.a.toNat then 1 - gi out g.a.toNat else -1)
  else if g.k = 0 then (if g.a = g.b then 0 else if 0 ≤ gi out g.a.toNat ∧ 0 ≤ gi out g.b.toNat then bxor (gi out g.a.toNat) (gi out g.b.toNat) else -1)
  else (if gi out g.a.toNat = 0 ∨ gi out g.b.toNat = 0 then 0 else if gi out g.a.toNat = 1 ∧ gi out g.b.toNat = 1 then 1 else -1)
def csts (gs : List G3) (x : Nat) : Nat → List Int
  | 0 => List.replicate x (-1)
  | k + 1 => csts gs x k ++ [cst (gg gs k) (csts gs x k)]
theorem csts_len (gs : List G3) (x k : Nat) : (csts gs x k).length = x + k := by
  induction k with
  | zero => simp [csts]
  | succ k ih => simp [csts, ih]; omega
theorem csts_succ (gs : List G3) (x k : Nat) : csts gs x (k + 1) = csts gs x k ++ [cst (gg gs k) (csts gs x k)] := rfl
theorem cst_bd {g : G3} {out : List Int} (h : allB (-1) 1 out = true) : -1 ≤ cst g out ∧ cst g out ≤ 1 := by
  have ha := gi_bd0 h (by omega) g.a.toNat
  have hb := gi_bd0 h (by omega) g.b.toNat
  unfold cst
  split
  · omega
  · split
    · split <;> omega
    · split
      · split
        · omega
        · split
          · rename_i h1
            have := bxor_bd (a := gi out g.a.toNat) (b := gi out g.b.toNat) (by omega) (by omega)
            omega
          · omega
      · split
        · omega
        · split <;> omega
theorem csts_bd (gs : List G3) (x k : Nat) : allB (-1) 1 (csts gs x k) = true := by
  induction k with
  | zero => exact allB_iff.2 fun z hz => by have := List.eq_of_mem_replicate hz; omega
  | succ k ih => rw [csts_succ]; exact allB_snoc ih (cst_bd ih)
def mvG (f : Int → Int) (g : G3) : G3 := if g.k = 0 ∨ g.k = 1 then ⟨g.k, f g.a, f g.b⟩ else if g.k = 2 then ⟨g.k, f g.a, g.b⟩ else g
def BxG (w : World) (b : Nat) (k a c : Int) : Prop := w.cell? ⟨b, 0, none⟩ = some (.int .i64 k) ∧ w.cell? ⟨b, 1, none⟩ = some (.int .i64 a) ∧ w.cell? ⟨b, 2, none⟩ = some (.int .i64 c)
section
variable {w w' : World} {b : Nat} {k a c : Int}
theorem BxG.new (w : World) (T : TypeId) : BxG (w.alloc (.cells #[.int .i64 k, .int .i64 a, .int .i64 c] T)) w.heap.size k a c := ⟨box_cell w _ 0 _ rfl, box_cell w _ 1 _ rfl, box_cell w _ 2 _ rfl⟩
theorem BxG.below (h : BxG w b k a c) (hb : Below w.heap.size w w') : BxG w' b k a c := ⟨cell_bel h.1 hb, cell_bel h.2.1 hb, cell_bel h.2.2 hb⟩
theorem BxG.setA (h : BxG w b k a c) (v : Int) : BxG (w.setCell ⟨b, 1, none⟩ (.int .i64 v)) b k v c := ⟨(World.cell?_setCell_other _ _ _ _ (by simp)).trans h.1, World.cell?_setCell_same _ _ _ h.2.1, (World.cell?_setCell_other _ _ _ _ (by simp)).trans h.2.2⟩
theorem BxG.setB (h : BxG w b k a c) (v : Int) : BxG (w.setCell ⟨b, 2, none⟩ (.int .i64 v)) b k a v := ⟨(World.cell?_setCell_other _ _ _ _ (by simp)).trans h.1, (World.cell?_setCell_other _ _ _ _ (by simp)).trans h.2.1, World.cell?_setCell_same _ _ _ h.2.2⟩
theorem BxG.far (h : BxG w b k a c) (q : Addr) (v : Value) (hq : q.block ≠ b) : BxG (w.setCell q v) b k a c := by
  have hc : ∀ {r : Nat} {u : Value}, w.cell? ⟨b, r, none⟩ = some u → (w.setCell q v).cell? ⟨b, r, none⟩ = some u := fun {r u} hu => (World.cell?_setCell_other _ _ _ _ (fun he => hq (by rw [he]))).trans hu
  exact ⟨hc h.1, hc h.2.1, hc h.2.2⟩
theorem BxG.set3 {k0 a0 c0 : Int} (h : BxG w b k0 a0 c0) (k a c : Int) : BxG (((w.setCell ⟨b, 0, none⟩ (.int .i64 k)).setCell ⟨b, 1, none⟩ (.int .i64 a)).setCell ⟨b, 2, none⟩ (.int .i64 c)) b k a c := by
  have h1 : BxG (w.setCell ⟨b, 0, none⟩ (.int .i64 k)) b k a0 c0 := ⟨World.cell?_setCell_same _ _ _ h.1, (World.cell?_setCell_other _ _ _ _ (by simp)).trans h.2.1, (World.cell?_setCell_other _ _ _ _ (by simp)).trans h.2.2⟩
  exact (h1.setA a).setB c
theorem below_set3 {B : Nat} {a' : World} (h : Below B a' w) (hB : B ≤ b) (k a c : Int) : Below B a' (((w.setCell ⟨b, 0, none⟩ (.int .i64 k)).setCell ⟨b, 1, none⟩ (.int .i64 a)).setCell ⟨b, 2, none⟩ (.int .i64 c)) :=
  ((h.setCell (p := ⟨b, 0, none⟩) hB _).setCell (p := ⟨b, 1, none⟩) hB _).setCell (p := ⟨b, 2, none⟩) hB _
end
set_option maxRecDepth 100000 in
set_option maxHeartbeats 1600000 in
theorem moved_any (f : FuncId) (hcf : ∀ args w, Sem.run Try.prog (callFunc f args) w = .ok (.enter f args) w) (cap : Array Value) (to : Int → Int) (g : G3) (n : Int) (w : World) (hg : GateIs g n)
    (hf : Hid (∀ z, 0 ≤ z → z < n → ∀ w1, Below w.heap.size w w1 → Calls Try.prog f (#[.int .i64 z] ++ cap) w1 fun e w' => e = .returned (.int .i64 (to z)) ∧ Below w1.heap.size w1 w')) :
    Calls Try.prog 24 #[.agg #[.int .i64 g.k, .int .i64 g.a, .int .i64 g.b], .func (.func f) #[] cap] w fun e w' => e = .returned (.agg #[.int .i64 (mvG to g).k, .int .i64 (mvG to g).a, .int .i64 (mvG to g).b]) ∧ Below w.heap.size w w' := by
  obtain ⟨gk, ga, gb⟩ := g
  have hB1 : Below w.heap.size w (w.alloc (.cells #[.int .i64 gk, .int .i64 ga, .int .i64 gb] 41)) := (Below.refl _ _).alloc (Nat.le_refl _) _
  have hB : Below w.heap.size w ((w.alloc (.cells #[.int .i64 gk, .int .i64 ga, .int .i64 gb] 41)).alloc (.cells #[.int .i64 0, .int .i64 0, .int .i64 0] 41)) := hB1.alloc (by simp) _
  have hx0 : BxG ((w.alloc (.cells #[.int .i64 gk, .int .i64 ga, .int .i64 gb] 41)).alloc (.cells #[.int .i64 0, .int .i64 0, .int .i64 0] 41)) w.heap.size gk ga gb := (BxG.new w _).below ((Below.refl _ _).alloc (Nat.le_refl _) _)
  have hr0 : BxG ((w.alloc (.cells #[.int .i64 gk, .int .i64 ga, .int .i64 gb] 41)).alloc (.cells #[.int .i64 0, .int .i64 0, .int .i64 0] 41)) (w.heap.size + 1) 0 0 0 := by simpa using BxG.new (k := 0) (a := 0) (c := 0) (w.alloc (.cells #[.int .i64 gk, .int .i64 ga, .int .i64 gb] 41)) 41
  have f0 : Fz ((w.alloc (.cells #[.int .i64 gk, .int .i64 ga, .int .i64 gb] 41)).alloc (.cells #[.int .i64 0, .int .i64 0, .int .i64 0] 41)) (w.heap.size + 1) := by simpa using Fz.new (w.alloc (.cells #[.int .i64 gk, .int .i64 ga, .int .i64 gb] 41)) #[.int .i64 0, .int .i64 0, .int .i64 0] 41
  have e0 : Fz ((w.alloc (.cells #[.int .i64 gk, .int .i64 ga, .int .i64 gb] 41)).alloc (.cells #[.int .i64 0, .int .i64 0, .int .i64 0] 41)) w.heap.size := (Fz.new w _ _).below ((Below.refl _ _).alloc (Nat.le_refl _) _) (by simp)
  cases hg with
  | not_ hk a0 a1 b0 =>
    dsimp only at hk a0 a1 b0
    subst hk
    subst b0
    have hR : Hid (mvG to ⟨2, ga, 0⟩ = ⟨2, to ga, 0⟩) := Lib.hid (by simp [mvG])
    have hfa := Lib.hid (hf.out ga a0 a1)
    go_enter Try.func24, Try.ntmps24
    have hq := hx0; obtain ⟨k0, k1, k2⟩ := hq
    go_wp2_with fail
    refine (hfa.out _ hB).mono ?_
    rintro e v1 ⟨rfl, hb1⟩
    have hx1 := hx0.below hb1
    have hr1 := hr0.below hb1
    have f1 := f0.below hb1 (by simp)
    have e1 := e0.below hb1 (by simp; omega)
    have hB2 := hB.trans (hb1.mono hB.size)
    have hz1 := hb1.size
    simp only [World.size_alloc] at hz1
    have hB3 := hB2.setCell (p := ⟨w.heap.size, 1, none⟩) (by show w.heap.size ≤ w.heap.size; omega) (.int .i64 (to ga))
    have hx2 := hx1.setA (to ga)
    have hr2 := hr1.far ⟨w.heap.size, 1, none⟩ (.int .i64 (to ga)) (by simp)
    clear k0 k1 k2
    obtain ⟨k0, k1, k2⟩ := hx1
    obtain ⟨m0, m1, m2⟩ := hx2
    have hq := hr1; obtain ⟨r0, r1, r2⟩ := hq
    have hq := hr2; obtain ⟨s0, s1, s2⟩ := hq
    have g0 := f1 0; have g1 := f1 1; have g2 := f1 2; have g3 := e1 1
    go_wp2
    have hq9 := hr2.set3 2 (to ga) 0
    obtain ⟨q0, q1, q2⟩ := hq9
    refine bodyPost_ret (v := .agg #[.int .i64 2, .int .i64 (to ga), .int .i64 0]) (by simp [results, Try.results24, go_sem, q0, q1, q2]) rfl ?_
    exact ⟨by rw [hR.out], below_set3 hB3 (by omega) _ _ _⟩
  | one_ hk a0 b0 =>
    dsimp only at hk a0 b0
    subst hk
    subst a0
    subst b0
    have hR : Hid (mvG to ⟨3, 0, 0⟩ = ⟨3, 0, 0⟩) := Lib.hid (by simp [mvG])
    go_enter Try.func24, Try.ntmps24
    have hq := hx0; obtain ⟨k0, k1, k2⟩ := hq
    have hq := hr0; obtain ⟨r0, r1, r2⟩ := hq
    have g0 := f0 0; have g1 := f0 1; have g2 := f0 2
    go_wp2
    refine bodyPost_ret (v := .agg #[.int .i64 3, .int .i64 0, .int .i64 0]) (by simp [results, Try.results24, go_sem]) rfl ?_
    exact ⟨by rw [hR.out], hB1.alloc (by simp) _⟩
  | xor_ hk a0 a1 b0 b1 =>
    dsimp only at hk a0 a1 b0 b1
    subst hk
    have hR : Hid (mvG to ⟨0, ga, gb⟩ = ⟨0, to ga, to gb⟩) := Lib.hid (by simp [mvG])
    have hfa := Lib.hid (hf.out ga a0 a1)
    have hfb := Lib.hid (hf.out gb b0 b1)
    have hbd := below_drewN hB 1
    have hbw := below_drewN (Below.refl ((w.alloc (.cells #[.int .i64 0, .int .i64 ga, .int .i64 gb] 41)).alloc (.cells #[.int .i64 0, .int .i64 0, .int .i64 0] 41)).heap.size ((w.alloc (.cells #[.int .i64 0, .int .i64 ga, .int .i64 gb] 41)).alloc (.cells #[.int .i64 0, .int .i64 0, .int .i64 0] 41))) 1
    go_enter Try.func24, Try.ntmps24
    have hq := hx0; obtain ⟨k0, k1, k2⟩ := hq
    go_wp2_with fail
    go_region_law (first | (go_simp; refine (hfa.out _ hbd).mono ?_; rintro e v1 ⟨rfl, hb1⟩; have hx1 := hx0.below (hbw.trans (hb1.mono (Nat.le_refl _))); have hq1 := hx1; obtain ⟨m0, m1, m2⟩ := hq1) | (go_simp; refine (hfb.out _ (hbd.trans (hb1.mono hbd.size))).mono ?_; rintro e v2 ⟨rfl, hb2⟩; have hB2 := (hbd.trans (hb1.mono hbd.size)).trans (hb2.mono (Nat.le_trans hbd.size hb1.size)); have hbv := (hbw.trans (hb1.mono (Nat.le_refl _))).trans (hb2.mono hb1.size); have hx2 := hx0.below hbv; have hq2 := hx2; obtain ⟨n0, n1, n2⟩ := hq2; have e2 := e0.below hbv (by simp; omega); have e21 := e2 1; have e22 := e2 2))
    all_goals
      have hz2 := hB2.size
      have hB3 := (hB2.setCell (p := ⟨w.heap.size, 1, none⟩) (by show w.heap.size ≤ w.heap.size; omega) (.int .i64 (to ga))).setCell (p := ⟨w.heap.size, 2, none⟩) (by show w.heap.size ≤ w.heap.size; omega) (.int .i64 (to gb))
      have hx3 := (hx2.setA (to ga)).setB (to gb)
      have hr2 := ((hr0.below hbv).far ⟨w.heap.size, 1, none⟩ (.int .i64 (to ga)) (by simp)).far ⟨w.heap.size, 2, none⟩ (.int .i64 (to gb)) (by simp)
      have f2 := f0.below hbv (by simp)
      obtain ⟨p0, p1, p2⟩ := hx3
      have hq := hr2; obtain ⟨s0, s1, s2⟩ := hq
      have g0 := f2 0; have g1 := f2 1; have g2 := f2 2
      go_wp2
      have hq9 := hr2.set3 0 (to ga) (to gb)
      obtain ⟨q0, q1, q2⟩ := hq9
      refine bodyPost_ret (v := .agg #[.int .i64 0, .int .i64 (to ga), .int .i64 (to gb)]) (by simp [results, Try.results24, go_sem, q0, q1, q2]) rfl ?_
      exact ⟨by rw [hR.out], below_set3 hB3 (by omega) _ _ _⟩
  | and_ hk a0 a1 b0 b1 =>
    dsimp only at hk a0 a1 b0 b1
    subst hk
    have hR : Hid (mvG to ⟨1, ga, gb⟩ = ⟨1, to ga, to gb⟩) := Lib.hid (by simp [mvG])
    have hfa := Lib.hid (hf.out ga a0 a1)
    have hfb := Lib.hid (hf.out gb b0 b1)
    have hbd := below_drewN hB 1
    have hbw := below_drewN (Below.refl ((w.alloc (.cells #[.int .i64 1, .int .i64 ga, .int .i64 gb] 41)).alloc (.cells #[.int .i64 0, .int .i64 0, .int .i64 0] 41)).heap.size ((w.alloc (.cells #[.int .i64 1, .int .i64 ga, .int .i64 gb] 41)).alloc (.cells #[.int .i64 0, .int .i64 0, .int .i64 0] 41))) 1
    go_enter Try.func24, Try.ntmps24
    have hq := hx0; obtain ⟨k0, k1, k2⟩ := hq
    go_wp2_with fail
    go_region_law (first | (go_simp; refine (hfa.out _ hbd).mono ?_; rintro e v1 ⟨rfl, hb1⟩; have hx1 := hx0.below (hbw.trans (hb1.mono (Nat.le_refl _))); have hq1 := hx1; obtain ⟨m0, m1, m2⟩ := hq1) | (go_simp; refine (hfb.out _ (hbd.trans (hb1.mono hbd.size))).mono ?_; rintro e v2 ⟨rfl, hb2⟩; have hB2 := (hbd.trans (hb1.mono hbd.size)).trans (hb2.mono (Nat.le_trans hbd.size hb1.size)); have hbv := (hbw.trans (hb1.mono (Nat.le_refl _))).trans (hb2.mono hb1.size); have hx2 := hx0.below hbv; have hq2 := hx2; obtain ⟨n0, n1, n2⟩ := hq2; have e2 := e0.below hbv (by simp; omega); have e21 := e2 1; have e22 := e2 2))
    all_goals
      have hz2 := hB2.size
      have hB3 := (hB2.setCell (p := ⟨w.heap.size, 1, none⟩) (by show w.heap.size ≤ w.heap.size; omega) (.int .i64 (to ga))).setCell (p := ⟨w.heap.size, 2, none⟩) (by show w.heap.size ≤ w.heap.size; omega) (.int .i64 (to gb))
      have hx3 := (hx2.setA (to ga)).setB (to gb)
      have hr2 := ((hr0.below hbv).far ⟨w.heap.size, 1, none⟩ (.int .i64 (to ga)) (by simp)).far ⟨w.heap.size, 2, none⟩ (.int .i64 (to gb)) (by simp)
      have f2 := f0.below hbv (by simp)
      obtain ⟨p0, p1, p2⟩ := hx3
      have hq := hr2; obtain ⟨s0, s1, s2⟩ := hq
      have g0 := f2 0; have g1 := f2 1; have g2 := f2 2
      go_wp2
      have hq9 := hr2.set3 1 (to ga) (to gb)
      obtain ⟨q0, q1, q2⟩ := hq9
      refine bodyPost_ret (v := .agg #[.int .i64 1, .int .i64 (to ga), .int .i64 (to gb)]) (by simp [results, Try.results24, go_sem, q0, q1, q2]) rfl ?_
      exact ⟨by rw [hR.out], below_set3 hB3 (by omega) _ _ _⟩
end Go.Proofs.Ytcdhmcpocohbpaa
