/- Contracts of the laws' own words for networks: size, conversion, comparison. Lengths below 2^21. -/
import Derived.Test.YtjeojnfpeppclaaQR06
namespace Go.Proofs.Ytjeojnfpeppclaa
open Go.RowKit
set_option linter.unusedVariables false
set_option linter.unusedSimpArgs false
structure Sp where
 l : Int
 h : Int
def ss (ls : List Sp) (j : Nat) : Sp := ls.getD j ⟨0, 0⟩
theorem ss_lt {ls : List Sp} {j : Nat} (h : j < ls.length) : ss ls j = ls[j] := by simp [ss, h]
def RS (w : World) (A : Option Addr) (n : Nat) (ls : List Sp) : Prop :=
 ls.length = n ∧ (0 < n → ∃ b o, A = some ⟨b, o, none⟩ ∧ b < w.heap.size ∧ ∀ j, j < n →
  w.cell? ⟨b, o + j * 2, none⟩ = some (.int .i64 (ss ls j).l) ∧ w.cell? ⟨b, o + j * 2 + 1, none⟩ = some (.int .i64 (ss ls j).h))
theorem RS.len {w : World} {A : Option Addr} {n : Nat} {ls : List Sp} (h : RS w A n ls) : ls.length = n := h.1
theorem RS.at_ {w : World} {A : Option Addr} {n : Nat} {ls : List Sp} {k : Nat} (h : RS w A n ls) (hk : k < n) :
 ∃ b o, A = some ⟨b, o, none⟩ ∧ b < w.heap.size ∧ w.cell? ⟨b, o + k * 2, none⟩ = some (.int .i64 (ss ls k).l) ∧ w.cell? ⟨b, o + k * 2 + 1, none⟩ = some (.int .i64 (ss ls k).h) := by
 obtain ⟨b, o, hA, hb, hc⟩ := h.2 (by omega)
 exact ⟨b, o, hA, hb, hc k hk⟩
theorem RS.below {w w' : World} {A : Option Addr} {n : Nat} {ls : List Sp} (h : RS w A n ls) {B : Nat} (hb : Below B w w') (hB : w.heap.size ≤ B) : RS w' A n ls :=
 ⟨h.1, fun hn => by
  obtain ⟨b, o, hA, hlt, hc⟩ := h.2 hn
  have hc' : ∀ q, w'.cell? ⟨b, q, none⟩ = w.cell? ⟨b, q, none⟩ := fun q => hb.cell (p := ⟨b, q, none⟩) (by exact Nat.lt_of_lt_of_le hlt hB)
  refine ⟨b, o, hA, Nat.lt_of_lt_of_le hlt hb.size, fun j hj => ?_⟩
  rw [hc', hc']; exact hc j hj⟩
def badS (n : Int) (s : Sp) : Bool := decide (s.l < 0) || (decide (s.h ≤ s.l) || decide (n ≤ s.h))
def anyBad (n : Int) (ls : List Sp) : Bool := ls.any (badS n)
def netB (n : Int) (ls : List Sp) : Bool := inB 1 12 n && (decide (ls.length ≤ 60) && !(anyBad n ls))
theorem anyBad_none {n : Int} {ls : List Sp} (h : ∀ j, j < ls.length → badS n (ss ls j) = false) : anyBad n ls = false := by
 rw [anyBad, List.any_eq_false]
 intro x hx
 obtain ⟨j, hj, rfl⟩ := List.getElem_of_mem hx
 have := h j hj
 rw [ss_lt hj] at this
 simpa using this
theorem Zcb {n : Int} {ls : List Sp} {j : Nat} (hj : j < ls.length) (h : badS n (ss ls j) = true) : anyBad n ls = true := by
 rw [anyBad, List.any_eq_true]
 exact ⟨ls[j], List.getElem_mem hj, by rwa [ss_lt hj] at h⟩
theorem ok_at {n : Int} {ls : List Sp} (h : anyBad n ls = false) {j : Nat} (hj : j < ls.length) : 0 ≤ (ss ls j).l ∧ (ss ls j).l < (ss ls j).h ∧ (ss ls j).h < n := by
 have h1 := List.any_eq_false.1 h ls[j] (List.getElem_mem hj)
 rw [ss_lt hj]
 simp only [badS, Bool.or_eq_true, decide_eq_true_eq, not_or, Int.not_lt, Int.not_le] at h1
 exact ⟨h1.1, h1.2.1, h1.2.2⟩
theorem bad_snoc {n : Int} {ls : List Sp} {k : Nat} (h : ∀ j, j < k → badS n (ss ls j) = false) (hk : badS n (ss ls k) = false) : ∀ j, j < k + 1 → badS n (ss ls j) = false := fun j hj => by
 rcases Nat.lt_or_ge j k with h1 | h1
 ·exact h j h1
 ·obtain rfl : j = k := by omega
  exact hk
def stepN (X : Int) (W : Nat) (s : List G3 × List (List Int)) (p : Sp) : List G3 × List (List Int) :=
 ((chs X (chs X (subS X s.1 (gl s.2 p.l.toNat) (gl s.2 p.h.toNat) W).g (subS X s.1 (gl s.2 p.l.toNat) (gl s.2 p.h.toNat) W).c (gl s.2 p.l.toNat) (gl s.2 p.h.toNat) W).g (subS X s.1 (gl s.2 p.l.toNat) (gl s.2 p.h.toNat) W).c (gl s.2 p.h.toNat) (gl s.2 p.l.toNat) W).g,
  (s.2.set p.l.toNat (chs X (subS X s.1 (gl s.2 p.l.toNat) (gl s.2 p.h.toNat) W).g (subS X s.1 (gl s.2 p.l.toNat) (gl s.2 p.h.toNat) W).c (gl s.2 p.l.toNat) (gl s.2 p.h.toNat) W).o).set p.h.toNat
   (chs X (chs X (subS X s.1 (gl s.2 p.l.toNat) (gl s.2 p.h.toNat) W).g (subS X s.1 (gl s.2 p.l.toNat) (gl s.2 p.h.toNat) W).c (gl s.2 p.l.toNat) (gl s.2 p.h.toNat) W).g (subS X s.1 (gl s.2 p.l.toNat) (gl s.2 p.h.toNat) W).c (gl s.2 p.h.toNat) (gl s.2 p.l.toNat) W).o)
def linesN (N W : Nat) : List (List Int) := (List.range N).map fun i : Nat => spn ((i : Int) * W) W
theorem Zbv (N W : Nat) : (linesN N W).length = N := by simp [linesN]
theorem linesN_snoc (N W : Nat) : linesN (N + 1) W = linesN N W ++ [spn ((N : Int) * W) W] := by simp [linesN, List.range_succ]
def netN (X : Int) (W : Nat) (L : List (List Int)) (ls : List Sp) : Nat → List G3 × List (List Int)
 | 0 => ([], L)
 | k + 1 => stepN X W (netN X W L ls k) (ss ls k)
theorem gl_set {L : List (List Int)} {i j : Nat} (u : List Int) (hi : i < L.length) : gl (L.set i u) j = if i = j then u else gl L j := by
 unfold gl
 rw [List.getD_eq_getElem?_getD, List.getD_eq_getElem?_getD, List.getElem?_set]
 split
 ·rename_i h; subst h; simp [hi]
 ·rfl
structure NtOk (N W k : Nat) (s : List G3 × List (List Int)) : Prop where
 le : s.1.length ≤ 12 * W * k
 len : s.2.length = N
 row : ∀ j, j < N → (gl s.2 j).length = W
theorem stepN_ok {X : Int} {N W k : Nat} {s : List G3 × List (List Int)} {p : Sp} (h : NtOk N W k s) (h0 : 0 ≤ p.l) (h1 : p.l < p.h) (h2 : p.h < N) : NtOk N W (k + 1) (stepN X W s p) := by
 have hg1 := subS_g X s.1 (gl s.2 p.l.toNat) (gl s.2 p.h.toNat) W
 have hg2 := chs_g X (subS X s.1 (gl s.2 p.l.toNat) (gl s.2 p.h.toNat) W).g (subS X s.1 (gl s.2 p.l.toNat) (gl s.2 p.h.toNat) W).c (gl s.2 p.l.toNat) (gl s.2 p.h.toNat) W
 have hg3 := chs_g X (chs X (subS X s.1 (gl s.2 p.l.toNat) (gl s.2 p.h.toNat) W).g (subS X s.1 (gl s.2 p.l.toNat) (gl s.2 p.h.toNat) W).c (gl s.2 p.l.toNat) (gl s.2 p.h.toNat) W).g (subS X s.1 (gl s.2 p.l.toNat) (gl s.2 p.h.toNat) W).c (gl s.2 p.h.toNat) (gl s.2 p.l.toNat) W
 have hle := h.le
 have hlen := h.len
 refine ⟨?_, ?_, fun j hj => ?_⟩
 ·show (chs X _ _ _ _ W).g.length ≤ _
  rw [Nat.mul_succ]; omega
 ·show ((s.2.set _ _).set _ _).length = N
  simp [hlen]
 ·show (gl ((s.2.set _ _).set _ _) j).length = W
  rw [gl_set _ (by simp; omega), gl_set _ (by omega)]
  split
  ·exact chs_o _ _ _ _ _ _
  ·split
   ·exact chs_o _ _ _ _ _ _
   ·exact h.row j hj
theorem netN_ok {X : Int} {N W : Nat} {L : List (List Int)} {ls : List Sp} (hL : L.length = N) (hr : ∀ j, j < N → (gl L j).length = W) (hb : anyBad N ls = false) : ∀ k, k ≤ ls.length → NtOk N W k (netN X W L ls k) := by
 intro k
 induction k with
 | zero => intro _; exact ⟨by simp [netN], hL, hr⟩
 | succ k ih =>
  intro hk
  have := ok_at hb (j := k) (by omega)
  exact stepN_ok (ih (by omega)) this.1 this.2.1 this.2.2
theorem linesN_row {N W j : Nat} (h : j < N) : (gl (linesN N W) j).length = W := by
 unfold gl linesN; simp [h, spn_len]
def netF (n : Int) (ls : List Sp) (w : Int) : Option Ci :=
 if netB n ls && (inB 1 4 w && decide (n * w ≤ 20)) then
  (if circB (n * w) 0 (netN (n * w + 0) w.toNat (linesN n.toNat w.toNat) ls ls.length).1 (netN (n * w + 0) w.toNat (linesN n.toNat w.toNat) ls ls.length).2.flatten then
   some ⟨n * w, 0, (netN (n * w + 0) w.toNat (linesN n.toNat w.toNat) ls ls.length).1, (netN (n * w + 0) w.toNat (linesN n.toNat w.toNat) ls ls.length).2.flatten⟩ else none) else none
theorem IsNetwork_1_any (B : Nat) (n : Int) (s : Sp) (w : World) (hc : w.cell? ⟨B, 0, none⟩ = some (.int .i64 n)) :
 Calls Try.prog 57 #[.agg #[.int .i64 s.l, .int .i64 s.h], .pointer (some ⟨B, 0, none⟩)] w fun e w' => e = .returned (.bool (badS n s)) ∧ Below w.heap.size w w' := by
 obtain ⟨sl, sh⟩ := s
 have hB : Below w.heap.size w (w.alloc (.cells #[.int .i64 sl, .int .i64 sh] 54)) := bA
 have hlt := World.block_lt_of_cell? w _ hc
 have hc1 := (hB.cell (p := ⟨B, 0, none⟩) hlt).trans hc
 by_cases h1 : sl < 0
 ·have HR : Hid (badS n ⟨sl, sh⟩ = true) := zH (by simp [badS, h1])
  go_enter Try.func57, Try.ntmps57
  go_wp2
  go_ret
  exact ⟨by rw [HR.out]; rfl, hB⟩
 ·by_cases h2 : sh ≤ sl
  ·have HR : Hid (badS n ⟨sl, sh⟩ = true) := zH (by simp [badS, h2])
   go_enter Try.func57, Try.ntmps57
   go_wp2
   go_ret
   exact ⟨by rw [HR.out]; rfl, hB⟩
  ·by_cases h3 : n ≤ sh
   ·have HR : Hid (badS n ⟨sl, sh⟩ = true) := zH (by simp [badS, h3])
    go_enter Try.func57, Try.ntmps57
    go_wp2
    go_ret
    exact ⟨by rw [HR.out]; rfl, hB⟩
   ·have HR : Hid (badS n ⟨sl, sh⟩ = false) := zH (by simp [badS, h1, h2, h3])
    go_enter Try.func57, Try.ntmps57
    go_wp2
    go_ret
    exact ⟨by rw [HR.out]; rfl, hB⟩
set_option maxHeartbeats 800000 in
theorem IndexFuncS_any (f : FuncId) (hcf : ∀ args w, Sem.run Try.prog (callFunc f args) w = .ok (.enter f args) w) (cap : Array Value) (m : Int) (A : Option Addr) (n c : Nat) (ls : List Sp) (w : World) (ha : RS w A n ls) (hn : n ≤ 2097152)
 (hf : Hid (∀ g w1, Below w.heap.size w w1 → Calls Try.prog f (#[.agg #[.int .i64 g.l, .int .i64 g.h]] ++ cap) w1 fun e w' => e = .returned (.bool (badS m g)) ∧ Below w1.heap.size w1 w')) :
 Calls Try.prog 80 #[.slice A n c, .func (.func f) #[] cap] w fun e w' => (∃ i : Int, e = .returned (.int .i64 i) ∧ (0 ≤ i → anyBad m ls = true) ∧ (¬ 0 ≤ i → anyBad m ls = false)) ∧ Below w.heap.size w w' := by
 have hl := ha.len
 go_enter Try.func80, Try.ntmps80
 go_wp2
 go_loopw [8] (fun v wr => ∃ k : Nat, k ≤ n ∧ v = .int .i64 k ∧ Hid (∀ j, j < k → badS m (ss ls j) = false) ∧ Below w.heap.size w wr) (fun v _ => n - (intOf v).toNat)
 case atStart => exact ⟨0, Nat.zero_le _, rfl, zH (fun j hj => by omega), Below.refl _ _⟩
 case round =>
  obtain ⟨k, hk, rfl, hno, hb⟩ := hrel
  by_cases hlt : k < n
  ·obtain ⟨b, o, rfl, hbB, c1, c2⟩ := (ha.below hb lR).at_ hlt
   clear ha
   cases hd : badS m (ss ls k) with
   | true =>
    have HQ := zH hd; clear hd
    go_wp2_with fail
    refine (hf.out (ss ls k) _ hb).mono ?_
    rintro e w1 ⟨rfl, hb1⟩
    rw [HQ.out]
    go_wp2
    go_ret
    exact ⟨⟨k, rfl, fun _ => Zcb (by omega) HQ.out, fun h => (by omega : False).elim⟩, hb.trans (hb1.mono hb.size)⟩
   | false =>
    have HQ := zH hd; clear hd
    go_wp2_with fail
    refine (hf.out (ss ls k) _ hb).mono ?_
    rintro e w1 ⟨rfl, hb1⟩
    rw [HQ.out]
    go_wp2
    go_roundw
    case rel => exact ⟨k + 1, by omega, by go_num, zH (bad_snoc hno.out HQ.out), hb.trans (hb1.mono hb.size)⟩
    case measure => simp [intOf]; omega
  ·obtain rfl : n = k := Nat.le_antisymm (Nat.le_of_not_lt hlt) hk
   have HR : Hid (anyBad m ls = false) := zH (anyBad_none (fun j hj => hno.out j (by omega)))
   go_wp2
   go_ret
   exact ⟨⟨-1, rfl, fun h => (by omega : False).elim, fun _ => HR.out⟩, hb⟩
theorem ContainsFuncS_any (f : FuncId) (hcf : ∀ args w, Sem.run Try.prog (callFunc f args) w = .ok (.enter f args) w) (cap : Array Value) (m : Int) (A : Option Addr) (n c : Nat) (ls : List Sp) (w : World) (ha : RS w A n ls) (hn : n ≤ 2097152)
 (hf : Hid (∀ g w1, Below w.heap.size w w1 → Calls Try.prog f (#[.agg #[.int .i64 g.l, .int .i64 g.h]] ++ cap) w1 fun e w' => e = .returned (.bool (badS m g)) ∧ Below w1.heap.size w1 w')) :
 Calls Try.prog 56 #[.slice A n c, .func (.func f) #[] cap] w fun e w' => e = .returned (.bool (anyBad m ls)) ∧ Below w.heap.size w w' := by
 go_enter Try.func56, Try.ntmps56
 go_wp2_with fail
 refine (IndexFuncS_any f hcf cap m A n c ls _ ha hn hf).mono ?_
 rintro e w1 ⟨⟨i, rfl, h1, h2⟩, hb1⟩
 by_cases hi : 0 ≤ i
 ·have HR := zH (h1 hi)
  clear h1 h2
  go_wp2
  go_ret
  exact ⟨by rw [HR.out]; rfl, hb1⟩
 ·have HR := zH (h2 hi)
  clear h1 h2
  go_wp2
  go_ret
  exact ⟨by rw [HR.out]; show Ending.returned (.bool (decide (0 ≤ i))) = _; rw [decide_eq_false (by omega)], hb1⟩
set_option maxHeartbeats 800000 in
theorem Zag (n : Int) (A : Option Addr) (m c : Nat) (ls : List Sp) (w : World) (ha : RS w A m ls) (hm : m ≤ 2097152) :
 Calls Try.prog 30 #[.int .i64 n, .slice A m c] w fun e w' => e = .returned (.bool (netB n ls)) ∧ Below w.heap.size w w' := by
 have hl := ha.len
 have hB : Below w.heap.size w (w.alloc (.cells #[.int .i64 n] 3)) := bA
 have hc := Zaa w #[.int .i64 n] (T := 3) 0 (.int .i64 n) rfl
 cases h1 : inB 1 12 n with
 | false =>
  have HR : Hid (netB n ls = false) := zH (by simp [netB, h1])
  go_enter Try.func30, Try.ntmps30
  go_wp2_with fail
  refine (Zac n 1 12 _ h1 _).mono ?_
  rintro e w1 ⟨rfl, rfl⟩
  go_wp2
  go_ret
  exact ⟨by rw [HR.out]; rfl, hB⟩
 | true =>
  by_cases h2 : m ≤ 60
  ·have HR : Hid (netB n ls = !(anyBad n ls)) := zH (by simp [netB, h1, hl, h2])
   have h2' : (m : Int) ≤ 60 := by omega
   go_enter Try.func30, Try.ntmps30
   go_wp2_with fail
   refine (Zac n 1 12 _ h1 _).mono ?_
   rintro e w1 ⟨rfl, rfl⟩
   go_wp2_with fail
   refine (ContainsFuncS_any 57 Try.call57 #[.pointer (some ⟨w.heap.size, 0, none⟩)] n A m c ls _ (ha.below hB lR) hm (zH fun g w1 hb1 => IsNetwork_1_any w.heap.size n g w1 (cell_bel hc hb1))).mono ?_
   rintro e w2 ⟨rfl, hb2⟩
   go_wp2
   go_ret
   exact ⟨by rw [HR.out]; rfl, hB.trans (hb2.mono hB.size)⟩
  ·have HR : Hid (netB n ls = false) := zH (by simp [netB, hl, h2])
   have h2' : ¬ (m : Int) ≤ 60 := by omega
   go_enter Try.func30, Try.ntmps30
   go_wp2_with fail
   refine (Zac n 1 12 _ h1 _).mono ?_
   rintro e w1 ⟨rfl, rfl⟩
   go_wp2
   go_ret
   exact ⟨by rw [HR.out]; rfl, hB⟩
set_option maxHeartbeats 800000 in
theorem Zaz (n : Int) (A : Option Addr) (m c : Nat) (ls : List Sp) (w : World) (ha : RS w A m ls) (hm : m ≤ 2097152) :
 Calls Try.prog 33 #[.int .i64 n, .slice A m c] w fun e w' => e = .returned (.bool (netB n ls)) ∧ Below w.heap.size w w' := by
 have hl := ha.len
 go_enter Try.func33, Try.ntmps33
 go_wp2
 go_loopw [9] (fun v wr => ∃ k : Nat, k ≤ m ∧ v = .int .i64 k ∧ Hid (∀ j, j < k → badS n (ss ls j) = false) ∧ Below w.heap.size w wr) (fun v _ => m - (intOf v).toNat)
 case atStart => exact ⟨0, Nat.zero_le _, rfl, zH (fun j hj => by omega), Below.refl _ _⟩
 case round =>
  obtain ⟨k, hk, rfl, hno, hb⟩ := hrel
  by_cases hlt : k < m
  ·obtain ⟨b, o, rfl, hbB, c1, c2⟩ := (ha.below hb lR).at_ hlt
   clear ha
   have hbA := hb.alloc hb.size (.cells #[.int .i64 (ss ls k).l, .int .i64 (ss ls k).h] 54)
   obtain ⟨s, hs⟩ : ∃ s, s = ss ls k := ⟨_, rfl⟩
   rw [← hs] at c1 c2 hbA
   have HS := zH hs.symm; clear hs
   obtain ⟨sl, sh⟩ := s
   dsimp only at c1 c2 hbA
   by_cases h1 : sl < 0
   ·have HB : badS n ⟨sl, sh⟩ = true := by simp [badS, h1]
    have HR : Hid (netB n ls = false) := zH (by unfold netB; rw [Zcb (j := k) (by omega) (by rw [HS.out]; exact HB)]; simp)
    clear HB
    go_wp2
    go_ret
    exact ⟨by rw [HR.out]; rfl, hbA⟩
   ·by_cases h2 : sh ≤ sl
    ·have HB : badS n ⟨sl, sh⟩ = true := by simp [badS, h2]
     have HR : Hid (netB n ls = false) := zH (by unfold netB; rw [Zcb (j := k) (by omega) (by rw [HS.out]; exact HB)]; simp)
     clear HB
     go_wp2
     go_ret
     exact ⟨by rw [HR.out]; rfl, hbA⟩
    ·by_cases h3 : n ≤ sh
     ·have HB : badS n ⟨sl, sh⟩ = true := by simp [badS, h3]
      have HR : Hid (netB n ls = false) := zH (by unfold netB; rw [Zcb (j := k) (by omega) (by rw [HS.out]; exact HB)]; simp)
      clear HB
      go_wp2
      go_ret
      exact ⟨by rw [HR.out]; rfl, hbA⟩
     ·have HN : Hid (∀ j, j < k + 1 → badS n (ss ls j) = false) := zH (bad_snoc hno.out (by rw [HS.out]; simp [badS, h1, h2, h3]))
      go_wp2
      go_roundw
      case rel => exact ⟨k + 1, by omega, by go_num, HN, hbA⟩
      case measure => simp [intOf]; omega
  ·obtain rfl : m = k := Nat.le_antisymm (Nat.le_of_not_lt hlt) hk
   have HA := anyBad_none (n := n) (ls := ls) (fun j hj => hno.out j (by omega))
   cases h1 : inB 1 12 n with
   | false =>
    have HR : Hid (netB n ls = false) := zH (by simp [netB, h1])
    clear HA
    go_wp2_with fail
    refine (Zad n 1 12 _ h1 _).mono ?_
    rintro e w1 ⟨rfl, rfl⟩
    go_wp2
    go_ret
    exact ⟨by rw [HR.out]; rfl, hb⟩
   | true =>
    by_cases h2 : m ≤ 60
    ·have HR : Hid (netB n ls = true) := zH (by simp [netB, h1, hl, h2, HA])
     have h2' : (m : Int) ≤ 60 := by omega
     clear HA
     go_wp2_with fail
     refine (Zad n 1 12 _ h1 _).mono ?_
     rintro e w1 ⟨rfl, rfl⟩
     go_wp2
     go_ret
     exact ⟨by rw [HR.out]; rfl, hb⟩
    ·have HR : Hid (netB n ls = false) := zH (by simp [netB, hl, h2])
     have h2' : ¬ (m : Int) ≤ 60 := by omega
     clear HA
     go_wp2_with fail
     refine (Zad n 1 12 _ h1 _).mono ?_
     rintro e w1 ⟨rfl, rfl⟩
     go_wp2
     go_ret
     exact ⟨by rw [HR.out]; show Ending.returned (.bool (decide ((m : Int) ≤ 60))) = _; rw [decide_eq_false (by omega)], hb⟩
def pcells (ls : List Sp) : List Value := ls.flatMap fun s => [.int .i64 s.l, .int .i64 s.h]
theorem pcells_len (ls : List Sp) : (pcells ls).length = ls.length * 2 := by
 induction ls with
 | nil => rfl
 | cons g gs ih => simp only [pcells, List.flatMap_cons, List.length_append, List.length_cons, List.length_nil] at ih ⊢; rw [ih]; omega
theorem pcells_at (ls : List Sp) : ∀ j, j < ls.length → (pcells ls)[j * 2]? = some (.int .i64 (ss ls j).l) ∧ (pcells ls)[j * 2 + 1]? = some (.int .i64 (ss ls j).h) := by
 induction ls with
 | nil => intro j hj; simp at hj
 | cons g gs ih =>
  intro j hj
  cases j with
  | zero => exact ⟨rfl, rfl⟩
  | succ j =>
   have := ih j (by simpa using hj)
   have hc : pcells (g :: gs) = Value.int .i64 g.l :: .int .i64 g.h :: pcells gs := rfl
   have hgg : ss (g :: gs) (j + 1) = ss gs j := rfl
   rw [hc, hgg, show (j + 1) * 2 = j * 2 + 1 + 1 from by omega]
   simpa using this
def OwnS (w : World) (lo hi : Nat) (v : Value) (n : Nat) (ls : List Sp) : Prop :=
 w.ownsRow lo 54 2 v n (pcells ls) ∧ ∀ g, v.ownBlock = some g → g < hi
theorem OwnS.len {w : World} {lo hi n : Nat} {v : Value} {xs : List Sp} (h : OwnS w lo hi v n xs) : xs.length = n := by
 have := h.1.1; rw [pcells_len] at this; omega
theorem OwnS.lt {w : World} {lo hi n : Nat} {v : Value} {xs : List Sp} (h : OwnS w lo hi v n xs) : ∀ g, v.ownBlock = some g → lo ≤ g ∧ g < hi ∧ g < w.heap.size :=
 fun g hg => ⟨(h.1.lt g hg).1, h.2 g hg, (h.1.lt g hg).2⟩
theorem OwnS.below {w w' : World} {lo hi n : Nat} {v : Value} {xs : List Sp} {B : Nat} (h : OwnS w lo hi v n xs) (hb : Below B w w') (hB : w.heap.size ≤ B ∨ hi ≤ B) : OwnS w' lo hi v n xs := by
 refine ⟨⟨h.1.1, ?_⟩, h.2⟩
 rcases h.1.2 with h1 | ⟨g, cap, cur, rfl, hlo, hg, r⟩
 ·exact .inl h1
 ·refine .inr ⟨g, cap, cur, rfl, hlo, ?_, r⟩
  have := h.lt g (by simp [Value.ownBlock])
  rw [hb.block g (by omega)]; exact hg
theorem OwnS.reads {w : World} {lo hi n c : Nat} {A : Option Addr} {xs : List Sp} (h : OwnS w lo hi (.slice A n c) n xs) : RS w A n xs := by
 refine ⟨h.len, fun hn => ?_⟩
 obtain ⟨g, cap, hv, _, hlt⟩ := h.1.form hn
 simp only [Value.slice.injEq, true_and] at hv
 obtain ⟨rfl, rfl⟩ := hv
 refine ⟨g, 0, rfl, hlt, fun j hj => ?_⟩
 have hl := h.len
 obtain ⟨q1, q2⟩ := pcells_at xs j (by omega)
 simp only [Nat.zero_add]
 exact ⟨(h.1.cellAt _ (by omega)).trans q1, (h.1.cellAt _ (by omega)).trans q2⟩
end Go.Proofs.Ytjeojnfpeppclaa
