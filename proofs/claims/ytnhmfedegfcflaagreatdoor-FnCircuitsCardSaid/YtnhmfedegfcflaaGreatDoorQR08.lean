/- Slices of strings in memory; contracts of the library's SplitN, Index at strings and Atoi as the readers use them. Texts below 2^21 bytes. -/
import Derived.Lib.AtoiAll
import Derived.Lib.Split
import Derived.Lib.IndexMore
import Derived.Test.YtnhmfedegfcflaaGreatDoorQR07
import Derived.Shelf.Strconv.ErrVarAll
import Derived.Shelf.Strings.SplitShaped
import Derived.Shelf.Slices.Turned
import Derived.Lib.SlicesS
namespace Go.Proofs.YtnhmfedegfcflaaGreatDoor
open Go.RowKit
set_option linter.unusedVariables false
set_option linter.unusedSimpArgs false
def splitS (c : UInt8) : List UInt8 → List (List UInt8)
 | [] => [[]]
 | b :: l => if b = c then [] :: splitS c l else ((b :: (splitS c l).headD []) :: (splitS c l).tail)
theorem splitS_ne (c : UInt8) (l : List UInt8) : splitS c l ≠ [] := by
 cases l with
 | nil => simp [splitS]
 | cons b l => simp only [splitS]; split <;> simp
theorem splitS_none {c : UInt8} {p : List UInt8} (h : c ∉ p) : splitS c p = [p] := by
 induction p with
 | nil => rfl
 | cons b p ih =>
  have h1 : ¬ b = c := fun e => h (by rw [e]; exact List.mem_cons_self ..)
  have h2 := ih fun hm => h (List.mem_cons_of_mem _ hm)
  simp [splitS, h1, h2]
theorem splitS_hit {c : UInt8} {p r : List UInt8} (h : c ∉ p) : splitS c (p ++ c :: r) = p :: splitS c r := by
 induction p with
 | nil => simp [splitS]
 | cons b p ih =>
  have h1 : ¬ b = c := fun e => h (by rw [e]; exact List.mem_cons_self ..)
  have h2 := ih fun hm => h (List.mem_cons_of_mem _ hm)
  simp [splitS, h1, h2]
theorem Zcp (c : UInt8) (l : List UInt8) : (splitS c l).length ≤ l.length + 1 := by
 induction l with
 | nil => simp [splitS]
 | cons b l ih =>
  simp only [splitS]
  split
  ·simp only [List.length_cons]; omega
  ·have := List.length_pos_iff.2 (splitS_ne c l)
   simp only [List.length_cons, List.length_tail]; omega
theorem index_hit {c : UInt8} {p r : List UInt8} (h : c ∉ p) : Lib.index (p ++ c :: r) [c] = (p.length : Int) := by
 induction p with
 | nil => simp [Lib.index]
 | cons b p ih =>
  have h1 : ¬ c = b := fun e => h (by rw [e]; exact List.mem_cons_self ..)
  have h2 := ih fun hm => h (List.mem_cons_of_mem _ hm)
  have h3 : ((p.length : Int) == -1) = false := by simp
  simp [Lib.index, h1, h2, h3]
theorem index_miss {c : UInt8} {p : List UInt8} (h : c ∉ p) : Lib.index p [c] = -1 := by
 induction p with
 | nil => rfl
 | cons b p ih =>
  have h1 : ¬ c = b := fun e => h (by rw [e]; exact List.mem_cons_self ..)
  have h2 := ih fun hm => h (List.mem_cons_of_mem _ hm)
  simp [Lib.index, h1, h2]
theorem splitK_none {c : UInt8} {p : List UInt8} (h : c ∉ p) (k : Nat) : Lib.splitK [c] 0 k p = [p] := by
 cases k with
 | zero => rfl
 | succ k => simp [Lib.splitK, index_miss h]
theorem splitK_hit {c : UInt8} {p r : List UInt8} (h : c ∉ p) (k : Nat) : Lib.splitK [c] 0 (k + 1) (p ++ c :: r) = p :: Lib.splitK [c] 0 k r := by
 have h1 := index_hit (r := r) h
 have h3 : ((p.length : Int) == -1) = false := by simp
 simp [Lib.splitK, h1, h3]
def joinL (c : UInt8) (L : List (List UInt8)) : List UInt8 := L.flatMap fun l => l ++ [c]
theorem splitS_join {c : UInt8} {L : List (List UInt8)} (h : ∀ l ∈ L, c ∉ l) : splitS c (joinL c L) = L ++ [[]] := by
 induction L with
 | nil => rfl
 | cons l L ih =>
  have h1 := ih fun x hx => h x (List.mem_cons_of_mem _ hx)
  have h2 : joinL c (l :: L) = l ++ c :: joinL c L := by simp [joinL]
  rw [h2, splitS_hit (h l (List.mem_cons_self ..)), h1]; rfl
theorem splitK_join {c : UInt8} {L : List (List UInt8)} (h : ∀ l ∈ L, c ∉ l) : ∀ k, L.length ≤ k → Lib.splitK [c] 0 k (joinL c L) = L ++ [[]] := by
 induction L with
 | nil => intro k _; rw [show joinL c [] = [] from rfl, splitK_none (by simp)]; rfl
 | cons l L ih =>
  intro k hk
  cases k with
  | zero => simp at hk
  | succ k =>
   have h1 := ih (fun x hx => h x (List.mem_cons_of_mem _ hx)) k (by simpa using hk)
   have h2 : joinL c (l :: L) = l ++ c :: joinL c L := by simp [joinL]
   rw [h2, splitK_hit (h l (List.mem_cons_self ..)), h1]; rfl
def wordsL (c : UInt8) (wd : List UInt8) (L : List (List UInt8)) : List UInt8 := wd ++ L.flatMap fun l => c :: l
theorem wordsL_cons (c : UInt8) (wd l : List UInt8) (L : List (List UInt8)) : wordsL c wd (l :: L) = wd ++ c :: wordsL c l L := by simp [wordsL]
theorem splitS_words {c : UInt8} {L : List (List UInt8)} : ∀ {wd : List UInt8}, c ∉ wd → (∀ l ∈ L, c ∉ l) → splitS c (wordsL c wd L) = wd :: L := by
 induction L with
 | nil => intro wd hw _; rw [show wordsL c wd [] = wd by simp [wordsL]]; exact splitS_none hw
 | cons l L ih =>
  intro wd hw h
  rw [wordsL_cons, splitS_hit hw, ih (h l (List.mem_cons_self ..)) fun x hx => h x (List.mem_cons_of_mem _ hx)]
theorem splitK_words {c : UInt8} {L : List (List UInt8)} : ∀ {wd : List UInt8} (k : Nat), L.length ≤ k → c ∉ wd → (∀ l ∈ L, c ∉ l) → Lib.splitK [c] 0 k (wordsL c wd L) = wd :: L := by
 induction L with
 | nil => intro wd k _ hw _; rw [show wordsL c wd [] = wd by simp [wordsL]]; exact splitK_none hw k
 | cons l L ih =>
  intro wd k hk hw h
  cases k with
  | zero => simp at hk
  | succ k => rw [wordsL_cons, splitK_hit hw, ih k (by simpa using hk) (h l (List.mem_cons_self ..)) fun x hx => h x (List.mem_cons_of_mem _ hx)]
def atoiV (l : List UInt8) : Int :=
 match Lib.atoiAll l with
 | .ok v => v
 | .range => Lib.atoiSat l
 | _ => 0
def digF (acc : Int) : List UInt8 → Option Int
 | [] => some acc
 | c :: r => if c.toNat < 48 ∨ 57 < c.toNat then none else digF (10 * acc + ((c.toNat : Int) - 48)) r
def readS (l : List UInt8) : Int :=
 if ¬ (1 ≤ l.length ∧ l.length ≤ 6) ∨ (l.head? = some 48 ∧ 1 < l.length) then -1 else (digF 0 l).getD (-1)
def dig3 (n : Nat) : List UInt8 :=
 if n < 10 then [UInt8.ofNat (48 + n)] else if n < 100 then [UInt8.ofNat (48 + n / 10), UInt8.ofNat (48 + n % 10)] else [UInt8.ofNat (48 + n / 100), UInt8.ofNat (48 + n / 10 % 10), UInt8.ofNat (48 + n % 10)]
theorem itoa_dig3 {n : Nat} (h : n < 1000) : Lib.itoa (n : Int) = dig3 n := by
 rw [Lib.itoa_nonneg]
 unfold dig3
 split
 ·rename_i h1; exact Lib.decDigits_one h1
 ·split
  ·rename_i h1 h2; exact Lib.decDigits_two h1 h2
  ·rename_i h1 h2
   rw [Lib.decDigits, dif_neg h1, Lib.decDigits_two (by omega) (by omega), Nat.div_div_eq_div_mul]; rfl
theorem dig3_all : ∀ n : Fin 1000, atoiV (dig3 n.val) = (n.val : Int) ∧ readS (dig3 n.val) = (n.val : Int) ∧ (10 : UInt8) ∉ dig3 n.val ∧ (32 : UInt8) ∉ dig3 n.val := by decide +kernel
theorem Zcf {n : Int} (h0 : 0 ≤ n) (h1 : n < 1000) : atoiV (Lib.itoa n) = n ∧ readS (Lib.itoa n) = n ∧ (10 : UInt8) ∉ Lib.itoa n ∧ (32 : UInt8) ∉ Lib.itoa n := by
 obtain ⟨m, rfl⟩ := Int.eq_ofNat_of_zero_le h0
 have h := dig3_all ⟨m, by omega⟩
 have e := itoa_dig3 (n := m) (by omega)
 rw [e]
 exact h
def pcs (n : Nat) (c : UInt8) (l : List UInt8) : List (List UInt8) := Lib.splitK [c] 0 (min n (l.length + 1) - 1) l
def kindW (wd : List UInt8) : Int := if wd = gwL 0 then 0 else if wd = gwL 1 then 1 else if wd = gwL 2 then 2 else if wd = gwL 3 then 3 else -1
def cirW : List UInt8 := [99, 105, 114, 99, 117, 105, 116]
def outW : List UInt8 := [111, 117, 116, 115]
def stepI (c : Ci) (ws : List (List UInt8)) : Ci :=
 if ws.headD [] = cirW then { c with i0 := gi (ws.tail.map atoiV ++ [0, 0]) 0, i1 := gi (ws.tail.map atoiV ++ [0, 0]) 1 }
 else if ws.headD [] = outW then { c with os := ws.tail.map atoiV }
 else if 0 ≤ kindW (ws.headD []) then { c with gs := c.gs ++ [⟨kindW (ws.headD []), gi (ws.tail.map atoiV ++ [0, 0]) 0, gi (ws.tail.map atoiV ++ [0, 0]) 1⟩] }
 else c
def stepS (c : Ci) (ws : List (List UInt8)) : Ci :=
 if ws.headD [] = cirW ∧ ws.length = 3 then { c with i0 := readS (ws.getD 1 []), i1 := readS (ws.getD 2 []) }
 else if ws.headD [] = outW then { c with os := c.os ++ ws.tail.map readS }
 else if (0 ≤ kindW (ws.headD []) ∧ kindW (ws.headD []) ≤ 1) ∧ ws.length = 3 then { c with gs := c.gs ++ [⟨kindW (ws.headD []), readS (ws.getD 1 []), readS (ws.getD 2 [])⟩] }
 else if kindW (ws.headD []) = 2 ∧ ws.length = 2 then { c with gs := c.gs ++ [⟨2, readS (ws.getD 1 []), 0⟩] }
 else if kindW (ws.headD []) = 3 then { c with gs := c.gs ++ [⟨3, 0, 0⟩] }
 else c
def parseI (s : List UInt8) : Ci := (pcs 304 10 s).foldl (fun c l => stepI c (pcs 42 32 l)) ⟨0, 0, [], []⟩
def parseS (s : List UInt8) : Ci := (splitS 10 s).foldl (fun c l => stepS c (splitS 32 l)) ⟨0, 0, [], []⟩
def ansC (c : Ci) (s : List UInt8) : Option Ci := if circB c.i0 c.i1 c.gs c.os = true ∧ circT c.i0 c.i1 c.gs c.os = s then some c else none
def smallK (ns : List Int) : Prop := ∀ n ∈ ns, 0 ≤ n ∧ n < 1000
theorem numsL_words (wd : List UInt8) (ns : List Int) : wd ++ numsL ns = wordsL 32 wd (ns.map Lib.itoa) := by simp [numsL, wordsL, List.flatMap_map]
theorem wordsL_len (c : UInt8) (wd : List UInt8) (L : List (List UInt8)) : L.length ≤ (wordsL c wd L).length := by
 induction L generalizing wd with
 | nil => simp
 | cons l L ih =>
  have := ih l
  rw [wordsL_cons]; simp only [List.length_append, List.length_cons]; omega
theorem joinL_len (c : UInt8) (L : List (List UInt8)) : L.length ≤ (joinL c L).length := by
 induction L with
 | nil => simp
 | cons l L ih => simp only [joinL, List.flatMap_cons, List.length_append, List.length_cons, List.length_nil] at ih ⊢; omega
theorem words_back {wd : List UInt8} {ns : List Int} (h32 : (32 : UInt8) ∉ wd) (hs : smallK ns) :
 splitS 32 (wd ++ numsL ns) = wd :: ns.map Lib.itoa ∧ (ns.length ≤ 41 → pcs 42 32 (wd ++ numsL ns) = wd :: ns.map Lib.itoa) := by
 have h : ∀ l ∈ ns.map Lib.itoa, (32 : UInt8) ∉ l := fun l hl => by
  obtain ⟨n, hn, rfl⟩ := List.mem_map.1 hl
  exact (Zcf (hs n hn).1 (hs n hn).2).2.2.2
 rw [numsL_words]
 refine ⟨splitS_words h32 h, fun hl => splitK_words _ ?_ h32 h⟩
 have := wordsL_len 32 wd (ns.map Lib.itoa)
 rw [List.length_map] at this ⊢
 omega
theorem map_atoi {ns : List Int} (hs : smallK ns) : (ns.map Lib.itoa).map atoiV = ns := by
 rw [List.map_map]
 refine (List.map_congr_left fun n hn => ?_).trans (List.map_id _)
 exact (Zcf (hs n hn).1 (hs n hn).2).1
theorem map_read {ns : List Int} (hs : smallK ns) : (ns.map Lib.itoa).map readS = ns := by
 rw [List.map_map]
 refine (List.map_congr_left fun n hn => ?_).trans (List.map_id _)
 exact (Zcf (hs n hn).1 (hs n hn).2).2.1
theorem no10 {wd : List UInt8} {ns : List Int} (h10 : (10 : UInt8) ∉ wd) (hs : smallK ns) : (10 : UInt8) ∉ wd ++ numsL ns := by
 intro h
 rcases List.mem_append.1 h with h | h
 ·exact h10 h
 ·simp only [numsL, List.mem_flatMap, List.mem_cons] at h
  obtain ⟨n, hn, h | h⟩ := h
  ·simp at h
  ·exact (Zcf (hs n hn).1 (hs n hn).2).2.2.1 h
def circL (c : Ci) : List (List UInt8) := (cirW ++ numsL [c.i0, c.i1]) :: (c.gs.map fun g => gwL g.k.toNat ++ numsL (prtT g)) ++ [outW ++ numsL c.os]
theorem circT_lines (c : Ci) : circT c.i0 c.i1 c.gs c.os = joinL 10 (circL c) := by
 have h : ∀ gs : List G3, gatesT gs = joinL 10 (gs.map fun g => gwL g.k.toNat ++ numsL (prtT g)) := fun gs => by
  induction gs with
  | nil => rfl
  | cons g gs ih =>
   have e : gatesT (g :: gs) = gateT g ++ gatesT gs := by simp [gatesT]
   rw [e, ih]; simp [joinL, gateT, lineL]
 simp only [circT, h, circL, cirW, outW]
 simp [joinL, lineL]
theorem gw_no (k : Nat) : (10 : UInt8) ∉ gwL k ∧ (32 : UInt8) ∉ gwL k := by unfold gwL; split <;> decide
structure GK (g : G3) : Prop where
 k : 0 ≤ g.k ∧ g.k ≤ 3
 a : 0 ≤ g.a ∧ g.a < 1000
 b : 0 ≤ g.b ∧ g.b < 1000
 n : g.k = 2 → g.b = 0
 o : g.k = 3 → g.a = 0 ∧ g.b = 0
theorem GK.of_is {g : G3} {n : Int} (h : GateIs g n) (hn : n ≤ 1000) : GK g := by
 cases h with
 | xor_ hk a0 a1 b0 b1 => exact ⟨by omega, by omega, by omega, fun h => by omega, fun h => by omega⟩
 | and_ hk a0 a1 b0 b1 => exact ⟨by omega, by omega, by omega, fun h => by omega, fun h => by omega⟩
 | not_ hk a0 a1 b0 => exact ⟨by omega, by omega, by omega, fun h => b0, fun h => by omega⟩
 | one_ hk a0 b0 => exact ⟨by omega, by omega, by omega, fun h => by omega, fun h => ⟨a0, b0⟩⟩
theorem GK.prt {g : G3} (h : GK g) : smallK (prtT g) := by
 intro n hn
 have := h.a; have := h.b
 unfold prtT at hn
 split at hn
 ·simp only [List.mem_cons, List.not_mem_nil, or_false] at hn; subst hn; omega
 ·split at hn
  ·simp at hn
  ·simp only [List.mem_cons, List.not_mem_nil, or_false] at hn; rcases hn with rfl | rfl <;> omega
theorem gate_back {g : G3} (h : GK g) (c : Ci) : stepI c (pcs 42 32 (gwL g.k.toNat ++ numsL (prtT g))) = { c with gs := c.gs ++ [g] } ∧ stepS c (splitS 32 (gwL g.k.toNat ++ numsL (prtT g))) = { c with gs := c.gs ++ [g] } := by
 have hb := words_back (gw_no g.k.toNat).2 h.prt
 have hl : (prtT g).length ≤ 41 := by have := prtT_len g; omega
 rw [hb.1, hb.2 hl]
 have ra := Zcf h.a.1 h.a.2
 have rb := Zcf h.b.1 h.b.2
 obtain ⟨gk, ga, gb⟩ := g
 have hk := h.k
 have hn := h.n
 have ho := h.o
 dsimp only at hk hn ho ra rb
 have hk4 : gk = 0 ∨ gk = 1 ∨ gk = 2 ∨ gk = 3 := by omega
 have e0 : kindW (gwL 0) = 0 := by decide
 have e1 : kindW (gwL 1) = 1 := by decide
 have e2 : kindW (gwL 2) = 2 := by decide
 have e3 : kindW (gwL 3) = 3 := by decide
 have f0 : ¬ gwL 0 = cirW := by decide
 have f1 : ¬ gwL 1 = cirW := by decide
 have f2 : ¬ gwL 2 = cirW := by decide
 have f3 : ¬ gwL 3 = cirW := by decide
 have k0 : ¬ gwL 0 = outW := by decide
 have k1 : ¬ gwL 1 = outW := by decide
 have k2 : ¬ gwL 2 = outW := by decide
 have k3 : ¬ gwL 3 = outW := by decide
 rcases hk4 with rfl | rfl | rfl | rfl
 ·simp [stepI, stepS, prtT, e0, f0, k0, ra.1, rb.1, ra.2.1, rb.2.1, gi]
 ·simp [stepI, stepS, prtT, e1, f1, k1, ra.1, rb.1, ra.2.1, rb.2.1, gi]
 ·have := hn rfl; subst this
  simp [stepI, stepS, prtT, e2, f2, k2, ra.1, ra.2.1, gi]
 ·obtain ⟨rfl, rfl⟩ := ho rfl
  simp [stepI, stepS, prtT, e3, f3, k3, gi]
theorem gates_back {gs : List G3} (h : ∀ g ∈ gs, GK g) : ∀ c : Ci, (gs.map fun g => gwL g.k.toNat ++ numsL (prtT g)).foldl (fun c l => stepI c (pcs 42 32 l)) c = { c with gs := c.gs ++ gs } ∧ (gs.map fun g => gwL g.k.toNat ++ numsL (prtT g)).foldl (fun c l => stepS c (splitS 32 l)) c = { c with gs := c.gs ++ gs } := by
 induction gs with
 | nil => intro c; simp
 | cons g gs ih =>
  intro c
  have h1 := gate_back (h g (List.mem_cons_self ..)) c
  have h2 := ih (fun x hx => h x (List.mem_cons_of_mem _ hx)) { c with gs := c.gs ++ [g] }
  simp only [List.map_cons, List.foldl_cons]
  rw [h1.1, h1.2, h2.1, h2.2]
  simp
theorem circB_gk {c : Ci} (h : circB c.i0 c.i1 c.gs c.os = true) : ∀ g ∈ c.gs, GK g := fun g hg => by
 have hb := Zao h
 obtain ⟨k, hk, rfl⟩ := List.mem_iff_getElem.1 hg
 have := Zbx hb.2.2.2.2.1 hk
 have e : gg c.gs k = c.gs[k] := by simp [gg, List.getElem?_eq_getElem hk]
 rw [e] at this
 exact .of_is this (by omega)
theorem read_back {c : Ci} (h : circB c.i0 c.i1 c.gs c.os = true) : parseI (circT c.i0 c.i1 c.gs c.os) = c ∧ parseS (circT c.i0 c.i1 c.gs c.os) = c := by
 have hb := Zao h
 have hgk := circB_gk h
 have hos : smallK c.os := fun n hn => by
  have := allB_iff.1 hb.2.2.2.2.2 n hn
  omega
 have hxy : smallK [c.i0, c.i1] := fun n hn => by
  simp only [List.mem_cons, List.not_mem_nil, or_false] at hn
  rcases hn with rfl | rfl <;> omega
 have hno : ∀ l ∈ circL c, (10 : UInt8) ∉ l := fun l hl => by
  simp only [circL, List.mem_append, List.mem_cons, List.mem_map, List.not_mem_nil, or_false] at hl
  rcases hl with (rfl | ⟨g, hg, rfl⟩) | rfl
  ·exact no10 (by decide) hxy
  ·exact no10 (gw_no _).1 (hgk g hg).prt
  ·exact no10 (by decide) hos
 have hlen : (circL c).length ≤ 303 := by simp [circL]; omega
 have w1 := words_back (wd := cirW) (by decide) hxy
 have w2 := words_back (wd := outW) (by decide) hos
 have e1 : pcs 304 10 (circT c.i0 c.i1 c.gs c.os) = circL c ++ [[]] := by
  rw [circT_lines]
  have := joinL_len 10 (circL c)
  exact splitK_join hno _ (by omega)
 have e2 : splitS 10 (circT c.i0 c.i1 c.gs c.os) = circL c ++ [[]] := by
  rw [circT_lines]; exact splitS_join hno
 have ra := Zcf (n := c.i0) hb.1.1 (by omega)
 have rb := Zcf (n := c.i1) hb.2.1.1 (by omega)
 have fo : ¬ outW = cirW := by decide
 have n0 : ¬ ([] : List UInt8) = cirW := by decide
 have n1 : ¬ ([] : List UInt8) = outW := by decide
 have n2 : kindW [] = -1 := by decide
 have s1 : ∀ c : Ci, stepI c (pcs 42 32 []) = c := fun c => by
  have : pcs 42 32 [] = [[]] := by decide
  rw [this]; simp [stepI, n0, n1, n2]
 have s2 : ∀ c : Ci, stepS c (splitS 32 []) = c := fun c => by
  have : splitS 32 [] = [[]] := rfl
  rw [this]; simp [stepS, n0, n1, n2]
 have a1 : ∀ c0 : Ci, stepI c0 (pcs 42 32 (cirW ++ numsL [c.i0, c.i1])) = { c0 with i0 := c.i0, i1 := c.i1 } := fun c0 => by
  rw [w1.2 (by simp)]; simp [stepI, ra.1, rb.1, gi]
 have a2 : ∀ c0 : Ci, stepS c0 (splitS 32 (cirW ++ numsL [c.i0, c.i1])) = { c0 with i0 := c.i0, i1 := c.i1 } := fun c0 => by
  rw [w1.1]; simp [stepS, ra.2.1, rb.2.1]
 have b1 : ∀ c0 : Ci, stepI c0 (pcs 42 32 (outW ++ numsL c.os)) = { c0 with os := c.os } := fun c0 => by
  rw [w2.2 (by omega)]; simp only [stepI, List.headD_cons, List.tail_cons, fo, if_false, if_true, map_atoi hos]
 have b2 : ∀ c0 : Ci, stepS c0 (splitS 32 (outW ++ numsL c.os)) = { c0 with os := c0.os ++ c.os } := fun c0 => by
  rw [w2.1]; simp only [stepS, List.headD_cons, List.tail_cons, fo, false_and, if_false, if_true, map_read hos]
 unfold parseI parseS
 rw [e1, e2]
 simp only [circL, List.cons_append, List.append_assoc, List.foldl_cons, List.foldl_append, List.foldl_nil, List.nil_append]
 rw [a1, a2, (gates_back hgk _).1, (gates_back hgk _).2, b1, b2, s1, s2]
 simp
theorem ans_same (s : List UInt8) : ansC (parseI s) s = ansC (parseS s) s := by
 by_cases h : circB (parseI s).i0 (parseI s).i1 (parseI s).gs (parseI s).os = true ∧ circT (parseI s).i0 (parseI s).i1 (parseI s).gs (parseI s).os = s
 ·have hr := read_back h.1
  rw [h.2] at hr
  rw [hr.2]
 ·by_cases k : circB (parseS s).i0 (parseS s).i1 (parseS s).gs (parseS s).os = true ∧ circT (parseS s).i0 (parseS s).i1 (parseS s).gs (parseS s).os = s
  ·have hr := read_back k.1
   rw [k.2] at hr
   rw [hr.1]
  ·simp only [ansC, if_neg h, if_neg k]
end Go.Proofs.YtnhmfedegfcflaaGreatDoor
namespace Go.Proofs
open Go.Shelf
def Tryz.laysC172_ren : Go.Shelf.Ren := ⟨fun | 172 => 89 | 244 => 100 | 245 => 101 | 247 => 108 | 279 => 109 | 280 => 110 | 281 => 111 | 282 => 112 | 287 => 119 | 316 => 120 | 171 => 92 | 205 => 121 | 321 => 128 | 322 => 129 | 243 => 103 | 246 => 113 | 283 => 122 | 284 => 123 | 285 => 124 | 286 => 125 | 129 => 131 | 317 => 130 | 318 => 132 | 319 => 133 | 320 => 134 | 337 => 135 | 338 => 136 | n => n, fun | 9 => 9 | 3 => 3 | 75 => 98 | 76 => 99 | 4 => 4 | 5 => 5 | 167 => 114 | 37 => 22 | 0 => 0 | 85 => 115 | 2 => 2 | 168 => 117 | 53 => 57 | 175 => 121 | 46 => 71 | 210 => 125 | 127 => 141 | 145 => 144 | 143 => 142 | 21 => 21 | 171 => 127 | 173 => 130 | 212 => 146 | 51 => 136 | 20 => 20 | 213 => 147 | 232 => 150 | 233 => 151 | 80 => 152 | n => n, fun | 15 => 2 | 16 => 3 | 17 => 6 | 18 => 7 | 19 => 8 | n => n⟩
theorem Tryz.laysC172 : Go.Proofs.LaysC.n172 Tryz.prog Tryz.laysC172_ren := {
 mixed := by kernel_rfl
 f129 := Tryz.func131.trans (congrArg some (by kernel_rfl))
 f171 := Tryz.func92.trans (congrArg some (by kernel_rfl))
 f172 := Tryz.func89.trans (congrArg some (by kernel_rfl))
 f205 := Tryz.func121.trans (congrArg some (by kernel_rfl))
 f243 := Tryz.func103.trans (congrArg some (by kernel_rfl))
 f244 := Tryz.func100.trans (congrArg some (by kernel_rfl))
 f245 := Tryz.func101.trans (congrArg some (by kernel_rfl))
 f246 := Tryz.func113.trans (congrArg some (by kernel_rfl))
 f247 := Tryz.func108.trans (congrArg some (by kernel_rfl))
 f279 := Tryz.func109.trans (congrArg some (by kernel_rfl))
 f280 := Tryz.func110.trans (congrArg some (by kernel_rfl))
 f281 := Tryz.func111.trans (congrArg some (by kernel_rfl))
 f282 := Tryz.func112.trans (congrArg some (by kernel_rfl))
 f283 := Tryz.func122.trans (congrArg some (by kernel_rfl))
 f284 := Tryz.func123.trans (congrArg some (by kernel_rfl))
 f285 := Tryz.func124.trans (congrArg some (by kernel_rfl))
 f286 := Tryz.func125.trans (congrArg some (by kernel_rfl))
 f287 := Tryz.func119.trans (congrArg some (by kernel_rfl))
 f316 := Tryz.func120.trans (congrArg some (by kernel_rfl))
 f317 := Tryz.func130.trans (congrArg some (by kernel_rfl))
 f318 := Tryz.func132.trans (congrArg some (by kernel_rfl))
 f319 := Tryz.func133.trans (congrArg some (by kernel_rfl))
 f320 := Tryz.func134.trans (congrArg some (by kernel_rfl))
 f321 := Tryz.func128.trans (congrArg some (by kernel_rfl))
 f322 := Tryz.func129.trans (congrArg some (by kernel_rfl))
 f337 := Tryz.func135.trans (congrArg some (by kernel_rfl))
 f338 := Tryz.func136.trans (congrArg some (by kernel_rfl))
 t0 := Tryz.underlying0
 a0 := Tryz.isAgg0
 z0 := Tryz.sizeOf0
 v0 := Tryz.zeroValue0
 t2 := Tryz.underlying2
 a2 := Tryz.isAgg2
 z2 := Tryz.sizeOf2
 v2 := Tryz.zeroValue2
 t3 := Tryz.underlying3
 a3 := Tryz.isAgg3
 z3 := Tryz.sizeOf3
 v3 := Tryz.zeroValue3
 t4 := Tryz.underlying4
 a4 := Tryz.isAgg4
 z4 := Tryz.sizeOf4
 v4 := Tryz.zeroValue4
 t5 := Tryz.underlying5
 a5 := Tryz.isAgg5
 z5 := Tryz.sizeOf5
 v5 := Tryz.zeroValue5
 t9 := Tryz.underlying9
 a9 := Tryz.isAgg9
 z9 := Tryz.sizeOf9
 v9 := Tryz.zeroValue9
 t20 := Tryz.underlying20
 a20 := Tryz.isAgg20
 z20 := Tryz.sizeOf20
 v20 := Tryz.zeroValue20
 t21 := Tryz.underlying21
 a21 := Tryz.isAgg21
 z21 := Tryz.sizeOf21
 v21 := Tryz.zeroValue21
 t37 := Tryz.underlying22
 a37 := Tryz.isAgg22
 z37 := Tryz.sizeOf22
 v37 := Tryz.zeroValue22
 t46 := Tryz.underlying71
 a46 := Tryz.isAgg71
 z46 := Tryz.sizeOf71
 v46 := Tryz.zeroValue71
 t51 := Tryz.underlying136
 a51 := Tryz.isAgg136
 z51 := Tryz.sizeOf136
 v51 := Tryz.zeroValue136
 t53 := Tryz.underlying57
 a53 := Tryz.isAgg57
 z53 := Tryz.sizeOf57
 v53 := Tryz.zeroValue57
 t75 := Tryz.underlying98
 a75 := Tryz.isAgg98
 z75 := Tryz.sizeOf98
 v75 := Tryz.zeroValue98
 t76 := Tryz.underlying99
 a76 := Tryz.isAgg99
 z76 := Tryz.sizeOf99
 v76 := Tryz.zeroValue99
 t85 := Tryz.underlying115
 a85 := Tryz.isAgg115
 z85 := Tryz.sizeOf115
 v85 := Tryz.zeroValue115
 t127 := Tryz.underlying141
 a127 := Tryz.isAgg141
 z127 := Tryz.sizeOf141
 v127 := Tryz.zeroValue141
 t143 := Tryz.underlying142
 a143 := Tryz.isAgg142
 z143 := Tryz.sizeOf142
 v143 := Tryz.zeroValue142
 t145 := Tryz.underlying144
 a145 := Tryz.isAgg144
 z145 := Tryz.sizeOf144
 v145 := Tryz.zeroValue144
 t167 := Tryz.underlying114
 a167 := Tryz.isAgg114
 z167 := Tryz.sizeOf114
 v167 := Tryz.zeroValue114
 t168 := Tryz.underlying117
 a168 := Tryz.isAgg117
 z168 := Tryz.sizeOf117
 v168 := Tryz.zeroValue117
 t171 := Tryz.underlying127
 a171 := Tryz.isAgg127
 z171 := Tryz.sizeOf127
 v171 := Tryz.zeroValue127
 t173 := Tryz.underlying130
 a173 := Tryz.isAgg130
 z173 := Tryz.sizeOf130
 v173 := Tryz.zeroValue130
 t175 := Tryz.underlying121
 a175 := Tryz.isAgg121
 z175 := Tryz.sizeOf121
 v175 := Tryz.zeroValue121
 t210 := Tryz.underlying125
 a210 := Tryz.isAgg125
 z210 := Tryz.sizeOf125
 v210 := Tryz.zeroValue125
 t212 := Tryz.underlying146
 a212 := Tryz.isAgg146
 z212 := Tryz.sizeOf146
 v212 := Tryz.zeroValue146
 t213 := Tryz.underlying147
 a213 := Tryz.isAgg147
 z213 := Tryz.sizeOf147
 t232 := Tryz.underlying150
 a232 := Tryz.isAgg150
 z232 := Tryz.sizeOf150
 v232 := Tryz.zeroValue150
 t233 := Tryz.underlying151
 a233 := Tryz.isAgg151
 z233 := Tryz.sizeOf151
 v233 := Tryz.zeroValue151
 g15 := by kernel_rfl
 g16 := by kernel_rfl
 g17 := by kernel_rfl
 g18 := by kernel_rfl
 g19 := by kernel_rfl
 t80 := Tryz.underlying152
 a80 := Tryz.isAgg152
 z80 := Tryz.sizeOf152
 v80 := Tryz.zeroValue152
 i0 := by kernel_rfl
 i2 := by kernel_rfl
 i3 := by kernel_rfl
 i4 := by kernel_rfl
 i5 := by kernel_rfl
 i9 := by kernel_rfl
 i20 := by kernel_rfl
 i21 := by kernel_rfl
 i37 := by kernel_rfl
 i46 := by kernel_rfl
 i51 := by kernel_rfl
 i53 := by kernel_rfl
 i75 := by kernel_rfl
 i76 := by kernel_rfl
 i80 := by kernel_rfl
 i85 := by kernel_rfl
 i127 := by kernel_rfl
 i143 := by kernel_rfl
 i145 := by kernel_rfl
 i167 := by kernel_rfl
 i168 := by kernel_rfl
 i171 := by kernel_rfl
 i173 := by kernel_rfl
 i175 := by kernel_rfl
 i210 := by kernel_rfl
 i212 := by kernel_rfl
 i232 := by kernel_rfl
 i233 := by kernel_rfl
 m15 := by kernel_rfl
 m16 := by kernel_rfl
 m17 := by kernel_rfl
 m18 := by kernel_rfl
 m19 := by kernel_rfl
 c0 := by kernel_rfl
 c2 := by kernel_rfl
 c3 := by kernel_rfl
 c4 := by kernel_rfl
 c5 := by kernel_rfl
 c9 := by kernel_rfl
 c20 := by kernel_rfl
 c21 := by kernel_rfl
 c37 := by kernel_rfl
 c46 := by kernel_rfl
 c51 := by kernel_rfl
 c53 := by kernel_rfl
 c75 := by kernel_rfl
 c76 := by kernel_rfl
 c80 := by kernel_rfl
 c85 := by kernel_rfl
 c127 := by kernel_rfl
 c143 := by kernel_rfl
 c145 := by kernel_rfl
 c167 := by kernel_rfl
 c168 := by kernel_rfl
 c171 := by kernel_rfl
 c173 := by kernel_rfl
 c175 := by kernel_rfl
 c210 := by kernel_rfl
 c212 := by kernel_rfl
 c213 := by kernel_rfl
 c232 := by kernel_rfl
 c233 := by kernel_rfl }
def Tryz.laysM147_ren : Go.Shelf.Ren := ⟨fun | 147 => 60 | 221 => 88 | 268 => 97 | 138 => 98 | 143 => 99 | 195 => 104 | 197 => 105 | 218 => 106 | 219 => 107 | 260 => 114 | 217 => 115 | 225 => 116 | 224 => 117 | 267 => 118 | 266 => 126 | 314 => 127 | n => n, fun | 9 => 9 | 3 => 3 | 31 => 77 | 4 => 4 | 0 => 0 | 105 => 111 | 21 => 21 | 5 => 5 | 46 => 71 | 119 => 132 | 139 => 135 | 138 => 134 | 146 => 137 | 51 => 136 | n => n, fun | 1 => 1 | 3 => 4 | 4 => 5 | n => n⟩
theorem Tryz.laysM147 : Go.Proofs.LaysM.n147 Tryz.prog Tryz.laysM147_ren := {
 mixed := by kernel_rfl
 f138 := Tryz.func98.trans (congrArg some (by kernel_rfl))
 f143 := Tryz.func99.trans (congrArg some (by kernel_rfl))
 f147 := Tryz.func60.trans (congrArg some (by kernel_rfl))
 f195 := Tryz.func104.trans (congrArg some (by kernel_rfl))
 f197 := Tryz.func105.trans (congrArg some (by kernel_rfl))
 f217 := Tryz.func115.trans (congrArg some (by kernel_rfl))
 f218 := Tryz.func106.trans (congrArg some (by kernel_rfl))
 f219 := Tryz.func107.trans (congrArg some (by kernel_rfl))
 f221 := Tryz.func88.trans (congrArg some (by kernel_rfl))
 f224 := Tryz.func117.trans (congrArg some (by kernel_rfl))
 f225 := Tryz.func116.trans (congrArg some (by kernel_rfl))
 f260 := Tryz.func114.trans (congrArg some (by kernel_rfl))
 f266 := Tryz.func126.trans (congrArg some (by kernel_rfl))
 f267 := Tryz.func118.trans (congrArg some (by kernel_rfl))
 f268 := Tryz.func97.trans (congrArg some (by kernel_rfl))
 f314 := Tryz.func127.trans (congrArg some (by kernel_rfl))
 t0 := Tryz.underlying0
 a0 := Tryz.isAgg0
 z0 := Tryz.sizeOf0
 v0 := Tryz.zeroValue0
 t3 := Tryz.underlying3
 a3 := Tryz.isAgg3
 z3 := Tryz.sizeOf3
 v3 := Tryz.zeroValue3
 t4 := Tryz.underlying4
 a4 := Tryz.isAgg4
 z4 := Tryz.sizeOf4
 v4 := Tryz.zeroValue4
 t5 := Tryz.underlying5
 a5 := Tryz.isAgg5
 z5 := Tryz.sizeOf5
 v5 := Tryz.zeroValue5
 t9 := Tryz.underlying9
 a9 := Tryz.isAgg9
 z9 := Tryz.sizeOf9
 v9 := Tryz.zeroValue9
 t21 := Tryz.underlying21
 a21 := Tryz.isAgg21
 z21 := Tryz.sizeOf21
 v21 := Tryz.zeroValue21
 t31 := Tryz.underlying77
 a31 := Tryz.isAgg77
 z31 := Tryz.sizeOf77
 v31 := Tryz.zeroValue77
 t46 := Tryz.underlying71
 a46 := Tryz.isAgg71
 z46 := Tryz.sizeOf71
 v46 := Tryz.zeroValue71
 t51 := Tryz.underlying136
 a51 := Tryz.isAgg136
 z51 := Tryz.sizeOf136
 v51 := Tryz.zeroValue136
 t105 := Tryz.underlying111
 a105 := Tryz.isAgg111
 z105 := Tryz.sizeOf111
 v105 := Tryz.zeroValue111
 t119 := Tryz.underlying132
 a119 := Tryz.isAgg132
 z119 := Tryz.sizeOf132
 t138 := Tryz.underlying134
 a138 := Tryz.isAgg134
 z138 := Tryz.sizeOf134
 v138 := Tryz.zeroValue134
 t139 := Tryz.underlying135
 a139 := Tryz.isAgg135
 z139 := Tryz.sizeOf135
 v139 := Tryz.zeroValue135
 t146 := Tryz.underlying137
 a146 := Tryz.isAgg137
 z146 := Tryz.sizeOf137
 v146 := Tryz.zeroValue137
 g1 := by kernel_rfl
 g3 := by kernel_rfl
 g4 := by kernel_rfl
 i0 := by kernel_rfl
 i3 := by kernel_rfl
 i4 := by kernel_rfl
 i5 := by kernel_rfl
 i9 := by kernel_rfl
 i21 := by kernel_rfl
 i31 := by kernel_rfl
 i46 := by kernel_rfl
 i51 := by kernel_rfl
 i105 := by kernel_rfl
 i138 := by kernel_rfl
 i139 := by kernel_rfl
 i146 := by kernel_rfl
 m1 := by kernel_rfl
 s1_3 := fun w h => Go.Proofs.cell_of_shapedOpen_int (zero := #[.int .i64 0]) (t := 3) h (of_decide_eq_true (by kernel_rfl)) (by kernel_rfl) rfl (by kernel_rfl) (by kernel_rfl) Tryz.underlying3
 m3 := by kernel_rfl
 m4 := by kernel_rfl }
def Tryz.lays147_ren : Go.Shelf.Ren := ⟨fun | 147 => 60 | 221 => 88 | 268 => 97 | 138 => 98 | 143 => 99 | 195 => 104 | 197 => 105 | 218 => 106 | 219 => 107 | 260 => 114 | 217 => 115 | 225 => 116 | 224 => 117 | 267 => 118 | 266 => 126 | 314 => 127 | n => n, fun | 9 => 9 | 3 => 3 | 31 => 77 | 4 => 4 | 0 => 0 | 105 => 111 | 21 => 21 | 5 => 5 | 46 => 71 | 119 => 132 | 139 => 135 | 138 => 134 | 146 => 137 | 51 => 136 | n => n, fun | 1 => 1 | 3 => 4 | 4 => 5 | n => n⟩
theorem Tryz.lays147 : Go.Proofs.Lays.n147 Tryz.prog Tryz.lays147_ren := {
 mixed := by kernel_rfl
 f138 := Tryz.func98.trans (congrArg some (by kernel_rfl))
 f143 := Tryz.func99.trans (congrArg some (by kernel_rfl))
 f147 := Tryz.func60.trans (congrArg some (by kernel_rfl))
 f195 := Tryz.func104.trans (congrArg some (by kernel_rfl))
 f197 := Tryz.func105.trans (congrArg some (by kernel_rfl))
 f217 := Tryz.func115.trans (congrArg some (by kernel_rfl))
 f218 := Tryz.func106.trans (congrArg some (by kernel_rfl))
 f219 := Tryz.func107.trans (congrArg some (by kernel_rfl))
 f221 := Tryz.func88.trans (congrArg some (by kernel_rfl))
 f224 := Tryz.func117.trans (congrArg some (by kernel_rfl))
 f225 := Tryz.func116.trans (congrArg some (by kernel_rfl))
 f260 := Tryz.func114.trans (congrArg some (by kernel_rfl))
 f266 := Tryz.func126.trans (congrArg some (by kernel_rfl))
 f267 := Tryz.func118.trans (congrArg some (by kernel_rfl))
 f268 := Tryz.func97.trans (congrArg some (by kernel_rfl))
 f314 := Tryz.func127.trans (congrArg some (by kernel_rfl))
 t0 := Tryz.underlying0
 a0 := Tryz.isAgg0
 z0 := Tryz.sizeOf0
 v0 := Tryz.zeroValue0
 t3 := Tryz.underlying3
 a3 := Tryz.isAgg3
 z3 := Tryz.sizeOf3
 v3 := Tryz.zeroValue3
 t4 := Tryz.underlying4
 a4 := Tryz.isAgg4
 z4 := Tryz.sizeOf4
 v4 := Tryz.zeroValue4
 t5 := Tryz.underlying5
 a5 := Tryz.isAgg5
 z5 := Tryz.sizeOf5
 v5 := Tryz.zeroValue5
 t9 := Tryz.underlying9
 a9 := Tryz.isAgg9
 z9 := Tryz.sizeOf9
 v9 := Tryz.zeroValue9
 t21 := Tryz.underlying21
 a21 := Tryz.isAgg21
 z21 := Tryz.sizeOf21
 v21 := Tryz.zeroValue21
 t31 := Tryz.underlying77
 a31 := Tryz.isAgg77
 z31 := Tryz.sizeOf77
 v31 := Tryz.zeroValue77
 t46 := Tryz.underlying71
 a46 := Tryz.isAgg71
 z46 := Tryz.sizeOf71
 v46 := Tryz.zeroValue71
 t51 := Tryz.underlying136
 a51 := Tryz.isAgg136
 z51 := Tryz.sizeOf136
 v51 := Tryz.zeroValue136
 t105 := Tryz.underlying111
 a105 := Tryz.isAgg111
 z105 := Tryz.sizeOf111
 v105 := Tryz.zeroValue111
 t119 := Tryz.underlying132
 a119 := Tryz.isAgg132
 z119 := Tryz.sizeOf132
 t138 := Tryz.underlying134
 a138 := Tryz.isAgg134
 z138 := Tryz.sizeOf134
 v138 := Tryz.zeroValue134
 t139 := Tryz.underlying135
 a139 := Tryz.isAgg135
 z139 := Tryz.sizeOf135
 v139 := Tryz.zeroValue135
 t146 := Tryz.underlying137
 a146 := Tryz.isAgg137
 z146 := Tryz.sizeOf137
 v146 := Tryz.zeroValue137
 g1 := by kernel_rfl
 g3 := by kernel_rfl
 g4 := by kernel_rfl }
def Tryz.lays109_ren : Go.Shelf.Ren := ⟨fun | 109 => 62 | n => n, fun | 31 => 77 | 9 => 9 | 3 => 3 | 0 => 0 | 4 => 4 | n => n, fun | n => n⟩
theorem Tryz.lays109 : Go.Proofs.Lays.n109 Tryz.prog Tryz.lays109_ren := {
 mixed := by kernel_rfl
 f109 := Tryz.func62.trans (congrArg some (by kernel_rfl))
 t0 := Tryz.underlying0
 a0 := Tryz.isAgg0
 z0 := Tryz.sizeOf0
 v0 := Tryz.zeroValue0
 t3 := Tryz.underlying3
 a3 := Tryz.isAgg3
 z3 := Tryz.sizeOf3
 v3 := Tryz.zeroValue3
 t4 := Tryz.underlying4
 a4 := Tryz.isAgg4
 z4 := Tryz.sizeOf4
 v4 := Tryz.zeroValue4
 t9 := Tryz.underlying9
 a9 := Tryz.isAgg9
 z9 := Tryz.sizeOf9
 v9 := Tryz.zeroValue9
 t31 := Tryz.underlying77
 a31 := Tryz.isAgg77
 z31 := Tryz.sizeOf77
 v31 := Tryz.zeroValue77 }
end Go.Proofs
namespace Go.Proofs.YtnhmfedegfcflaaGreatDoor
open Go.RowKit
set_option linter.unusedVariables false
set_option linter.unusedSimpArgs false
theorem pcs_len (n : Nat) (c : UInt8) (l : List UInt8) (hn : 1 ≤ n) : 1 ≤ (pcs n c l).length ∧ (pcs n c l).length ≤ n ∧ (pcs n c l).length ≤ l.length + 1 := by
 have h : ∀ (k : Nat) (s : List UInt8), 1 ≤ (Lib.splitK [c] 0 k s).length ∧ (Lib.splitK [c] 0 k s).length ≤ k + 1 := by
  intro k
  induction k with
  | zero => intro s; simp [Lib.splitK]
  | succ k ih =>
   intro s
   simp only [Lib.splitK]
   split
   ·simp
   ·have := ih (s.drop ((Lib.index s [c]).toNat + [c].length))
    simp only [List.length_cons] at this ⊢; omega
 have := h (min n (l.length + 1) - 1) l
 unfold pcs; omega
theorem splitK_small (c : UInt8) : ∀ (k : Nat) (s x : List UInt8), x ∈ Lib.splitK [c] 0 k s → x.length ≤ s.length := by
 intro k
 induction k with
 | zero => intro s x hx; simp [Lib.splitK] at hx; subst hx; omega
 | succ k ih =>
  intro s x hx
  simp only [Lib.splitK] at hx
  split at hx
  ·simp at hx; subst hx; omega
  ·rcases List.mem_cons.1 hx with rfl | h
   ·simp; omega
   ·have := ih _ _ h
    simp only [List.length_drop] at this; omega
theorem pcs_small {n : Nat} {c : UInt8} {l x : List UInt8} (hx : x ∈ pcs n c l) : x.length ≤ l.length := splitK_small c _ _ _ hx
theorem sx_mem {l : List (List UInt8)} {j : Nat} (h : j < l.length) : sx l j ∈ l := by simp [sx, List.getD, List.getElem?_eq_getElem h]
def ML (w : World) : Prop := ∃ m : Int, w.cell? ⟨1, 0, none⟩ = some (.int .i64 m)
theorem ML.below {B : Nat} {w w' : World} (h : ML w) (hb : Below B w w') (hB : w.heap.size ≤ B) : ML w' := by
 obtain ⟨m, h⟩ := h; exact ⟨m, cell_on hb h hB⟩
def RetX (w : World) (l : List (List UInt8)) (e : Ending) (w' : World) : Prop :=
 ∃ b c, e = .returned (.slice (some ⟨b, 0, none⟩) l.length c) ∧ l.length ≤ c ∧ w.heap.size ≤ b ∧ RX w' (some ⟨b, 0, none⟩) l.length l ∧ Below w.heap.size w w'
theorem splitB_list (c : UInt8) (k : Nat) (s : List UInt8) : Lib.splitB ⟨#[c]⟩ 0 k (bs s) = (Lib.splitK [c] 0 k s).map bs := by
 have h := Lib.splitB_data ⟨#[c]⟩ 0 k (bs s)
 have e : (bs s).data.toList = s := by simp [bs]
 have e2 : (ByteArray.mk #[c]).data.toList = [c] := rfl
 rw [e, e2] at h
 rw [← h, List.map_map]
 exact (List.map_congr_left fun x _ => (bs_data x).symm).symm ▸ (List.map_id _).symm
theorem SplitN_any (s : List UInt8) (c : UInt8) (n : Nat) (w : World) (hs : s.length ≤ 2097152) (hn : 1 ≤ n) (hn2 : n ≤ 1000) (hm : ML w) :
 Calls Tryz.prog 60 #[.string (bs s), .string ⟨#[c]⟩, .int .i64 n] w (RetX w (pcs n c s)) := by
 obtain ⟨m, hm⟩ := hm
 have hz : (bs s).size = s.length := Zbd s
 refine (Any.strings_SplitN Tryz.lays147 Tryz.laysM147.i9 (bs s) ⟨#[c]⟩ n m w (by omega) hm (by show 1 ≤ 1; omega) hn (by omega)).mono fun e w' ⟨he, hw⟩ => ?_
 rw [hz, splitB_list] at he hw
 have hl := pcs_len n c s hn
 have hpl : (Lib.splitK [c] 0 (min n (s.length + 1) - 1) s).length = (pcs n c s).length := rfl
 rw [List.length_map] at he
 refine ⟨w.heap.size, _, he, by omega, Nat.le_refl _, ⟨rfl, fun hn0 => ⟨_, 0, rfl, by rw [hw, World.size_alloc]; omega, fun j hj => ?_⟩⟩, by rw [hw]; exact bA⟩
 rw [hw, Nat.zero_add]
 refine Zal _ _ _ _ ?_
 unfold Lib.cellsOf
 rw [List.getElem?_toArray, List.getElem?_append_left (by simpa [hpl] using hj)]
 simp only [List.map_map, List.getElem?_map]
 have hj' : j < (Lib.splitK [c] 0 (min n (s.length + 1) - 1) s).length := hj
 rw [List.getElem?_eq_getElem hj']
 show some _ = some (Value.string (bs (sx (Lib.splitK [c] 0 (min n (s.length + 1) - 1) s) j)))
 simp [sx, List.getD, List.getElem?_eq_getElem hj']
theorem idx_kind (x : List UInt8) : Lib.idxOfS [bs (gwL 0), bs (gwL 1), bs (gwL 2), bs (gwL 3)] (bs x) = kindW x := by
 have h : ∀ y : List UInt8, (bs y = bs x) ↔ (x = y) := fun y => by
  constructor
  ·intro h
   have := congrArg (fun z : ByteArray => z.data.toList) h
   simpa [bs] using this.symm
  ·intro h; rw [h]
 simp only [Lib.idxOfS, Lib.idxFromS, kindW, h]
 by_cases h0 : x = gwL 0
 ·simp [h0]
 ·by_cases h1 : x = gwL 1
  ·simp [h1, show ¬ gwL 1 = gwL 0 by decide]
  ·by_cases h2 : x = gwL 2
   ·simp [h2, show ¬ gwL 2 = gwL 0 by decide, show ¬ gwL 2 = gwL 1 by decide]
   ·by_cases h3 : x = gwL 3
    ·simp [h3, show ¬ gwL 3 = gwL 0 by decide, show ¬ gwL 3 = gwL 1 by decide, show ¬ gwL 3 = gwL 2 by decide]
    ·simp [h0, h1, h2, h3]
theorem Index_any (x : List UInt8) (w : World) (hg : GWs w) :
 Calls Tryz.prog 62 #[.slice (some ⟨0, 0, none⟩) 4 4, .string (bs x)] w fun e w' => e = .returned (.int .i64 (kindW x)) ∧ w' = w := by
 have h := Any.slices_Index_string Tryz.lays109 0 0 4 4 [bs (gwL 0), bs (gwL 1), bs (gwL 2), bs (gwL 3)] (bs x) w (by simp) (by omega) (fun j hj => by
  have h : j = 0 ∨ j = 1 ∨ j = 2 ∨ j = 3 := by simp at hj; omega
  rcases h with rfl | rfl | rfl | rfl
  ·exact hg.w0
  ·exact hg.w1
  ·exact hg.w2
  ·exact hg.w3)
 rw [List.take_of_length_le (by simp), idx_kind] at h
 exact h
structure EV (w : World) : Prop where
 syn : ∃ tp p, w.var? Tryz.prog "strconv.ErrSyntax" = some #[.iface tp p]
 rng : ∃ tp p, w.var? Tryz.prog "strconv.ErrRange" = some #[.iface tp p]
 ls : 2 < w.heap.size
 lr : 3 < w.heap.size
theorem syn_global : Tryz.prog.globalNamed "strconv.ErrSyntax" = some 2 := by kernel_rfl
theorem rng_global : Tryz.prog.globalNamed "strconv.ErrRange" = some 3 := by kernel_rfl
theorem EV.below {B : Nat} {w w' : World} (h : EV w) (hb : Below B w w') (hB : w.heap.size ≤ B) : EV w' := by
 obtain ⟨⟨t1, p1, h1⟩, ⟨t2, p2, h2⟩, h3, h4⟩ := h
 exact ⟨⟨t1, p1, var_below hb syn_global (Nat.lt_of_lt_of_le h3 hB) h1⟩, ⟨t2, p2, var_below hb rng_global (Nat.lt_of_lt_of_le h4 hB) h2⟩, Nat.lt_of_lt_of_le h3 hb.size, Nat.lt_of_lt_of_le h4 hb.size⟩
def RetN (w : World) (n : Int) (e : Ending) (w' : World) : Prop := ∃ er, e = .returned (.tuple #[.int .i64 n, er]) ∧ Below w.heap.size w w'
theorem Atoi_any (s : List UInt8) (w : World) (hs : s.length ≤ 2097152) (he : EV w) : Calls Tryz.prog 89 #[.string (bs s)] w (RetN w (atoiV s)) := by
 have hz : (bs s).size = s.length := Zbd s
 have hd : (bs s).data.toList = s := by simp [bs]
 rcases h : Lib.atoiAll s with v | _ | _
 ·have e1 : atoiV s = v := by simp [atoiV, h]
  rw [e1]
  refine (Any.strconv_Atoi_ok Tryz.laysC172 (bs s) (by omega) v (by rw [hd]; exact h) w).mono fun e w' ⟨h1, h2⟩ => ⟨_, h1, ?_⟩
  rcases h2 with rfl | ⟨t, rfl⟩
  ·exact Below.refl _ _
  ·exact Lib.bytesWorld_below _ _ _
 ·have e1 : atoiV s = 0 := by simp [atoiV, h]
  rw [e1]
  obtain ⟨tp, p, hv⟩ := he.syn
  exact (Any.strconv_Atoi_syntax_var Tryz.laysC172 (bs s) (by omega) (by rw [hd]; exact h) tp p w hv).mono fun e w' ⟨N, h1, _, _, h2⟩ => ⟨_, h1, h2⟩
 ·have e1 : atoiV s = Lib.atoiSat s := by simp [atoiV, h]
  rw [e1]
  obtain ⟨tp, p, hv⟩ := he.rng
  exact (Any.strconv_Atoi_range_var Tryz.laysC172 (bs s) (by omega) (by rw [hd]; exact h) tp p w hv).mono fun e w' ⟨N, h1, _, _, h2⟩ => ⟨_, by rw [hd] at h1; exact h1, h2⟩
theorem numbersIn_any (A : Option Addr) (n c : Nat) (l : List (List UInt8)) (w : World) (hr : RX w A n l) (hz : ∀ x ∈ l, x.length ≤ 2097152) (hn : n ≤ 1000) (he : EV w) :
 Calls Tryz.prog 61 #[.slice A n c] w (RetI w (l.map atoiV)) := by
 have hl := hr.len
 have hb0 : Below w.heap.size w (w.alloc (.cells #[] 3)) := bA
 go_enter Tryz.func61, Tryz.ntmps61
 go_wp2
 go_loopw [3, 11] (fun v b wr => ∃ (i : Nat) (A' : Option Addr) (c' : Nat), i ≤ n ∧ b = .int .i64 i ∧ v = .slice A' i c' ∧ Own wr w.heap.size wr.heap.size (.slice A' i c') i ((l.take i).map atoiV) ∧ Below w.heap.size w wr) (fun _ b _ => n - (intOf b).toNat)
 case atStart => exact ⟨0, _, _, Nat.zero_le _, rfl, rfl, by simpa using Zcu w w.heap.size lR, hb0⟩
 case round =>
  clear hb0
  obtain ⟨i, A', c', hi, rfl, rfl, hown, hbw⟩ := hrel
  by_cases hlt : i < n
  ·obtain ⟨b, o, rfl, hbB, c1⟩ := (hr.below hbw lR).at_ hlt
   have hsn : Hid ((l.take (i + 1)).map atoiV = (l.take i).map atoiV ++ [atoiV (sx l i)]) := zH (by
    rw [List.take_succ_eq_append_getElem (show i < l.length by omega), List.map_append]
    show _ = _ ++ [atoiV (sx l i)]
    rw [show sx l i = l[i] by simp [sx, List.getD, List.getElem?_eq_getElem (show i < l.length by omega)]]
    rfl)
   have hzs := hz _ (sx_mem (l := l) (j := i) (by omega))
   go_wp2_with fail
   refine (Atoi_any (sx l i) _ hzs (he.below hbw lR)).mono ?_
   rintro e w2 ⟨er, rfl, hb2⟩
   have hown2 := (hown.below hb2 (.inl lR)).now
   have hbw2 := hbw.trans (hb2.mono hbw.size)
   have hz2 := hbw2.size
   clear hown hbw hb2 c1
   generalize atoiV (sx l i) = z at *
   have hownA := hown2.alloc (.cells #[.int .i64 z] 3)
   have hbA := hbw2.alloc hz2 (.cells #[.int .i64 z] 3)
   go_wp2_with (at_builtin; refine Zaw _ rfl _ _ rfl rfl hownA rfl (Zbj _ _ _ _ (by simp)) (by omega) oM ?_; intro A5 c5 w5 hown5 hg5 hat5)
   have hb5 := Zar hbA hownA hg5 (by simp; omega) lR
   rw [← hsn.out] at hown5
   clear hbA hownA hg5 hat5 hown2 hbw2
   go_wp2
   go_roundw
   case rel => exact ⟨i + 1, _, _, by omega, by go_num, rfl, hown5, hb5⟩
   case measure => simp [intOf]; omega
  ·obtain rfl : i = n := by omega
   rw [List.take_of_length_le (by omega)] at hown
   go_wp2
   go_ret
   exact RetI.mk_ (by simp [hl]) rfl hown hbw
end Go.Proofs.YtnhmfedegfcflaaGreatDoor
