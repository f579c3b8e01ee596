/- Reading texts: pieces, numbers, lines; a circuit's text is read back by both readers. Plain Lean: no program. -/
import Derived.Test.YtgpfiefhhlejfaaDoorQAtx
import Derived.Lib.AtoiAll
import Derived.Lib.Split
import Derived.Lib.IndexMore
namespace Go.Proofs.YtgpfiefhhlejfaaDoor
open Go.RowKit
set_option linter.unusedVariables false
set_option linter.unusedSimpArgs false

/-- A text cut at each byte c. -/
def splitS (c : UInt8) : List UInt8 → List (List UInt8)
  | [] => [[]]
  | b :: l => if b = c then [] :: splitS c l else ((b :: (splitS c l).headD []) :: (splitS c l).tail)
theorem splitS_ne (c : UInt8) (l : List UInt8) : splitS c l ≠ [] := by
  cases l with
  | nil => simp [splitS]
  | cons b l => simp only [splitS]; split <;> simp
theorem splitS_none {c : UInt8} {p : List UInt8} (h : c ∉ p) : splitS c p = [p] := by
  induction p with
  | nil => rfl
  | cons b p ih =>
    have h1 : ¬ b = c := fun e => h (by rw [e]; exact List.mem_cons_self ..)
    have h2 := ih fun hm => h (List.mem_cons_of_mem _ hm)
    simp [splitS, h1, h2]
theorem splitS_hit {c : UInt8} {p r : List UInt8} (h : c ∉ p) : splitS c (p ++ c :: r) = p :: splitS c r := by
  induction p with
  | nil => simp [splitS]
  | cons b p ih =>
    have h1 : ¬ b = c := fun e => h (by rw [e]; exact List.mem_cons_self ..)
    have h2 := ih fun hm => h (List.mem_cons_of_mem _ hm)
    simp [splitS, h1, h2]
theorem splitS_length (c : UInt8) (l : List UInt8) : (splitS c l).length ≤ l.length + 1 := by
  induction l with
  | nil => simp [splitS]
  | cons b l ih =>
    simp only [splitS]
    split
    · simp only [List.length_cons]; omega
    · have := List.length_pos_iff.2 (splitS_ne c l)
      simp only [List.length_cons, List.length_tail]; omega
theorem index_hit {c : UInt8} {p r : List UInt8} (h : c ∉ p) : Lib.index (p ++ c :: r) [c] = (p.length : Int) := by
  induction p with
  | nil => simp [Lib.index]
  | cons b p ih =>
    have h1 : ¬ c = b := fun e => h (by rw [e]; exact List.mem_cons_self ..)
    have h2 := ih fun hm => h (List.mem_cons_of_mem _ hm)
    have h3 : ((p.length : Int) == -1) = false := by simp
    simp [Lib.index, h1, h2, h3]
theorem index_miss {c : UInt8} {p : List UInt8} (h : c ∉ p) : Lib.index p [c] = -1 := by
  induction p with
  | nil => rfl
  | cons b p ih =>
    have h1 : ¬ c = b := fun e => h (by rw [e]; exact List.mem_cons_self ..)
    have h2 := ih fun hm => h (List.mem_cons_of_mem _ hm)
    simp [Lib.index, h1, h2]
theorem splitK_none {c : UInt8} {p : List UInt8} (h : c ∉ p) (k : Nat) : Lib.splitK [c] 0 k p = [p] := by
  cases k with
  | zero => rfl
  | succ k => simp [Lib.splitK, index_miss h]
theorem splitK_hit {c : UInt8} {p r : List UInt8} (h : c ∉ p) (k : Nat) : Lib.splitK [c] 0 (k + 1) (p ++ c :: r) = p :: Lib.splitK [c] 0 k r := by
  have h1 := index_hit (r := r) h
  have h3 : ((p.length : Int) == -1) = false := by simp
  simp [Lib.splitK, h1, h3]
/-- Lines, each with the byte c behind it. -/
def joinL (c : UInt8) (L : List (List UInt8)) : List UInt8 := L.flatMap fun l => l ++ [c]
theorem splitS_join {c : UInt8} {L : List (List UInt8)} (h : ∀ l ∈ L, c ∉ l) : splitS c (joinL c L) = L ++ [[]] := by
  induction L with
  | nil => rfl
  | cons l L ih =>
    have h1 := ih fun x hx => h x (List.mem_cons_of_mem _ hx)
    have h2 : joinL c (l :: L) = l ++ c :: joinL c L := by simp [joinL]
    rw [h2, splitS_hit (h l (List.mem_cons_self ..)), h1]; rfl
theorem splitK_join {c : UInt8} {L : List (List UInt8)} (h : ∀ l ∈ L, c ∉ l) : ∀ k, L.length ≤ k → Lib.splitK [c] 0 k (joinL c L) = L ++ [[]] := by
  induction L with
  | nil => intro k _; rw [show joinL c [] = [] from rfl, splitK_none (by simp)]; rfl
  | cons l L ih =>
    intro k hk
    cases k with
    | zero => simp at hk
    | succ k =>
      have h1 := ih (fun x hx => h x (List.mem_cons_of_mem _ hx)) k (by simpa using hk)
      have h2 : joinL c (l :: L) = l ++ c :: joinL c L := by simp [joinL]
      rw [h2, splitK_hit (h l (List.mem_cons_self ..)), h1]; rfl
/-- A word and words behind it, each with the byte c ahead. -/
def wordsL (c : UInt8) (wd : List UInt8) (L : List (List UInt8)) : List UInt8 := wd ++ L.flatMap fun l => c :: l
theorem wordsL_cons (c : UInt8) (wd l : List UInt8) (L : List (List UInt8)) : wordsL c wd (l :: L) = wd ++ c :: wordsL c l L := by simp [wordsL]
theorem splitS_words {c : UInt8} {L : List (List UInt8)} : ∀ {wd : List UInt8}, c ∉ wd → (∀ l ∈ L, c ∉ l) → splitS c (wordsL c wd L) = wd :: L := by
  induction L with
  | nil => intro wd hw _; rw [show wordsL c wd [] = wd by simp [wordsL]]; exact splitS_none hw
  | cons l L ih =>
    intro wd hw h
    rw [wordsL_cons, splitS_hit hw, ih (h l (List.mem_cons_self ..)) fun x hx => h x (List.mem_cons_of_mem _ hx)]
theorem splitK_words {c : UInt8} {L : List (List UInt8)} : ∀ {wd : List UInt8} (k : Nat), L.length ≤ k → c ∉ wd → (∀ l ∈ L, c ∉ l) → Lib.splitK [c] 0 k (wordsL c wd L) = wd :: L := by
  induction L with
  | nil => intro wd k _ hw _; rw [show wordsL c wd [] = wd by simp [wordsL]]; exact splitK_none hw k
  | cons l L ih =>
    intro wd k hk hw h
    cases k with
    | zero => simp at hk
    | succ k => rw [wordsL_cons, splitK_hit hw, ih k (by simpa using hk) (h l (List.mem_cons_self ..)) fun x hx => h x (List.mem_cons_of_mem _ hx)]

/-- What Atoi makes of a text, the error left out. -/
def atoiV (l : List UInt8) : Int :=
  match Lib.atoiAll l with
  | .ok v => v
  | .range => Lib.atoiSat l
  | _ => 0
/-- What the reference makes of a text's digits behind those before. -/
def digF (acc : Int) : List UInt8 → Option Int
  | [] => some acc
  | c :: r => if c.toNat < 48 ∨ 57 < c.toNat then none else digF (10 * acc + ((c.toNat : Int) - 48)) r
/-- What the reference makes of a text. -/
def readS (l : List UInt8) : Int :=
  if ¬ (1 ≤ l.length ∧ l.length ≤ 6) ∨ (l.head? = some 48 ∧ 1 < l.length) then -1 else (digF 0 l).getD (-1)
/-- Numerals below a thousand. -/
def dig3 (n : Nat) : List UInt8 :=
  if n < 10 then [UInt8.ofNat (48 + n)] else if n < 100 then [UInt8.ofNat (48 + n / 10), UInt8.ofNat (48 + n % 10)] else [UInt8.ofNat (48 + n / 100), UInt8.ofNat (48 + n / 10 % 10), UInt8.ofNat (48 + n % 10)]
theorem itoa_dig3 {n : Nat} (h : n < 1000) : Lib.itoa (n : Int) = dig3 n := by
  rw [Lib.itoa_nonneg]
  unfold dig3
  split
  · rename_i h1; exact Lib.decDigits_one h1
  · split
    · rename_i h1 h2; exact Lib.decDigits_two h1 h2
    · rename_i h1 h2
      rw [Lib.decDigits, dif_neg h1, Lib.decDigits_two (by omega) (by omega), Nat.div_div_eq_div_mul]; rfl
theorem dig3_all : ∀ n : Fin 1000, atoiV (dig3 n.val) = (n.val : Int) ∧ readS (dig3 n.val) = (n.val : Int) ∧ (10 : UInt8) ∉ dig3 n.val ∧ (32 : UInt8) ∉ dig3 n.val := by decide +kernel
theorem num_back {n : Int} (h0 : 0 ≤ n) (h1 : n < 1000) : atoiV (Lib.itoa n) = n ∧ readS (Lib.itoa n) = n ∧ (10 : UInt8) ∉ Lib.itoa n ∧ (32 : UInt8) ∉ Lib.itoa n := by
  obtain ⟨m, rfl⟩ := Int.eq_ofNat_of_zero_le h0
  have h := dig3_all ⟨m, by omega⟩
  have e := itoa_dig3 (n := m) (by omega)
  rw [e]
  exact h

/-- At most n pieces of a text, as the library cuts it. -/
def pcs (n : Nat) (c : UInt8) (l : List UInt8) : List (List UInt8) := Lib.splitK [c] 0 (min n (l.length + 1) - 1) l
/-- A gate's kind by its word; -1 for other words. -/
def kindW (wd : List UInt8) : Int := if wd = gwL 0 then 0 else if wd = gwL 1 then 1 else if wd = gwL 2 then 2 else if wd = gwL 3 then 3 else -1
def cirW : List UInt8 := [99, 105, 114, 99, 117, 105, 116]
def outW : List UInt8 := [111, 117, 116, 115]
/-- What the program makes of a line's words. -/
def stepI (c : Ci) (ws : List (List UInt8)) : Ci :=
  if ws.headD [] = cirW then { c with i0 := gi (ws.tail.map atoiV ++ [0, 0]) 0, i1 := gi (ws.tail.map atoiV ++ [0, 0]) 1 }
  else if ws.headD [] = outW then { c with os := ws.tail.map atoiV }
  else if 0 ≤ kindW (ws.headD []) then { c with gs := c.gs ++ [⟨kindW (ws.headD []), gi (ws.tail.map atoiV ++ [0, 0]) 0, gi (ws.tail.map atoiV ++ [0, 0]) 1⟩] }
  else c
/-- What the reference makes of a line's words. -/
def stepS (c : Ci) (ws : List (List UInt8)) : Ci :=
  if ws.headD [] = cirW ∧ ws.length = 3 then { c with i0 := readS (ws.getD 1 []), i1 := readS (ws.getD 2 []) }
  else if ws.headD [] = outW then { c with os := c.os ++ ws.tail.map readS }
  else if (0 ≤ kindW (ws.headD []) ∧ kindW (ws.headD []) ≤ 1) ∧ ws.length = 3 then { c with gs := c.gs ++ [⟨kindW (ws.headD []), readS (ws.getD 1 []), readS (ws.getD 2 [])⟩] }
  else if kindW (ws.headD []) = 2 ∧ ws.length = 2 then { c with gs := c.gs ++ [⟨2, readS (ws.getD 1 []), 0⟩] }
  else if kindW (ws.headD []) = 3 then { c with gs := c.gs ++ [⟨3, 0, 0⟩] }
  else c
def parseI (s : List UInt8) : Ci := (pcs 304 10 s).foldl (fun c l => stepI c (pcs 42 32 l)) ⟨0, 0, [], []⟩
def parseS (s : List UInt8) : Ci := (splitS 10 s).foldl (fun c l => stepS c (splitS 32 l)) ⟨0, 0, [], []⟩
/-- A reader's answer: what it has made, if that is valid and its text is the one that was read. -/
def ansC (c : Ci) (s : List UInt8) : Option Ci := if circB c.i0 c.i1 c.gs c.os = true ∧ circT c.i0 c.i1 c.gs c.os = s then some c else none

/-- Numbers from 0 to 999. -/
def smallK (ns : List Int) : Prop := ∀ n ∈ ns, 0 ≤ n ∧ n < 1000
theorem numsL_words (wd : List UInt8) (ns : List Int) : wd ++ numsL ns = wordsL 32 wd (ns.map Lib.itoa) := by simp [numsL, wordsL, List.flatMap_map]
theorem wordsL_len (c : UInt8) (wd : List UInt8) (L : List (List UInt8)) : L.length ≤ (wordsL c wd L).length := by
  induction L generalizing wd with
  | nil => simp
  | cons l L ih =>
    have := ih l
    rw [wordsL_cons]; simp only [List.length_append, List.length_cons]; omega
theorem joinL_len (c : UInt8) (L : List (List UInt8)) : L.length ≤ (joinL c L).length := by
  induction L with
  | nil => simp
  | cons l L ih => simp only [joinL, List.flatMap_cons, List.length_append, List.length_cons, List.length_nil] at ih ⊢; omega
theorem words_back {wd : List UInt8} {ns : List Int} (h32 : (32 : UInt8) ∉ wd) (hs : smallK ns) :
    splitS 32 (wd ++ numsL ns) = wd :: ns.map Lib.itoa ∧ (ns.length ≤ 41 → pcs 42 32 (wd ++ numsL ns) = wd :: ns.map Lib.itoa) := by
  have h : ∀ l ∈ ns.map Lib.itoa, (32 : UInt8) ∉ l := fun l hl => by
    obtain ⟨n, hn, rfl⟩ := List.mem_map.1 hl
    exact (num_back (hs n hn).1 (hs n hn).2).2.2.2
  rw [numsL_words]
  refine ⟨splitS_words h32 h, fun hl => splitK_words _ ?_ h32 h⟩
  have := wordsL_len 32 wd (ns.map Lib.itoa)
  rw [List.length_map] at this ⊢
  omega
theorem map_atoi {ns : List Int} (hs : smallK ns) : (ns.map Lib.itoa).map atoiV = ns := by
  rw [List.map_map]
  refine (List.map_congr_left fun n hn => ?_).trans (List.map_id _)
  exact (num_back (hs n hn).1 (hs n hn).2).1
theorem map_read {ns : List Int} (hs : smallK ns) : (ns.map Lib.itoa).map readS = ns := by
  rw [List.map_map]
  refine (List.map_congr_left fun n hn => ?_).trans (List.map_id _)
  exact (num_back (hs n hn).1 (hs n hn).2).2.1
theorem no10 {wd : List UInt8} {ns : List Int} (h10 : (10 : UInt8) ∉ wd) (hs : smallK ns) : (10 : UInt8) ∉ wd ++ numsL ns := by
  intro h
  rcases List.mem_append.1 h with h | h
  · exact h10 h
  · simp only [numsL, List.mem_flatMap, List.mem_cons] at h
    obtain ⟨n, hn, h | h⟩ := h
    · simp at h
    · exact (num_back (hs n hn).1 (hs n hn).2).2.2.1 h
/-- The lines of a circuit's text, without their ends. -/
def circL (c : Ci) : List (List UInt8) := (cirW ++ numsL [c.i0, c.i1]) :: (c.gs.map fun g => gwL g.k.toNat ++ numsL (prtT g)) ++ [outW ++ numsL c.os]
theorem circT_lines (c : Ci) : circT c.i0 c.i1 c.gs c.os = joinL 10 (circL c) := by
  have h : ∀ gs : List G3, gatesT gs = joinL 10 (gs.map fun g => gwL g.k.toNat ++ numsL (prtT g)) := fun gs => by
    induction gs with
    | nil => rfl
    | cons g gs ih =>
      have e : gatesT (g :: gs) = gateT g ++ gatesT gs := by simp [gatesT]
      rw [e, ih]; simp [joinL, gateT, lineL]
  simp only [circT, h, circL, cirW, outW]
  simp [joinL, lineL]
theorem gw_no (k : Nat) : (10 : UInt8) ∉ gwL k ∧ (32 : UInt8) ∉ gwL k := by unfold gwL; split <;> decide
/-- A gate as a valid circuit has it. -/
structure GK (g : G3) : Prop where
  k : 0 ≤ g.k ∧ g.k ≤ 3
  a : 0 ≤ g.a ∧ g.a < 1000
  b : 0 ≤ g.b ∧ g.b < 1000
  n : g.k = 2 → g.b = 0
  o : g.k = 3 → g.a = 0 ∧ g.b = 0
theorem GK.of_is {g : G3} {n : Int} (h : GateIs g n) (hn : n ≤ 1000) : GK g := by
  cases h with
  | xor_ hk a0 a1 b0 b1 => exact ⟨by omega, by omega, by omega, fun h => by omega, fun h => by omega⟩
  | and_ hk a0 a1 b0 b1 => exact ⟨by omega, by omega, by omega, fun h => by omega, fun h => by omega⟩
  | not_ hk a0 a1 b0 => exact ⟨by omega, by omega, by omega, fun h => b0, fun h => by omega⟩
  | one_ hk a0 b0 => exact ⟨by omega, by omega, by omega, fun h => by omega, fun h => ⟨a0, b0⟩⟩
theorem GK.prt {g : G3} (h : GK g) : smallK (prtT g) := by
  intro n hn
  have := h.a; have := h.b
  unfold prtT at hn
  split at hn
  · simp only [List.mem_cons, List.not_mem_nil, or_false] at hn; subst hn; omega
  · split at hn
    · simp at hn
    · simp only [List.mem_cons, List.not_mem_nil, or_false] at hn; rcases hn with rfl | rfl <;> omega
/-- What both readers make of a gate's line. -/
theorem gate_back {g : G3} (h : GK g) (c : Ci) : stepI c (pcs 42 32 (gwL g.k.toNat ++ numsL (prtT g))) = { c with gs := c.gs ++ [g] } ∧ stepS c (splitS 32 (gwL g.k.toNat ++ numsL (prtT g))) = { c with gs := c.gs ++ [g] } := by
  have hb := words_back (gw_no g.k.toNat).2 h.prt
  have hl : (prtT g).length ≤ 41 := by have := prtT_len g; omega
  rw [hb.1, hb.2 hl]
  have ra := num_back h.a.1 h.a.2
  have rb := num_back h.b.1 h.b.2
  obtain ⟨gk, ga, gb⟩ := g
  have hk := h.k
  have hn := h.n
  have ho := h.o
  dsimp only at hk hn ho ra rb
  have hk4 : gk = 0 ∨ gk = 1 ∨ gk = 2 ∨ gk = 3 := by omega
  have e0 : kindW (gwL 0) = 0 := by decide
  have e1 : kindW (gwL 1) = 1 := by decide
  have e2 : kindW (gwL 2) = 2 := by decide
  have e3 : kindW (gwL 3) = 3 := by decide
  have f0 : ¬ gwL 0 = cirW := by decide
  have f1 : ¬ gwL 1 = cirW := by decide
  have f2 : ¬ gwL 2 = cirW := by decide
  have f3 : ¬ gwL 3 = cirW := by decide
  have k0 : ¬ gwL 0 = outW := by decide
  have k1 : ¬ gwL 1 = outW := by decide
  have k2 : ¬ gwL 2 = outW := by decide
  have k3 : ¬ gwL 3 = outW := by decide
  rcases hk4 with rfl | rfl | rfl | rfl
  · simp [stepI, stepS, prtT, e0, f0, k0, ra.1, rb.1, ra.2.1, rb.2.1, gi]
  · simp [stepI, stepS, prtT, e1, f1, k1, ra.1, rb.1, ra.2.1, rb.2.1, gi]
  · have := hn rfl; subst this
    simp [stepI, stepS, prtT, e2, f2, k2, ra.1, ra.2.1, gi]
  · obtain ⟨rfl, rfl⟩ := ho rfl
    simp [stepI, stepS, prtT, e3, f3, k3, gi]
theorem gates_back {gs : List G3} (h : ∀ g ∈ gs, GK g) : ∀ c : Ci, (gs.map fun g => gwL g.k.toNat ++ numsL (prtT g)).foldl (fun c l => stepI c (pcs 42 32 l)) c = { c with gs := c.gs ++ gs } ∧ (gs.map fun g => gwL g.k.toNat ++ numsL (prtT g)).foldl (fun c l => stepS c (splitS 32 l)) c = { c with gs := c.gs ++ gs } := by
  induction gs with
  | nil => intro c; simp
  | cons g gs ih =>
    intro c
    have h1 := gate_back (h g (List.mem_cons_self ..)) c
    have h2 := ih (fun x hx => h x (List.mem_cons_of_mem _ hx)) { c with gs := c.gs ++ [g] }
    simp only [List.map_cons, List.foldl_cons]
    rw [h1.1, h1.2, h2.1, h2.2]
    simp
theorem circB_gk {c : Ci} (h : circB c.i0 c.i1 c.gs c.os = true) : ∀ g ∈ c.gs, GK g := fun g hg => by
  have hb := circB_bd h
  obtain ⟨k, hk, rfl⟩ := List.mem_iff_getElem.1 hg
  have := gatesB_at hb.2.2.2.2.1 hk
  have e : gg c.gs k = c.gs[k] := by simp [gg, List.getElem?_eq_getElem hk]
  rw [e] at this
  exact .of_is this (by omega)
theorem read_back {c : Ci} (h : circB c.i0 c.i1 c.gs c.os = true) : parseI (circT c.i0 c.i1 c.gs c.os) = c ∧ parseS (circT c.i0 c.i1 c.gs c.os) = c := by
  have hb := circB_bd h
  have hgk := circB_gk h
  have hos : smallK c.os := fun n hn => by
    have := allB_iff.1 hb.2.2.2.2.2 n hn
    omega
  have hxy : smallK [c.i0, c.i1] := fun n hn => by
    simp only [List.mem_cons, List.not_mem_nil, or_false] at hn
    rcases hn with rfl | rfl <;> omega
  have hno : ∀ l ∈ circL c, (10 : UInt8) ∉ l := fun l hl => by
    simp only [circL, List.mem_append, List.mem_cons, List.mem_map, List.not_mem_nil, or_false] at hl
    rcases hl with (rfl | ⟨g, hg, rfl⟩) | rfl
    · exact no10 (by decide) hxy
    · exact no10 (gw_no _).1 (hgk g hg).prt
    · exact no10 (by decide) hos
  have hlen : (circL c).length ≤ 303 := by simp [circL]; omega
  have w1 := words_back (wd := cirW) (by decide) hxy
  have w2 := words_back (wd := outW) (by decide) hos
  have e1 : pcs 304 10 (circT c.i0 c.i1 c.gs c.os) = circL c ++ [[]] := by
    rw [circT_lines]
    have := joinL_len 10 (circL c)
    exact splitK_join hno _ (by omega)
  have e2 : splitS 10 (circT c.i0 c.i1 c.gs c.os) = circL c ++ [[]] := by
    rw [circT_lines]; exact splitS_join hno
  have ra := num_back (n := c.i0) hb.1.1 (by omega)
  have rb := num_back (n := c.i1) hb.2.1.1 (by omega)
  have fo : ¬ outW = cirW := by decide
  have n0 : ¬ ([] : List UInt8) = cirW := by decide
  have n1 : ¬ ([] : List UInt8) = outW := by decide
  have n2 : kindW [] = -1 := by decide
  have s1 : ∀ c : Ci, stepI c (pcs 42 32 []) = c := fun c => by
    have : pcs 42 32 [] = [[]] := by decide
    rw [this]; simp [stepI, n0, n1, n2]
  have s2 : ∀ c : Ci, stepS c (splitS 32 []) = c := fun c => by
    have : splitS 32 [] = [[]] := rfl
    rw [this]; simp [stepS, n0, n1, n2]
  have a1 : ∀ c0 : Ci, stepI c0 (pcs 42 32 (cirW ++ numsL [c.i0, c.i1])) = { c0 with i0 := c.i0, i1 := c.i1 } := fun c0 => by
    rw [w1.2 (by simp)]; simp [stepI, ra.1, rb.1, gi]
  have a2 : ∀ c0 : Ci, stepS c0 (splitS 32 (cirW ++ numsL [c.i0, c.i1])) = { c0 with i0 := c.i0, i1 := c.i1 } := fun c0 => by
    rw [w1.1]; simp [stepS, ra.2.1, rb.2.1]
  have b1 : ∀ c0 : Ci, stepI c0 (pcs 42 32 (outW ++ numsL c.os)) = { c0 with os := c.os } := fun c0 => by
    rw [w2.2 (by omega)]; simp only [stepI, List.headD_cons, List.tail_cons, fo, if_false, if_true, map_atoi hos]
  have b2 : ∀ c0 : Ci, stepS c0 (splitS 32 (outW ++ numsL c.os)) = { c0 with os := c0.os ++ c.os } := fun c0 => by
    rw [w2.1]; simp only [stepS, List.headD_cons, List.tail_cons, fo, false_and, if_false, if_true, map_read hos]
  unfold parseI parseS
  rw [e1, e2]
  simp only [circL, List.cons_append, List.append_assoc, List.foldl_cons, List.foldl_append, List.foldl_nil, List.nil_append]
  rw [a1, a2, (gates_back hgk _).1, (gates_back hgk _).2, b1, b2, s1, s2]
  simp
/-- Both readers answer alike. -/
theorem ans_same (s : List UInt8) : ansC (parseI s) s = ansC (parseS s) s := by
  by_cases h : circB (parseI s).i0 (parseI s).i1 (parseI s).gs (parseI s).os = true ∧ circT (parseI s).i0 (parseI s).i1 (parseI s).gs (parseI s).os = s
  · have hr := read_back h.1
    rw [h.2] at hr
    rw [hr.2]
  · by_cases k : circB (parseS s).i0 (parseS s).i1 (parseS s).gs (parseS s).os = true ∧ circT (parseS s).i0 (parseS s).i1 (parseS s).gs (parseS s).os = s
    · have hr := read_back k.1
      rw [k.2] at hr
      rw [hr.1]
    · simp only [ansC, if_neg h, if_neg k]
theorem ansC_some {c : Ci} {s : List UInt8} {d : Ci} (h : ansC c s = some d) : circB d.i0 d.i1 d.gs d.os = true := by
  unfold ansC at h
  split at h
  · rename_i h1; cases h; exact h1.1
  · cases h
theorem ansC_len (c : Ci) (s : List UInt8) : ((ansC c s).getD ⟨0, 0, [], []⟩).gs.length ≤ 300 ∧ ((ansC c s).getD ⟨0, 0, [], []⟩).os.length ≤ 40 := by
  cases h : ansC c s with
  | none => simp
  | some d =>
    have := circB_bd (ansC_some h)
    simp only [Option.getD_some]; omega

end Go.Proofs.YtgpfiefhhlejfaaDoor
