/- Lines of programs in memory; names, operations, the search for a line. Texts below 2^21 bytes. -/
import Derived.Test.YtenknpcbbcbciaaGreatQS04
import Derived.Shelf.Strings.Search2
import Derived.Shelf.Strings.Search3
namespace Go.Proofs.YtenknpcbbcbciaaGreat
open Go.RowKit
set_option linter.unusedVariables false
set_option linter.unusedSimpArgs false
abbrev Str := List UInt8
structure Ln where
 kind : Int
 name : Str
 op : Str
 parts : List Str
 party : Int
 width : Int
 value : Int
def nmC (c : UInt8) : Bool := decide (97 ≤ c.toNat ∧ c.toNat ≤ 122)
def nmB (s : Str) : Bool := s.all nmC && decide (1 ≤ s.length ∧ s.length ≤ 6)
theorem nmB_at {s : Str} {j : Nat} (h : j < s.length) (hx : nmC s[j] = false) : nmB s = false := by
 unfold nmB
 cases hc : s.all nmC with
 | false => rfl
 | true => have := List.all_eq_true.1 hc _ (List.getElem_mem h); rw [hx] at this; cases this
theorem nmB_all {s : Str} (h : ∀ q (hq : q < s.length), nmC s[q] = true) : nmB s = inB 1 6 (s.length : Int) := by
 unfold nmB
 have : s.all nmC = true := List.all_eq_true.2 fun x hx => by
  obtain ⟨q, hq, rfl⟩ := List.getElem_of_mem hx
  exact h q hq
 rw [this, Bool.true_and]
 unfold inB
 congr 1
 apply propext; omega
def lfind (p : Ln → Bool) : List Ln → Int
 | [] => -1
 | x :: l => if p x then 0 else if lfind p l < 0 then -1 else lfind p l + 1
theorem Zdr (p : Ln → Bool) (x : Ln) (l : List Ln) : lfind p (x :: l) = if p x then 0 else if lfind p l < 0 then -1 else lfind p l + 1 := rfl
theorem Zdp (p : Ln → Bool) (l : List Ln) : -1 ≤ lfind p l ∧ lfind p l < l.length := by
 induction l with
 | nil => simp [lfind]
 | cons x l ih =>
  rw [Zdr, List.length_cons]
  split
  ·omega
  ·split <;> omega
theorem lfind_at {p : Ln → Bool} {l : List Ln} {k : Nat} (hk : k < l.length) (hn : ∀ q (h : q < l.length), q < k → p l[q] = false) (hp : p l[k] = true) : lfind p l = k := by
 induction l generalizing k with
 | nil => simp at hk
 | cons x l ih =>
  rw [Zdr]
  cases k with
  | zero => simp at hp; rw [if_pos hp]; rfl
  | succ k =>
   have h0 := hn 0 (by simp) (by omega)
   simp at h0
   rw [h0]
   have := ih (k := k) (by simpa using hk) (fun q h hq => by have h9 := hn (q + 1) (by rw [List.length_cons]; omega) (by omega); rw [List.getElem_cons_succ] at h9; exact h9) (by rw [List.getElem_cons_succ] at hp; exact hp)
   rw [this, if_neg (by simp), if_neg (by omega)]; omega
theorem lfind_none {p : Ln → Bool} {l : List Ln} (h : ∀ q (h : q < l.length), p l[q] = false) : lfind p l = -1 := by
 induction l with
 | nil => rfl
 | cons x l ih =>
  have h0 := h 0 (by simp)
  simp at h0
  rw [Zdr, h0, ih fun q hq => by have h9 := h (q + 1) (by rw [List.length_cons]; omega); rw [List.getElem_cons_succ] at h9; exact h9]
  decide
theorem lfind_append (p : Ln → Bool) (l m : List Ln) (h : 0 ≤ lfind p l) : lfind p (l ++ m) = lfind p l := by
 induction l with
 | nil => simp [lfind] at h
 | cons x l ih =>
  rw [List.cons_append, Zdr, Zdr]
  rw [Zdr] at h
  split
  ·rfl
  ·rename_i hx
   rw [if_neg hx] at h
   by_cases h1 : lfind p l < 0
   ·rw [if_pos h1] at h; omega
   ·rw [ih (by omega)]
def sP (nm : Str) (x : Ln) : Bool := decide (x.kind ≠ 6) && decide (x.name = nm)
def iP (nm : Str) (x : Ln) : Bool := decide (x.name = nm)
def sFind (l : List Ln) (nm : Str) : Int := lfind (sP nm) l
def iFind (l : List Ln) (nm : Str) : Int := if nm = [] then -1 else lfind (iP nm) l
def pw (find : Str → Int) (ws : List Int) : List Str → Option (List Int)
 | [] => some []
 | p :: ps => if find p < 0 then none else (pw find ws ps).map (gi ws (find p).toNat :: ·)
def opB (op : Str) : Bool := [[43], [45], [42], [60], [61], [38], [124], [94]].contains op
def twoW (op : Str) (w v : Int) : Int :=
 if w ≠ v ∨ opB op = false ∨ (op = [42] ∧ 2 * w > 10) then 0 else if op = [42] then 2 * w else if op = [60] ∨ op = [61] then 1 else w
def partsN (k : Int) : Nat := if k = 3 then 2 else if k = 4 ∨ k = 6 then 1 else if k = 5 then 3 else 0
def bareB (x : Ln) : Bool :=
 (decide (x.kind = 3) || decide (x.op = [])) && (decide (x.kind = 1) || decide (x.party = 0)) && (decide (x.kind = 1) || decide (x.kind = 2) || decide (x.width = 0)) && (decide (x.kind = 2) || decide (x.value = 0))
def kindW (x : Ln) (ws : List Int) : Int :=
 if x.kind = 1 then if inB 0 1 x.party && inB 1 10 x.width then x.width else 0
 else if x.kind = 2 then if inB 1 10 x.width && inB 0 (2 ^ x.width.toNat - 1) x.value then x.width else 0
 else if x.kind = 3 then twoW x.op (gi ws 0) (gi ws 1)
 else if x.kind = 4 ∨ x.kind = 6 then gi ws 0
 else if x.kind = 5 then if gi ws 0 = 1 ∧ gi ws 1 = gi ws 2 then gi ws 1 else 0
 else 0
def sW (pre : List Ln) (ws : List Int) (x : Ln) : Int :=
 match pw (sFind pre) ws x.parts with
 | none => 0
 | some w =>
  if (if x.kind = 6 then x.name = [] else nmB x.name = true ∧ sFind pre x.name < 0) ∧ bareB x = true ∧ w.length = partsN x.kind then kindW x w else 0
def iW (pre : List Ln) (ws : List Int) (x : Ln) : Int :=
 match pw (iFind pre) ws x.parts with
 | none => 0
 | some w =>
  if (if x.kind = 6 then x.name = [] else nmB x.name = true) ∧ bareB x = true ∧ w.length = partsN x.kind ∧ (x.name ≠ [] → iFind pre x.name < 0) then kindW x w else 0
def lineW (x : Ln) (ws : List Int) : Int := if (if x.kind = 6 then x.name = [] else nmB x.name = true) ∧ bareB x = true ∧ ws.length = partsN x.kind then kindW x ws else 0
theorem iW_aux (Q1 Q3 Q4 Q5 : Prop) (b : Bool) (K : Int) [Decidable (Q1 ∧ b = true ∧ Q3 ∧ (¬ Q5 → Q4))] [Decidable (Q1 ∧ b = true ∧ Q3)] [Decidable ((if Q1 ∧ b = true ∧ Q3 then K else 0) = 0 ∨ (¬ Q5 ∧ ¬ Q4))] :
 (if Q1 ∧ b = true ∧ Q3 ∧ (¬ Q5 → Q4) then K else 0) = if (if Q1 ∧ b = true ∧ Q3 then K else 0) = 0 ∨ (¬ Q5 ∧ ¬ Q4) then 0 else if Q1 ∧ b = true ∧ Q3 then K else 0 := by
 by_cases h1 : Q1 <;> by_cases h3 : Q3 <;> by_cases h4 : Q4 <;> by_cases h5 : Q5 <;> cases b <;> by_cases hk : K = 0 <;> simp [h1, h3, h4, h5, hk]
theorem iW_line (pre : List Ln) (ws : List Int) (x : Ln) : iW pre ws x = match pw (iFind pre) ws x.parts with | none => 0 | some w => if lineW x w = 0 ∨ (¬ x.name = [] ∧ ¬ iFind pre x.name < 0) then 0 else lineW x w := by
 unfold iW lineW
 cases pw (iFind pre) ws x.parts with
 | none => rfl
 | some w => exact iW_aux _ _ _ _ _ _
def okN (x : Ln) : Prop := if x.kind = 6 then x.name = [] else nmB x.name = true
theorem nmB_ne {s : Str} (h : nmB s = true) : s ≠ [] := by
 intro e; subst e; simp [nmB] at h
theorem find_same {l : List Ln} (h : ∀ x ∈ l, okN x) (nm : Str) : sFind l nm = iFind l nm := by
 unfold sFind iFind
 by_cases e : nm = []
 ·subst e
  rw [if_pos rfl]
  induction l with
  | nil => rfl
  | cons x l ih =>
   have hx := h x (by simp)
   have hp : sP [] x = false := by
    unfold okN at hx
    by_cases hk : x.kind = 6
    ·simp [sP, hk]
    ·rw [if_neg hk] at hx
     simp [sP, nmB_ne hx]
   simp only [lfind, hp, ih (fun y hy => h y (by simp [hy]))]
   decide
 ·rw [if_neg e]
  induction l with
  | nil => rfl
  | cons x l ih =>
   have hx := h x (by simp)
   have hp : sP nm x = iP nm x := by
    unfold okN at hx
    by_cases hk : x.kind = 6
    ·rw [if_pos hk] at hx
     simp [sP, iP, hk, hx, Ne.symm e]
    ·simp [sP, iP, hk]
   simp only [lfind, hp, ih (fun y hy => h y (by simp [hy]))]
theorem pw_congr {f g : Str → Int} (h : ∀ s, f s = g s) (ws : List Int) (ps : List Str) : pw f ws ps = pw g ws ps := by
 have : f = g := funext h
 rw [this]
theorem width_same {pre : List Ln} (h : ∀ x ∈ pre, okN x) (ws : List Int) (x : Ln) : sW pre ws x = iW pre ws x := by
 unfold sW iW
 rw [pw_congr (find_same h)]
 cases pw (iFind pre) ws x.parts with
 | none => rfl
 | some w =>
  simp only
  by_cases hk : x.kind = 6
  ·by_cases hn : x.name = []
   ·simp [hk, hn]
   ·simp [hk, hn]
  ·by_cases hn : nmB x.name = true
   ·have := nmB_ne hn
    simp only [hk, if_false, hn, true_and, this, ne_eq, not_false_eq_true, forall_const, find_same h]
    congr 1
    apply propext; constructor
    ·rintro ⟨a, b, c⟩; exact ⟨b, c, a⟩
    ·rintro ⟨b, c, a⟩; exact ⟨a, b, c⟩
   ·simp [hk, hn]
theorem okN_of {pre : List Ln} {ws : List Int} {x : Ln} (h : sW pre ws x ≠ 0) : okN x := by
 unfold sW at h
 cases hp : pw (sFind pre) ws x.parts with
 | none => rw [hp] at h; exact absurd rfl h
 | some w =>
  rw [hp] at h
  dsimp only at h
  by_cases hc : (if x.kind = 6 then x.name = [] else nmB x.name = true ∧ sFind pre x.name < 0) ∧ bareB x = true ∧ w.length = partsN x.kind
  ·unfold okN
   by_cases hk : x.kind = 6
   ·rw [if_pos hk]; have := hc.1; rwa [if_pos hk] at this
   ·rw [if_neg hk]; have := hc.1; rw [if_neg hk] at this; exact this.1
  ·rw [if_neg hc] at h; exact absurd rfl h
def widsFrom (f : List Ln → List Int → Ln → Int) (pre : List Ln) (ws : List Int) : List Ln → List Int
 | [] => ws
 | x :: l => widsFrom f (pre ++ [x]) (ws ++ [f pre ws x]) l
def wids (f : List Ln → List Int → Ln → Int) (l : List Ln) : List Int := widsFrom f [] [] l
theorem widsFrom_snoc (f : List Ln → List Int → Ln → Int) (pre : List Ln) (ws : List Int) (l : List Ln) (x : Ln) : widsFrom f pre ws (l ++ [x]) = widsFrom f pre ws l ++ [f (pre ++ l) (widsFrom f pre ws l) x] := by
 induction l generalizing pre ws with
 | nil => simp [widsFrom]
 | cons y l ih => simp only [List.cons_append, widsFrom]; rw [ih]; simp
theorem Zdz (f : List Ln → List Int → Ln → Int) (l : List Ln) (x : Ln) : wids f (l ++ [x]) = wids f l ++ [f l (wids f l) x] := by
 unfold wids; rw [widsFrom_snoc]; rfl
theorem wids_len (f : List Ln → List Int → Ln → Int) (l : List Ln) : (wids f l).length = l.length := by
 have : ∀ (l : List Ln) (pre ws), (widsFrom f pre ws l).length = ws.length + l.length := by
  intro l
  induction l with
  | nil => intro pre ws; simp [widsFrom]
  | cons x l ih => intro pre ws; rw [widsFrom, ih]; simp; omega
 simpa [wids] using this l [] []
theorem gi_bd {ws : List Int} {lo hi : Int} (h : ∀ z ∈ ws, lo ≤ z ∧ z ≤ hi) (h0 : lo ≤ 0 ∧ 0 ≤ hi) (j : Nat) : lo ≤ gi ws j ∧ gi ws j ≤ hi := by
 unfold gi
 rw [List.getD_eq_getElem?_getD]
 by_cases hj : j < ws.length
 ·rw [List.getElem?_eq_getElem hj]; exact h _ (List.getElem_mem hj)
 ·rw [List.getElem?_eq_none (by omega)]; exact h0
theorem pw_bd {find : Str → Int} {ws : List Int} {lo hi : Int} (h : ∀ z ∈ ws, lo ≤ z ∧ z ≤ hi) (h0 : lo ≤ 0 ∧ 0 ≤ hi) : ∀ (ps : List Str) (w : List Int), pw find ws ps = some w → ∀ z ∈ w, lo ≤ z ∧ z ≤ hi := by
 intro ps
 induction ps with
 | nil => intro w hw; simp [pw] at hw; subst hw; simp
 | cons p ps ih =>
  intro w hw
  unfold pw at hw
  split at hw
  ·cases hw
  ·rw [Option.map_eq_some_iff] at hw
   obtain ⟨v, hv, rfl⟩ := hw
   intro z hz
   rcases List.mem_cons.1 hz with rfl | hz
   ·exact gi_bd h h0 _
   ·exact ih v hv z hz
theorem pw_len {find : Str → Int} {ws : List Int} : ∀ {ps : List Str} {w : List Int}, pw find ws ps = some w → w.length = ps.length := by
 intro ps
 induction ps with
 | nil => intro w hw; simp [pw] at hw; subst hw; rfl
 | cons p ps ih =>
  intro w hw
  unfold pw at hw
  split at hw
  ·cases hw
  ·rw [Option.map_eq_some_iff] at hw
   obtain ⟨v, hv, rfl⟩ := hw
   simp [ih hv]
theorem twoW_bd {op : Str} {w v : Int} (h : 0 ≤ w ∧ w ≤ 10) : 0 ≤ twoW op w v ∧ twoW op w v ≤ 10 := by
 unfold twoW
 split
 ·omega
 ·rename_i hc
  split
  ·rename_i ho
   have : ¬ (2 * w > 10) := fun h => hc (.inr (.inr ⟨ho, h⟩))
   omega
  ·split <;> omega
theorem kindW_bd {x : Ln} {ws : List Int} (h : ∀ z ∈ ws, 0 ≤ z ∧ z ≤ 10) : 0 ≤ kindW x ws ∧ kindW x ws ≤ 10 := by
 have h0 := gi_bd h (by omega) 0
 have h1 := gi_bd h (by omega) 1
 unfold kindW
 split
 ·split
  ·rename_i hc; simp [inB] at hc; omega
  ·omega
 ·split
  ·split
   ·rename_i hc; simp [inB] at hc; omega
   ·omega
  ·split
   ·exact twoW_bd h0
   ·split
    ·exact h0
    ·split
     ·split <;> omega
     ·omega
theorem sW_bd {pre : List Ln} {ws : List Int} {x : Ln} (h : ∀ z ∈ ws, 0 ≤ z ∧ z ≤ 10) : 0 ≤ sW pre ws x ∧ sW pre ws x ≤ 10 := by
 unfold sW
 split
 ·omega
 ·rename_i w hw
  have hb := kindW_bd (x := x) (pw_bd h (by omega) _ _ hw)
  by_cases hc : (if x.kind = 6 then x.name = [] else nmB x.name = true ∧ sFind pre x.name < 0) ∧ bareB x = true ∧ w.length = partsN x.kind
  ·rw [if_pos hc]; exact hb
  ·rw [if_neg hc]; omega
theorem wids_bd (l : List Ln) : ∀ z ∈ wids sW l, 0 ≤ z ∧ z ≤ 10 := by
 suffices h : ∀ (n : Nat) (l : List Ln), l.length = n → ∀ z ∈ wids sW l, 0 ≤ z ∧ z ≤ 10 from h _ l rfl
 intro n
 induction n with
 | zero => intro l hl; simp at hl; subst hl; simp [wids, widsFrom]
 | succ n ih =>
  intro l hl z hz
  obtain ⟨m, x, rfl⟩ : ∃ m x, l = m ++ [x] := ⟨l.dropLast, l.getLast (by intro e; subst e; simp at hl), (List.dropLast_concat_getLast _).symm⟩
  have hm := ih m (by simpa using hl)
  rw [Zdz] at hz
  rcases List.mem_append.1 hz with hz | hz
  ·exact hm z hz
  ·simp at hz; subst hz; exact sW_bd hm
def allW (l : List Ln) : Prop := ∀ z ∈ wids sW l, z ≠ 0
theorem allW_snoc {l : List Ln} {x : Ln} : allW (l ++ [x]) ↔ allW l ∧ sW l (wids sW l) x ≠ 0 := by
 unfold allW
 rw [Zdz]
 constructor
 ·intro h; exact ⟨fun z hz => h z (by simp [hz]), h _ (by simp)⟩
 ·rintro ⟨h1, h2⟩ z hz
  rcases List.mem_append.1 hz with hz | hz
  ·exact h1 z hz
  ·simp at hz; subst hz; exact h2
theorem allW_ok {l : List Ln} (h : allW l) : ∀ x ∈ l, okN x := by
 suffices H : ∀ (n : Nat) (l : List Ln), l.length = n → allW l → ∀ x ∈ l, okN x from H _ l rfl h
 intro n
 induction n with
 | zero => intro l hl; simp at hl; subst hl; simp
 | succ n ih =>
  intro l hl h x hx
  obtain ⟨m, y, rfl⟩ : ∃ m x, l = m ++ [x] := ⟨l.dropLast, l.getLast (by intro e; subst e; simp at hl), (List.dropLast_concat_getLast _).symm⟩
  obtain ⟨h1, h2⟩ := allW_snoc.1 h
  rcases List.mem_append.1 hx with hx | hx
  ·exact ih m (by simpa using hl) h1 x hx
  ·simp at hx; subst hx; exact okN_of h2
theorem step_same {l : List Ln} (h : allW l) (x : Ln) : iW l (wids sW l) x = sW l (wids sW l) x := (width_same (allW_ok h) _ _).symm
def bs (l : List UInt8) : ByteArray := ⟨l.toArray⟩
theorem bs_size (l : List UInt8) : (bs l).size = l.length := by simp [bs, ByteArray.size]
theorem bs_append (a b : List UInt8) : bs a ++ bs b = bs (a ++ b) := ByteArray.mk_append_mk a b
theorem Zbp (x : List UInt8) : (bs x).toList = x := by rw [ByteArray.toList_eq]; simp [bs]
theorem bs_is {x y : List UInt8} (h : x = y) : ((bs x).toList == y) = true := by rw [Zbp, h]; simp
theorem Zac {x y : List UInt8} (h : ¬ x = y) : ((bs x).toList == y) = false := by rw [Zbp]; simp [h]
def sx (l : List (List UInt8)) (j : Nat) : List UInt8 := l.getD j []
def RX (w : World) (A : Option Addr) (n : Nat) (l : List (List UInt8)) : Prop :=
 l.length = n ∧ (0 < n → ∃ b o, A = some ⟨b, o, none⟩ ∧ b < w.heap.size ∧ ∀ j, j < n → w.cell? ⟨b, o + j, none⟩ = some (.string (bs (sx l j))))
theorem RX.len {w : World} {A : Option Addr} {n : Nat} {l : List (List UInt8)} (h : RX w A n l) : l.length = n := h.1
theorem RX.at_ {w : World} {A : Option Addr} {n k : Nat} {l : List (List UInt8)} (h : RX w A n l) (hk : k < n) : ∃ b o, A = some ⟨b, o, none⟩ ∧ b < w.heap.size ∧ w.cell? ⟨b, o + k, none⟩ = some (.string (bs (sx l k))) := by
 obtain ⟨b, o, h1, h2, h3⟩ := h.2 (by omega)
 exact ⟨b, o, h1, h2, h3 k hk⟩
theorem RX.below {w w' : World} {A : Option Addr} {n B : Nat} {l : List (List UInt8)} (h : RX w A n l) (hb : Below B w w') (hB : w.heap.size ≤ B) : RX w' A n l :=
 ⟨h.1, fun hn => by
  obtain ⟨b, o, h1, h2, h3⟩ := h.2 hn
  exact ⟨b, o, h1, Nat.lt_of_lt_of_le h2 hb.size, fun j hj => Zdj hb (h3 j hj) hB⟩⟩
theorem RX.alt {S : Nat → Prop} {w w' : World} {A : Option Addr} {n : Nat} {l : List (List UInt8)} (h : RX w A n l) (k : Alt S w w') (hS : ∀ b o, A = some ⟨b, o, none⟩ → ¬ S b) : RX w' A n l :=
 ⟨h.1, fun hn => by
  obtain ⟨b, o, h1, h2, h3⟩ := h.2 hn
  exact ⟨b, o, h1, Nat.lt_of_lt_of_le h2 k.size, fun j hj => k.cell_ (h3 j hj) (hS b o h1)⟩⟩
end Go.Proofs.YtenknpcbbcbciaaGreat
namespace Go.Proofs
open Go.Shelf
def Tryz.lays144_ren : Go.Shelf.Ren := ⟨fun | 144 => 159 | 143 => 170 | 219 => 171 | 217 => 172 | 225 => 173 | 224 => 174 | 267 => 175 | 266 => 176 | 314 => 177 | n => n, fun | 9 => 9 | 4 => 4 | 3 => 3 | 5 => 5 | 46 => 51 | 146 => 149 | 51 => 148 | n => n, fun | 1 => 0 | n => n⟩
theorem Tryz.lays144 : Go.Proofs.Lays.n144 Tryz.prog Tryz.lays144_ren := {
 mixed := by kernel_rfl
 f143 := Tryz.func170.trans (congrArg some (by kernel_rfl))
 f144 := Tryz.func159.trans (congrArg some (by kernel_rfl))
 f217 := Tryz.func172.trans (congrArg some (by kernel_rfl))
 f219 := Tryz.func171.trans (congrArg some (by kernel_rfl))
 f224 := Tryz.func174.trans (congrArg some (by kernel_rfl))
 f225 := Tryz.func173.trans (congrArg some (by kernel_rfl))
 f266 := Tryz.func176.trans (congrArg some (by kernel_rfl))
 f267 := Tryz.func175.trans (congrArg some (by kernel_rfl))
 f314 := Tryz.func177.trans (congrArg some (by kernel_rfl))
 t3 := Tryz.underlying3
 a3 := Tryz.isAgg3
 z3 := Tryz.sizeOf3
 v3 := Tryz.zeroValue3
 t4 := Tryz.underlying4
 a4 := Tryz.isAgg4
 z4 := Tryz.sizeOf4
 v4 := Tryz.zeroValue4
 t5 := Tryz.underlying5
 a5 := Tryz.isAgg5
 z5 := Tryz.sizeOf5
 v5 := Tryz.zeroValue5
 t9 := Tryz.underlying9
 a9 := Tryz.isAgg9
 z9 := Tryz.sizeOf9
 v9 := Tryz.zeroValue9
 t46 := Tryz.underlying51
 a46 := Tryz.isAgg51
 z46 := Tryz.sizeOf51
 v46 := Tryz.zeroValue51
 t51 := Tryz.underlying148
 a51 := Tryz.isAgg148
 z51 := Tryz.sizeOf148
 v51 := Tryz.zeroValue148
 t146 := Tryz.underlying149
 a146 := Tryz.isAgg149
 z146 := Tryz.sizeOf149
 v146 := Tryz.zeroValue149
 g1 := by kernel_rfl }
open Go.RowKit Go.Lib in
theorem Tryz.strings_Contains_one (s : ByteArray) (c : UInt8) (w : World) :
 Calls Tryz.prog 159 #[.string s, .string ⟨#[c]⟩] w fun e w' => e = .returned (.bool (decide (0 ≤ Lib.indexByte s.data.toList c))) ∧ w' = w := Any.strings_Contains_one Tryz.lays144 s c w
end Go.Proofs
namespace Go.Proofs.YtenknpcbbcbciaaGreat
open Go.RowKit
set_option linter.unusedVariables false
set_option linter.unusedSimpArgs false
def lx (l : List Ln) (j : Nat) : Ln := l.getD j ⟨0, [], [], [], 0, 0, 0⟩
theorem lx_lt {l : List Ln} {j : Nat} (h : j < l.length) : lx l j = l[j] := by simp [lx, h]
theorem lx_take {l : List Ln} {j k : Nat} (h : j < k) : lx (l.take k) j = lx l j := by
 unfold lx; rw [List.getD_eq_getElem?_getD, List.getD_eq_getElem?_getD, List.getElem?_take, if_pos h]
theorem Zdg {l : List Ln} {k : Nat} (h : k < l.length) : l.take (k + 1) = l.take k ++ [lx l k] := by
 rw [List.take_succ_eq_append_getElem h, lx_lt h]
abbrev lnV (x : Ln) (P : Option Addr) (q : Nat) : Value := .agg #[.int .i64 x.kind, .string (bs x.name), .string (bs x.op), .slice P x.parts.length q, .int .i64 x.party, .int .i64 x.width, .int .i64 x.value]
structure LnAt (w : World) (b o : Nat) (x : Ln) (P : Option Addr) (q : Nat) : Prop where
 c0 : w.cell? ⟨b, o, none⟩ = some (.int .i64 x.kind)
 c1 : w.cell? ⟨b, o + 1, none⟩ = some (.string (bs x.name))
 c2 : w.cell? ⟨b, o + 2, none⟩ = some (.string (bs x.op))
 c3 : w.cell? ⟨b, o + 3, none⟩ = some (.slice P x.parts.length q)
 c4 : w.cell? ⟨b, o + 4, none⟩ = some (.int .i64 x.party)
 c5 : w.cell? ⟨b, o + 5, none⟩ = some (.int .i64 x.width)
 c6 : w.cell? ⟨b, o + 6, none⟩ = some (.int .i64 x.value)
theorem LnAt.below {w w' : World} {b o B : Nat} {x : Ln} {P : Option Addr} {q : Nat} (h : LnAt w b o x P q) (k : Below B w w') (hb : b < B) : LnAt w' b o x P q :=
 ⟨(k.cell (p := ⟨b, o, none⟩) hb).trans h.c0, (k.cell (p := ⟨b, o + 1, none⟩) hb).trans h.c1, (k.cell (p := ⟨b, o + 2, none⟩) hb).trans h.c2, (k.cell (p := ⟨b, o + 3, none⟩) hb).trans h.c3, (k.cell (p := ⟨b, o + 4, none⟩) hb).trans h.c4, (k.cell (p := ⟨b, o + 5, none⟩) hb).trans h.c5, (k.cell (p := ⟨b, o + 6, none⟩) hb).trans h.c6⟩
theorem LnAt.new (w : World) (x : Ln) (P : Option Addr) (q : Nat) (T : TypeId) : LnAt (w.alloc (.cells #[.int .i64 x.kind, .string (bs x.name), .string (bs x.op), .slice P x.parts.length q, .int .i64 x.party, .int .i64 x.width, .int .i64 x.value] T)) w.heap.size 0 x P q :=
 ⟨Zaf _ _ 0 _ rfl, Zaf _ _ 1 _ rfl, Zaf _ _ 2 _ rfl, Zaf _ _ 3 _ rfl, Zaf _ _ 4 _ rfl, Zaf _ _ 5 _ rfl, Zaf _ _ 6 _ rfl⟩
def RLn (w : World) (A : Option Addr) (n : Nat) (l : List Ln) : Prop :=
 l.length = n ∧ (0 < n → ∃ b o, A = some ⟨b, o, none⟩ ∧ b < w.heap.size ∧ ∀ j, j < n → ∃ P q, LnAt w b (o + j * 7) (lx l j) P q ∧ RX w P (lx l j).parts.length (lx l j).parts)
theorem RLn.len {w : World} {A : Option Addr} {n : Nat} {l : List Ln} (h : RLn w A n l) : l.length = n := h.1
theorem RLn.below {w w' : World} {A : Option Addr} {n B : Nat} {l : List Ln} (h : RLn w A n l) (k : Below B w w') (hB : w.heap.size ≤ B) : RLn w' A n l :=
 ⟨h.1, fun hn => by
  obtain ⟨b, o, h1, h2, h3⟩ := h.2 hn
  exact ⟨b, o, h1, Nat.lt_of_lt_of_le h2 k.size, fun j hj => by
   obtain ⟨P, q, h4, h5⟩ := h3 j hj
   exact ⟨P, q, h4.below k (by omega), h5.below k hB⟩⟩⟩
theorem RLn.at_ {w : World} {A : Option Addr} {n k : Nat} {l : List Ln} (h : RLn w A n l) (hk : k < n) : ∃ b o P q, A = some ⟨b, o, none⟩ ∧ b < w.heap.size ∧ LnAt w b (o + k * 7) (lx l k) P q ∧ RX w P (lx l k).parts.length (lx l k).parts := by
 obtain ⟨b, o, h1, h2, h3⟩ := h.2 (by omega)
 obtain ⟨P, q, h4, h5⟩ := h3 k hk
 exact ⟨b, o, P, q, h1, h2, h4, h5⟩
theorem RLn.take {w : World} {A : Option Addr} {n k : Nat} {l : List Ln} (h : RLn w A n l) (hk : k ≤ n) : RLn w A k (l.take k) :=
 ⟨by have := h.1; simp; omega, fun hn => by
  obtain ⟨b, o, h1, h2, h3⟩ := h.2 (by omega)
  exact ⟨b, o, h1, h2, fun j hj => by rw [lx_take hj]; exact h3 j (by omega)⟩⟩
def shortS (s : Str) : Prop := s.length ≤ 2097152
def shortL (x : Ln) : Prop := shortS x.name ∧ shortS x.op ∧ x.parts.length ≤ 2097152 ∧ ∀ s ∈ x.parts, shortS s
theorem bs_is2 {x y : Str} (h : x = y) : ((bs x).toList == (bs y).toList) = true := by rw [h]; simp
theorem bs_not2 {x y : Str} (h : ¬ x = y) : ((bs x).toList == (bs y).toList) = false := by rw [Zbp, Zbp]; simp [h]
set_option maxHeartbeats 800000 in
theorem Zbr (s : Str) (w : World) (hs : shortS s) :
 Calls Tryz.prog 155 #[.string (bs s)] w fun e w' => e = .returned (.bool (nmB s)) ∧ w = w' := by
 have hs' : s.length ≤ 2097152 := hs
 have hz : (bs s).size = s.length := bs_size s
 have hby : ∀ j (h : j < s.length), (bs s)[j]'(by rw [hz]; exact h) = s[j] := fun j h => by
  show (s.toArray)[j] = s[j]
  simp
 go_enter Tryz.func155, Tryz.ntmps155
 go_wp2
 go_loopw [3] (fun i wr => ∃ j : Nat, j ≤ s.length ∧ i = .int .i64 j ∧ Hid (∀ q (h : q < s.length), q < j → nmC s[q] = true) ∧ w = wr) (fun i _ => s.length - (intOf i).toNat)
 case atStart => exact ⟨0, Nat.zero_le _, rfl, zH fun q _ h => absurd h (by omega), rfl⟩
 case round =>
  obtain ⟨j, hj, rfl, hq, rfl⟩ := hrel
  by_cases hlt : j < s.length
  ·have hbj := hby j hlt
   obtain ⟨x, hx⟩ := lT (s[j])
   rw [hx.out] at hbj
   have hxl := x.toNat_lt
   by_cases h1 : x.toNat < 97
   ·have t1 : (x.toNat : Int) < 97 := by omega
    have HR : Hid (nmB s = false) := zH (nmB_at (j := j) hlt (by rw [hx.out]; unfold nmC; simp; omega))
    clear hby hq
    go_wp2
    go_ret
    exact ⟨by rw [HR.out]; rfl, rfl⟩
   ·by_cases h2 : 122 < x.toNat
    ·have t1 : ¬ (x.toNat : Int) < 97 := by omega
     have t2 : (122 : Int) < (x.toNat : Int) := by omega
     have HR : Hid (nmB s = false) := zH (nmB_at (j := j) hlt (by rw [hx.out]; unfold nmC; simp; omega))
     clear hby hq
     go_wp2
     go_ret
     exact ⟨by rw [HR.out]; rfl, rfl⟩
    ·have t1 : ¬ (x.toNat : Int) < 97 := by omega
     have t2 : ¬ (122 : Int) < (x.toNat : Int) := by omega
     have HX : Hid (nmC s[j] = true) := zH (by rw [hx.out]; unfold nmC; simp; omega)
     clear hby
     go_wp2
     go_roundw
     case rel => exact ⟨j + 1, by omega, by go_num, zH fun q h hq' => by
      rcases Nat.lt_or_ge q j with h3 | h3
      ·exact hq.out q h h3
      ·obtain rfl : q = j := by omega
       exact HX.out, by trivial⟩
     case measure => simp [intOf]; omega
  ·obtain rfl : j = s.length := by omega
   have HR : Hid (nmB s = inB 1 6 (s.length : Int)) := zH (nmB_all fun q h => hq.out q h h)
   cases hi : inB 1 6 (s.length : Int) with
   | false =>
    clear hby hq
    go_wp2_with fail
    refine (Zau (s.length : Int) 1 6 false hi _).mono ?_
    rintro e w1 ⟨rfl, rfl⟩
    go_wp2
    go_ret
    exact ⟨by rw [HR.out, hi]; rfl, rfl⟩
   | true =>
    clear hby hq
    go_wp2_with fail
    refine (Zau (s.length : Int) 1 6 true hi _).mono ?_
    rintro e w1 ⟨rfl, rfl⟩
    go_wp2
    go_ret
    exact ⟨by rw [HR.out, hi]; rfl, rfl⟩
set_option maxHeartbeats 800000 in
theorem Zag (s : Str) (w : World) (hs : shortS s) :
 Calls Tryz.prog 150 #[.string (bs s)] w fun e w' => e = .returned (.bool (nmB s)) ∧ w = w' := by
 have hs' : s.length ≤ 2097152 := hs
 have hz : (bs s).size = s.length := bs_size s
 have hby : ∀ j (h : j < s.length), (bs s)[j]'(by rw [hz]; exact h) = s[j] := fun j h => by
  show (s.toArray)[j] = s[j]
  simp
 go_enter Tryz.func150, Tryz.ntmps150
 go_wp2
 go_loopw [6] (fun i wr => ∃ j : Nat, j ≤ s.length ∧ i = .int .i64 j ∧ Hid (∀ q (h : q < s.length), q < j → nmC s[q] = true) ∧ w = wr) (fun i _ => s.length - (intOf i).toNat)
 case atStart => exact ⟨0, Nat.zero_le _, rfl, zH fun q _ h => absurd h (by omega), rfl⟩
 case round =>
  obtain ⟨j, hj, rfl, hq, rfl⟩ := hrel
  by_cases hlt : j < s.length
  ·have hbj := hby j hlt
   obtain ⟨x, hx⟩ := lT (s[j])
   rw [hx.out] at hbj
   have hxl := x.toNat_lt
   by_cases h1 : x.toNat < 97
   ·have t1 : (x.toNat : Int) < 97 := by omega
    have HR : Hid (nmB s = false) := zH (nmB_at (j := j) hlt (by rw [hx.out]; unfold nmC; simp; omega))
    clear hby hq
    go_wp2
    go_ret
    exact ⟨by rw [HR.out]; rfl, rfl⟩
   ·by_cases h2 : 122 < x.toNat
    ·have t1 : ¬ (x.toNat : Int) < 97 := by omega
     have t2 : (122 : Int) < (x.toNat : Int) := by omega
     have HR : Hid (nmB s = false) := zH (nmB_at (j := j) hlt (by rw [hx.out]; unfold nmC; simp; omega))
     clear hby hq
     go_wp2
     go_ret
     exact ⟨by rw [HR.out]; rfl, rfl⟩
    ·have t1 : ¬ (x.toNat : Int) < 97 := by omega
     have t2 : ¬ (122 : Int) < (x.toNat : Int) := by omega
     have HX : Hid (nmC s[j] = true) := zH (by rw [hx.out]; unfold nmC; simp; omega)
     clear hby
     go_wp2
     go_roundw
     case rel => exact ⟨j + 1, by omega, by go_num, zH fun q h hq' => by
      rcases Nat.lt_or_ge q j with h3 | h3
      ·exact hq.out q h h3
      ·obtain rfl : q = j := by omega
       exact HX.out, by trivial⟩
     case measure => simp [intOf]; omega
  ·obtain rfl : j = s.length := by omega
   have HR : Hid (nmB s = inB 1 6 (s.length : Int)) := zH (nmB_all fun q h => hq.out q h h)
   cases hi : inB 1 6 (s.length : Int) with
   | false =>
    clear hby hq
    go_wp2_with fail
    refine (Zap (s.length : Int) 1 6 false hi _).mono ?_
    rintro e w1 ⟨rfl, rfl⟩
    go_wp2
    go_ret
    exact ⟨by rw [HR.out, hi]; rfl, rfl⟩
   | true =>
    clear hby hq
    go_wp2_with fail
    refine (Zap (s.length : Int) 1 6 true hi _).mono ?_
    rintro e w1 ⟨rfl, rfl⟩
    go_wp2
    go_ret
    exact ⟨by rw [HR.out, hi]; rfl, rfl⟩
theorem no_snocL {p : Ln → Bool} {l : List Ln} {k : Nat} (h : ∀ j, j < k → p (lx l j) = false) (hk : p (lx l k) = false) : ∀ j, j < k + 1 → p (lx l j) = false := fun j hj => by
 rcases Nat.lt_or_ge j k with h1 | h1
 ·exact h j h1
 ·obtain rfl : j = k := by omega
  exact hk
theorem lfind_found {p : Ln → Bool} {l : List Ln} {k : Nat} (hk : k < l.length) (hp : p (lx l k) = true) (hn : ∀ j, j < k → p (lx l j) = false) : lfind p l = k :=
 lfind_at hk (fun q h hq => by rw [← lx_lt h]; exact hn q hq) (by rw [← lx_lt hk]; exact hp)
theorem lfind_no {p : Ln → Bool} {l : List Ln} (hn : ∀ j, j < l.length → p (lx l j) = false) : lfind p l = -1 := lfind_none fun q h => by rw [← lx_lt h]; exact hn q h
set_option maxHeartbeats 800000 in
theorem IndexFuncL_any (f : FuncId) (hcf : ∀ args w, Sem.run Tryz.prog (callFunc f args) w = .ok (.enter f args) w) (cap : Array Value) (p : Ln → Bool) (A : Option Addr) (n c : Nat) (l : List Ln) (w : World) (ha : RLn w A n l) (hn : n ≤ 2097152)
 (hf : Hid (∀ x P q w1, Below w.heap.size w w1 → Calls Tryz.prog f (#[lnV x P q] ++ cap) w1 fun e w' => e = .returned (.bool (p x)) ∧ Below w1.heap.size w1 w')) :
 Calls Tryz.prog 119 #[.slice A n c, .func (.func f) #[] cap] w fun e w' => e = .returned (.int .i64 (lfind p l)) ∧ Below w.heap.size w w' := by
 have hl := ha.len
 go_enter Tryz.func119, Tryz.ntmps119
 go_wp2
 go_loopw [8] (fun v wr => ∃ k : Nat, k ≤ n ∧ v = .int .i64 k ∧ Hid (∀ j, j < k → p (lx l j) = false) ∧ Below w.heap.size w wr) (fun v _ => n - (intOf v).toNat)
 case atStart => exact ⟨0, Nat.zero_le _, rfl, zH (fun j hj => by omega), Below.refl _ _⟩
 case round =>
  obtain ⟨k, hk, rfl, hno, hb⟩ := hrel
  by_cases hlt : k < n
  ·obtain ⟨b, o, P, q, rfl, hbB, ⟨c0, c1, c2, c3, c4, c5, c6⟩, hx⟩ := (ha.below hb lR).at_ hlt
   clear ha hx
   cases hd : p (lx l k) with
   | true =>
    have HQ := zH hd; clear hd
    go_wp2_with fail
    refine (hf.out (lx l k) P q _ hb).mono ?_
    rintro e w1 ⟨rfl, hb1⟩
    rw [HQ.out]
    go_wp2
    go_ret
    exact ⟨by rw [lfind_found (by omega) HQ.out hno.out]; rfl, hb.trans (hb1.mono hb.size)⟩
   | false =>
    have HQ := zH hd; clear hd
    go_wp2_with fail
    refine (hf.out (lx l k) P q _ hb).mono ?_
    rintro e w1 ⟨rfl, hb1⟩
    rw [HQ.out]
    go_wp2
    go_roundw
    case rel => exact ⟨k + 1, by omega, by go_num, zH (no_snocL hno.out HQ.out), hb.trans (hb1.mono hb.size)⟩
    case measure => simp [intOf]; omega
  ·obtain rfl : n = k := Nat.le_antisymm (Nat.le_of_not_lt hlt) hk
   have HR : Hid (lfind p l = -1) := zH (lfind_no (fun j hj => hno.out j (by omega)))
   go_wp2
   go_ret
   exact ⟨by rw [HR.out]; rfl, hb⟩
theorem lineOf1_any (x : Ln) (P : Option Addr) (q b : Nat) (nm : Str) (w : World) (hc : w.cell? ⟨b, 0, none⟩ = some (.string (bs nm))) :
 Calls Tryz.prog 120 #[lnV x P q, .pointer (some ⟨b, 0, none⟩)] w fun e w' => e = .returned (.bool (iP nm x)) ∧ Below w.heap.size w w' := by
 have hb := World.block_lt_of_cell? w _ hc
 by_cases h : x.name = nm
 ·have HR : Hid (iP nm x = true) := zH (by simp [iP, h])
  have t := bs_is2 h
  clear h
  go_enter Tryz.func120, Tryz.ntmps120
  go_wp2
  go_ret
  exact ⟨by rw [HR.out]; rfl, bA⟩
 ·have HR : Hid (iP nm x = false) := zH (by simp [iP, h])
  have t := bs_not2 h
  clear h
  go_enter Tryz.func120, Tryz.ntmps120
  go_wp2
  go_ret
  exact ⟨by rw [HR.out]; rfl, bA⟩
theorem lineOf_any (A : Option Addr) (n c : Nat) (l : List Ln) (nm : Str) (w : World) (ha : RLn w A n l) (hn : n ≤ 2097152) :
 Calls Tryz.prog 84 #[.slice A n c, .string (bs nm)] w fun e w' => e = .returned (.int .i64 (iFind l nm)) ∧ Below w.heap.size w w' := by
 have hB : Below w.heap.size w (w.alloc (.cells #[.string (bs nm)] 9)) := bA
 have hc : (w.alloc (.cells #[.string (bs nm)] 9)).cell? ⟨w.heap.size, 0, none⟩ = some (.string (bs nm)) := Zaf _ _ 0 _ rfl
 by_cases h : nm = []
 ·have HR : Hid (iFind l nm = -1) := zH (by simp [iFind, h])
  have t := bs_is h
  clear h ha
  go_enter Tryz.func84, Tryz.ntmps84
  go_wp2
  go_ret
  exact ⟨by rw [HR.out]; rfl, hB⟩
 ·have HR : Hid (iFind l nm = lfind (iP nm) l) := zH (by simp [iFind, h])
  have t := Zac h
  clear h
  go_enter Tryz.func84, Tryz.ntmps84
  go_wp2_with fail
  refine (IndexFuncL_any 120 Tryz.call120 #[.pointer (some ⟨w.heap.size, 0, none⟩)] (iP nm) A n c l _ (ha.below hB lR) hn (zH fun x P q w1 hb1 => lineOf1_any x P q w.heap.size nm w1 ((hb1.cell (p := ⟨w.heap.size, 0, none⟩) (by simp)).trans hc))).mono ?_
  rintro e w1 ⟨rfl, hb1⟩
  go_wp2
  go_ret
  exact ⟨by rw [HR.out]; rfl, hB.trans (hb1.mono hB.size)⟩
set_option maxHeartbeats 800000 in
theorem Zbe (A : Option Addr) (n c : Nat) (l : List Ln) (nm : Str) (w : World) (ha : RLn w A n l) (hn : n ≤ 2097152) :
 Calls Tryz.prog 85 #[.slice A n c, .string (bs nm)] w fun e w' => e = .returned (.int .i64 (sFind l nm)) ∧ Below w.heap.size w w' := by
 have hl := ha.len
 go_enter Tryz.func85, Tryz.ntmps85
 go_wp2
 go_loopw [9] (fun v wr => ∃ k : Nat, k ≤ n ∧ v = .int .i64 k ∧ Hid (∀ j, j < k → sP nm (lx l j) = false) ∧ Below w.heap.size w wr) (fun v _ => n - (intOf v).toNat)
 case atStart => exact ⟨0, Nat.zero_le _, rfl, zH (fun j hj => by omega), Below.refl _ _⟩
 case round =>
  obtain ⟨k, hk, rfl, hno, hb⟩ := hrel
  by_cases hlt : k < n
  ·obtain ⟨b, o, P, q, rfl, hbB, ⟨c0, c1, c2, c3, c4, c5, c6⟩, hx⟩ := (ha.below hb lR).at_ hlt
   clear ha hx
   by_cases h6 : (lx l k).kind = 6
   ·have HQ : Hid (sP nm (lx l k) = false) := zH (by simp [sP, h6])
    rw [h6] at c0
    clear h6
    go_wp2
    go_roundw
    case rel => exact ⟨k + 1, by omega, by go_num, zH (no_snocL hno.out HQ.out), hb.alloc (Nat.le_trans hb.size lR) _⟩
    case measure => simp [intOf]; omega
   ·have t6 : ((lx l k).kind == 6) = false := by simp [h6]
    have t6' : ((lx l k).kind != 6) = true := by simp [h6]
    by_cases h : (lx l k).name = nm
    ·have HQ : Hid (sP nm (lx l k) = true) := zH (by simp [sP, h6, h])
     have t := bs_is2 h
     clear h h6
     go_wp2
     go_ret
     exact ⟨by unfold sFind; rw [lfind_found (by omega) HQ.out hno.out]; rfl, hb.alloc (Nat.le_trans hb.size lR) _⟩
    ·have HQ : Hid (sP nm (lx l k) = false) := zH (by simp [sP, h])
     have t := bs_not2 h
     clear h h6
     go_wp2
     go_roundw
     case rel => exact ⟨k + 1, by omega, by go_num, zH (no_snocL hno.out HQ.out), hb.alloc (Nat.le_trans hb.size lR) _⟩
     case measure => simp [intOf]; omega
  ·obtain rfl : n = k := Nat.le_antisymm (Nat.le_of_not_lt hlt) hk
   have HR : Hid (sFind l nm = -1) := zH (lfind_no (fun j hj => hno.out j (by omega)))
   go_wp2
   go_ret
   exact ⟨by rw [HR.out]; rfl, hb⟩
end Go.Proofs.YtenknpcbbcbciaaGreat
