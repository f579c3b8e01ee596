/- The language: lines, their widths as the program and as the reference reckon them; both agree. No program in sight. Plain functions: bits of numbers, numbers of bits, tables of a circuit's outs; no program in sight. Contracts of the bits of a number, the number of bits, the outs of a circuit. Slices of slices of ints: read, owned, appended to, marked. Lengths up to 2^20. -/
import Derived.Test.YtjjphaiomaiilaaGreatQB01
import Derived.Test.YtjjphaiomaiilaaGreatQB05
import Derived.Test.YtjjphaiomaiilaaGreatQB02
namespace Go.Proofs.YtjjphaiomaiilaaGreat
open Go.RowKit
set_option linter.unusedVariables false
set_option linter.unusedSimpArgs false
abbrev Str := List UInt8
structure Ln where
  kind : Int
  name : Str
  op : Str
  parts : List Str
  party : Int
  width : Int
  value : Int
def nmC (c : UInt8) : Bool := decide (97 ≤ c.toNat ∧ c.toNat ≤ 122)
def nmB (s : Str) : Bool := s.all nmC && decide (1 ≤ s.length ∧ s.length ≤ 6)
theorem nmB_at {s : Str} {j : Nat} (h : j < s.length) (hx : nmC s[j] = false) : nmB s = false := by
  unfold nmB
  cases hc : s.all nmC with
  | false => rfl
  | true => have := List.all_eq_true.1 hc _ (List.getElem_mem h); rw [hx] at this; cases this
theorem nmB_all {s : Str} (h : ∀ q (hq : q < s.length), nmC s[q] = true) : nmB s = inB 1 6 (s.length : Int) := by
  unfold nmB
  have : s.all nmC = true := List.all_eq_true.2 fun x hx => by
    obtain ⟨q, hq, rfl⟩ := List.getElem_of_mem hx
    exact h q hq
  rw [this, Bool.true_and]
  unfold inB
  congr 1
  apply propext; omega
def lfind (p : Ln → Bool) : List Ln → Int
  | [] => -1
  | x :: l => if p x then 0 else if lfind p l < 0 then -1 else lfind p l + 1
theorem lfind_cons (p : Ln → Bool) (x : Ln) (l : List Ln) : lfind p (x :: l) = if p x then 0 else if lfind p l < 0 then -1 else lfind p l + 1 := rfl
theorem lfind_bd (p : Ln → Bool) (l : List Ln) : -1 ≤ lfind p l ∧ lfind p l < l.length := by
  induction l with
  | nil => simp [lfind]
  | cons x l ih =>
    rw [lfind_cons, List.length_cons]
    split
    · omega
    · split <;> omega
theorem lfind_at {p : Ln → Bool} {l : List Ln} {k : Nat} (hk : k < l.length) (hn : ∀ q (h : q < l.length), q < k → p l[q] = false) (hp : p l[k] = true) : lfind p l = k := by
  induction l generalizing k with
  | nil => simp at hk
  | cons x l ih =>
    rw [lfind_cons]
    cases k with
    | zero => simp at hp; rw [if_pos hp]; rfl
    | succ k =>
      have h0 := hn 0 (by simp) (by omega)
      simp at h0
      rw [h0]
      have := ih (k := k) (by simpa using hk) (fun q h hq => by have h9 := hn (q + 1) (by rw [List.length_cons]; omega) (by omega); rw [List.getElem_cons_succ] at h9; exact h9) (by rw [List.getElem_cons_succ] at hp; exact hp)
      rw [this, if_neg (by simp), if_neg (by omega)]; omega
theorem lfind_none {p : Ln → Bool} {l : List Ln} (h : ∀ q (h : q < l.length), p l[q] = false) : lfind p l = -1 := by
  induction l with
  | nil => rfl
  | cons x l ih =>
    have h0 := h 0 (by simp)
    simp at h0
    rw [lfind_cons, h0, ih fun q hq => by have h9 := h (q + 1) (by rw [List.length_cons]; omega); rw [List.getElem_cons_succ] at h9; exact h9]
    decide
theorem lfind_append (p : Ln → Bool) (l m : List Ln) (h : 0 ≤ lfind p l) : lfind p (l ++ m) = lfind p l := by
  induction l with
  | nil => simp [lfind] at h
  | cons x l ih =>
    rw [List.cons_append, lfind_cons, lfind_cons]
    rw [lfind_cons] at h
    split
    · rfl
    · rename_i hx
      rw [if_neg hx] at h
      by_cases h1 : lfind p l < 0
      · rw [if_pos h1] at h; omega
      · rw [ih (by omega)]
def sP (nm : Str) (x : Ln) : Bool := decide (x.kind ≠ 6) && decide (x.name = nm)
def iP (nm : Str) (x : Ln) : Bool := decide (x.name = nm)
def sFind (l : List Ln) (nm : Str) : Int := lfind (sP nm) l
def iFind (l : List Ln) (nm : Str) : Int := if nm = [] then -1 else lfind (iP nm) l
def pw (find : Str → Int) (ws : List Int) : List Str → Option (List Int)
  | [] => some []
  | p :: ps => if find p < 0 then none else (pw find ws ps).map (gi ws (find p).toNat :: ·)
def opB (op : Str) : Bool := [[43], [45], [42], [60], [61], [38], [124], [94]].contains op
def twoW (op : Str) (w v : Int) : Int :=
  if w ≠ v ∨ opB op = false ∨ (op = [42] ∧ 2 * w > 10) then 0 else if op = [42] then 2 * w else if op = [60] ∨ op = [61] then 1 else w
def partsN (k : Int) : Nat := if k = 3 then 2 else if k = 4 ∨ k = 6 then 1 else if k = 5 then 3 else 0
def bareB (x : Ln) : Bool :=
  (decide (x.kind = 3) || decide (x.op = [])) && (decide (x.kind = 1) || decide (x.party = 0)) && (decide (x.kind = 1) || decide (x.kind = 2) || decide (x.width = 0)) && (decide (x.kind = 2) || decide (x.value = 0))
def kindW (x : Ln) (ws : List Int) : Int :=
  if x.kind = 1 then if inB 0 1 x.party && inB 1 10 x.width then x.width else 0
  else if x.kind = 2 then if inB 1 10 x.width && inB 0 (2 ^ x.width.toNat - 1) x.value then x.width else 0
  else if x.kind = 3 then twoW x.op (gi ws 0) (gi ws 1)
  else if x.kind = 4 ∨ x.kind = 6 then gi ws 0
  else if x.kind = 5 then if gi ws 0 = 1 ∧ gi ws 1 = gi ws 2 then gi ws 1 else 0
  else 0
def sW (pre : List Ln) (ws : List Int) (x : Ln) : Int :=
  match pw (sFind pre) ws x.parts with
  | none => 0
  | some w =>
    if (if x.kind = 6 then x.name = [] else nmB x.name = true ∧ sFind pre x.name < 0) ∧ bareB x = true ∧ w.length = partsN x.kind then kindW x w else 0
def iW (pre : List Ln) (ws : List Int) (x : Ln) : Int :=
  match pw (iFind pre) ws x.parts with
  | none => 0
  | some w =>
    if (if x.kind = 6 then x.name = [] else nmB x.name = true) ∧ bareB x = true ∧ w.length = partsN x.kind ∧ (x.name ≠ [] → iFind pre x.name < 0) then kindW x w else 0
def lineW (x : Ln) (ws : List Int) : Int := if (if x.kind = 6 then x.name = [] else nmB x.name = true) ∧ bareB x = true ∧ ws.length = partsN x.kind then kindW x ws else 0
theorem iW_aux (Q1 Q3 Q4 Q5 : Prop) (b : Bool) (K : Int) [Decidable (Q1 ∧ b = true ∧ Q3 ∧ (¬ Q5 → Q4))] [Decidable (Q1 ∧ b = true ∧ Q3)] [Decidable ((if Q1 ∧ b = true ∧ Q3 then K else 0) = 0 ∨ (¬ Q5 ∧ ¬ Q4))] :
    (if Q1 ∧ b = true ∧ Q3 ∧ (¬ Q5 → Q4) then K else 0) = if (if Q1 ∧ b = true ∧ Q3 then K else 0) = 0 ∨ (¬ Q5 ∧ ¬ Q4) then 0 else if Q1 ∧ b = true ∧ Q3 then K else 0 := by
  by_cases h1 : Q1 <;> by_cases h3 : Q3 <;> by_cases h4 : Q4 <;> by_cases h5 : Q5 <;> cases b <;> by_cases hk : K = 0 <;> simp [h1, h3, h4, h5, hk]
theorem iW_line (pre : List Ln) (ws : List Int) (x : Ln) : iW pre ws x = match pw (iFind pre) ws x.parts with | none => 0 | some w => if lineW x w = 0 ∨ (¬ x.name = [] ∧ ¬ iFind pre x.name < 0) then 0 else lineW x w := by
  unfold iW lineW
  cases pw (iFind pre) ws x.parts with
  | none => rfl
  | some w => exact iW_aux _ _ _ _ _ _
def okN (x : Ln) : Prop := if x.kind = 6 then x.name = [] else nmB x.name = true
theorem nmB_ne {s : Str} (h : nmB s = true) : s ≠ [] := by
  intro e; subst e; simp [nmB] at h
theorem find_same {l : List Ln} (h : ∀ x ∈ l, okN x) (nm : Str) : sFind l nm = iFind l nm := by
  unfold sFind iFind
  by_cases e : nm = []
  · subst e
    rw [if_pos rfl]
    induction l with
    | nil => rfl
    | cons x l ih =>
      have hx := h x (by simp)
      have hp : sP [] x = false := by
        unfold okN at hx
        by_cases hk : x.kind = 6
        · simp [sP, hk]
        · rw [if_neg hk] at hx
          simp [sP, nmB_ne hx]
      simp only [lfind, hp, ih (fun y hy => h y (by simp [hy]))]
      decide
  · rw [if_neg e]
    induction l with
    | nil => rfl
    | cons x l ih =>
      have hx := h x (by simp)
      have hp : sP nm x = iP nm x := by
        unfold okN at hx
        by_cases hk : x.kind = 6
        · rw [if_pos hk] at hx
          simp [sP, iP, hk, hx, Ne.symm e]
        · simp [sP, iP, hk]
      simp only [lfind, hp, ih (fun y hy => h y (by simp [hy]))]
theorem pw_congr {f g : Str → Int} (h : ∀ s, f s = g s) (ws : List Int) (ps : List Str) : pw f ws ps = pw g ws ps := by
  have : f = g := funext h
  rw [this]
theorem width_same {pre : List Ln} (h : ∀ x ∈ pre, okN x) (ws : List Int) (x : Ln) : sW pre ws x = iW pre ws x := by
  unfold sW iW
  rw [pw_congr (find_same h)]
  cases pw (iFind pre) ws x.parts with
  | none => rfl
  | some w =>
    simp only
    by_cases hk : x.kind = 6
    · by_cases hn : x.name = []
      · simp [hk, hn]
      · simp [hk, hn]
    · by_cases hn : nmB x.name = true
      · have := nmB_ne hn
        simp only [hk, if_false, hn, true_and, this, ne_eq, not_false_eq_true, forall_const, find_same h]
        congr 1
        apply propext; constructor
        · rintro ⟨a, b, c⟩; exact ⟨b, c, a⟩
        · rintro ⟨b, c, a⟩; exact ⟨a, b, c⟩
      · simp [hk, hn]
theorem okN_of {pre : List Ln} {ws : List Int} {x : Ln} (h : sW pre ws x ≠ 0) : okN x := by
  unfold sW at h
  cases hp : pw (sFind pre) ws x.parts with
  | none => rw [hp] at h; exact absurd rfl h
  | some w =>
    rw [hp] at h
    dsimp only at h
    by_cases hc : (if x.kind = 6 then x.name = [] else nmB x.name = true ∧ sFind pre x.name < 0) ∧ bareB x = true ∧ w.length = partsN x.kind
    · unfold okN
      by_cases hk : x.kind = 6
      · rw [if_pos hk]; have := hc.1; rwa [if_pos hk] at this
      · rw [if_neg hk]; have := hc.1; rw [if_neg hk] at this; exact this.1
    · rw [if_neg hc] at h; exact absurd rfl h
def widsFrom (f : List Ln → List Int → Ln → Int) (pre : List Ln) (ws : List Int) : List Ln → List Int
  | [] => ws
  | x :: l => widsFrom f (pre ++ [x]) (ws ++ [f pre ws x]) l
def wids (f : List Ln → List Int → Ln → Int) (l : List Ln) : List Int := widsFrom f [] [] l
theorem widsFrom_snoc (f : List Ln → List Int → Ln → Int) (pre : List Ln) (ws : List Int) (l : List Ln) (x : Ln) : widsFrom f pre ws (l ++ [x]) = widsFrom f pre ws l ++ [f (pre ++ l) (widsFrom f pre ws l) x] := by
  induction l generalizing pre ws with
  | nil => simp [widsFrom]
  | cons y l ih => simp only [List.cons_append, widsFrom]; rw [ih]; simp
theorem wids_snoc (f : List Ln → List Int → Ln → Int) (l : List Ln) (x : Ln) : wids f (l ++ [x]) = wids f l ++ [f l (wids f l) x] := by
  unfold wids; rw [widsFrom_snoc]; rfl
theorem wids_len (f : List Ln → List Int → Ln → Int) (l : List Ln) : (wids f l).length = l.length := by
  have : ∀ (l : List Ln) (pre ws), (widsFrom f pre ws l).length = ws.length + l.length := by
    intro l
    induction l with
    | nil => intro pre ws; simp [widsFrom]
    | cons x l ih => intro pre ws; rw [widsFrom, ih]; simp; omega
  simpa [wids] using this l [] []
theorem gi_bd {ws : List Int} {lo hi : Int} (h : ∀ z ∈ ws, lo ≤ z ∧ z ≤ hi) (h0 : lo ≤ 0 ∧ 0 ≤ hi) (j : Nat) : lo ≤ gi ws j ∧ gi ws j ≤ hi := by
  unfold gi
  rw [List.getD_eq_getElem?_getD]
  by_cases hj : j < ws.length
  · rw [List.getElem?_eq_getElem hj]; exact h _ (List.getElem_mem hj)
  · rw [List.getElem?_eq_none (by omega)]; exact h0
theorem pw_bd {find : Str → Int} {ws : List Int} {lo hi : Int} (h : ∀ z ∈ ws, lo ≤ z ∧ z ≤ hi) (h0 : lo ≤ 0 ∧ 0 ≤ hi) : ∀ (ps : List Str) (w : List Int), pw find ws ps = some w → ∀ z ∈ w, lo ≤ z ∧ z ≤ hi := by
  intro ps
  induction ps with
  | nil => intro w hw; simp [pw] at hw; subst hw; simp
  | cons p ps ih =>
    intro w hw
    unfold pw at hw
    split at hw
    · cases hw
    · rw [Option.map_eq_some_iff] at hw
      obtain ⟨v, hv, rfl⟩ := hw
      intro z hz
      rcases List.mem_cons.1 hz with rfl | hz
      · exact gi_bd h h0 _
      · exact ih v hv z hz
theorem pw_len {find : Str → Int} {ws : List Int} : ∀ {ps : List Str} {w : List Int}, pw find ws ps = some w → w.length = ps.length := by
  intro ps
  induction ps with
  | nil => intro w hw; simp [pw] at hw; subst hw; rfl
  | cons p ps ih =>
    intro w hw
    unfold pw at hw
    split at hw
    · cases hw
    · rw [Option.map_eq_some_iff] at hw
      obtain ⟨v, hv, rfl⟩ := hw
      simp [ih hv]
theorem twoW_bd {op : Str} {w v : Int} (h : 0 ≤ w ∧ w ≤ 10) : 0 ≤ twoW op w v ∧ twoW op w v ≤ 10 := by
  unfold twoW
  split
  · omega
  · rename_i hc
    split
    · rename_i ho
      have : ¬ (2 * w > 10) := fun h => hc (.inr (.inr ⟨ho, h⟩))
      omega
    · split <;> omega
theorem kindW_bd {x : Ln} {ws : List Int} (h : ∀ z ∈ ws, 0 ≤ z ∧ z ≤ 10) : 0 ≤ kindW x ws ∧ kindW x ws ≤ 10 := by
  have h0 := gi_bd h (by omega) 0
  have h1 := gi_bd h (by omega) 1
  unfold kindW
  split
  · split
    · rename_i hc; simp [inB] at hc; omega
    · omega
  · split
    · split
      · rename_i hc; simp [inB] at hc; omega
      · omega
    · split
      · exact twoW_bd h0
      · split
        · exact h0
        · split
          · split <;> omega
          · omega
theorem sW_bd {pre : List Ln} {ws : List Int} {x : Ln} (h : ∀ z ∈ ws, 0 ≤ z ∧ z ≤ 10) : 0 ≤ sW pre ws x ∧ sW pre ws x ≤ 10 := by
  unfold sW
  split
  · omega
  · rename_i w hw
    have hb := kindW_bd (x := x) (pw_bd h (by omega) _ _ hw)
    by_cases hc : (if x.kind = 6 then x.name = [] else nmB x.name = true ∧ sFind pre x.name < 0) ∧ bareB x = true ∧ w.length = partsN x.kind
    · rw [if_pos hc]; exact hb
    · rw [if_neg hc]; omega
theorem wids_bd (l : List Ln) : ∀ z ∈ wids sW l, 0 ≤ z ∧ z ≤ 10 := by
  suffices h : ∀ (n : Nat) (l : List Ln), l.length = n → ∀ z ∈ wids sW l, 0 ≤ z ∧ z ≤ 10 from h _ l rfl
  intro n
  induction n with
  | zero => intro l hl; simp at hl; subst hl; simp [wids, widsFrom]
  | succ n ih =>
    intro l hl z hz
    obtain ⟨m, x, rfl⟩ : ∃ m x, l = m ++ [x] := ⟨l.dropLast, l.getLast (by intro e; subst e; simp at hl), (List.dropLast_concat_getLast _).symm⟩
    have hm := ih m (by simpa using hl)
    rw [wids_snoc] at hz
    rcases List.mem_append.1 hz with hz | hz
    · exact hm z hz
    · simp at hz; subst hz; exact sW_bd hm
def allW (l : List Ln) : Prop := ∀ z ∈ wids sW l, z ≠ 0
theorem allW_snoc {l : List Ln} {x : Ln} : allW (l ++ [x]) ↔ allW l ∧ sW l (wids sW l) x ≠ 0 := by
  unfold allW
  rw [wids_snoc]
  constructor
  · intro h; exact ⟨fun z hz => h z (by simp [hz]), h _ (by simp)⟩
  · rintro ⟨h1, h2⟩ z hz
    rcases List.mem_append.1 hz with hz | hz
    · exact h1 z hz
    · simp at hz; subst hz; exact h2
theorem allW_ok {l : List Ln} (h : allW l) : ∀ x ∈ l, okN x := by
  suffices H : ∀ (n : Nat) (l : List Ln), l.length = n → allW l → ∀ x ∈ l, okN x from H _ l rfl h
  intro n
  induction n with
  | zero => intro l hl; simp at hl; subst hl; simp
  | succ n ih =>
    intro l hl h x hx
    obtain ⟨m, y, rfl⟩ : ∃ m x, l = m ++ [x] := ⟨l.dropLast, l.getLast (by intro e; subst e; simp at hl), (List.dropLast_concat_getLast _).symm⟩
    obtain ⟨h1, h2⟩ := allW_snoc.1 h
    rcases List.mem_append.1 hx with hx | hx
    · exact ih m (by simpa using hl) h1 x hx
    · simp at hx; subst hx; exact okN_of h2
theorem step_same {l : List Ln} (h : allW l) (x : Ln) : iW l (wids sW l) x = sW l (wids sW l) x := (width_same (allW_ok h) _ _).symm
theorem ofInt_i64 {a : Nat} (ha : a < 9223372036854775808) : (BitVec.ofInt 64 (a : Int)).toNat = a := by
  rw [BitVec.ofInt_natCast, BitVec.toNat_ofNat]; exact Nat.mod_eq_of_lt (by omega)
theorem band_nat {a b : Nat} (ha : a < 4611686018427387904) (hb : b < 4611686018427387904) : bits .and .i64 (a : Int) (b : Int) = ((a &&& b : Nat) : Int) := by
  have hx : a &&& b < 2 ^ 62 := Nat.and_lt_two_pow _ (by omega)
  show IntKind.i64.wrap ((BitVec.ofInt 64 (a : Int) &&& BitVec.ofInt 64 (b : Int)).toNat : Int) = _
  rw [BitVec.toNat_and, ofInt_i64 (by omega), ofInt_i64 (by omega)]
  exact IntWalk.i64_in _ (by omega)
theorem and_one (n : Nat) : n &&& 1 = n % 2 := Nat.and_one_is_mod n
def bitsN (n k : Nat) : List Int := tab k fun i => ((n / 2 ^ i % 2 : Nat) : Int)
theorem bitsN_len (n k : Nat) : (bitsN n k).length = k := tab_len _ _
theorem bitsN_snoc (n k : Nat) : bitsN n (k + 1) = bitsN n k ++ [((n / 2 ^ k % 2 : Nat) : Int)] := tab_snoc _ _
theorem btOf_any (n k : Nat) (w : World) (hn : n ≤ 1099511627776) (hk : k ≤ 1000000) : Calls Tryz.prog 78 #[.int .i64 n, .int .i64 k] w (RetI w (bitsN n k)) := by
  go_enter Tryz.func78, Tryz.ntmps78
  go_wp2
  go_loopw [5, 0, 1] (fun v a b wr => ∃ (i : Nat) (A' : Option Addr) (c' : Nat), i ≤ k ∧ b = .int .i64 ((k - i : Nat) : Int) ∧ a = .int .i64 ((n / 2 ^ i : Nat) : Int) ∧ v = .slice A' i c' ∧ Own wr w.heap.size wr.heap.size (.slice A' i c') i (bitsN n i) ∧ Below w.heap.size w wr) (fun _ _ b _ => (intOf b).toNat)
  case atStart => exact ⟨0, _, _, Nat.zero_le _, rfl, by simp, rfl, Own.none_ _ _ _, Below.refl _ _⟩
  case round =>
    obtain ⟨i, A', c', hi, rfl, rfl, rfl, hown, hbw⟩ := hrel
    by_cases hlt : i < k
    · have hsn : Hid (bitsN n (i + 1) = bitsN n i ++ [((n / 2 ^ i % 2 : Nat) : Int)]) := Lib.hid (bitsN_snoc n i)
      have hdv : Hid (n / 2 ^ (i + 1) = n / 2 ^ i / 2) := Lib.hid (by rw [Nat.pow_succ, Nat.div_div_eq_div_mul])
      have hle : n / 2 ^ i ≤ n := Nat.div_le_self _ _
      generalize n / 2 ^ i = z at *
      have hz := hbw.size
      rw [Int.natCast_emod] at hsn
      have hownA := hown.alloc (.cells #[.int .i64 ((z : Int) % 2)] 3)
      have hbA := hbw.alloc hz (.cells #[.int .i64 ((z : Int) % 2)] 3)
      go_wp2_with (at_builtin; refine wpList_app _ rfl _ _ rfl rfl hownA rfl (RI_one _ _ _ _ (by simp)) (by omega) (by first | omega | (simp; done) | (simp; omega)) ?_; intro A5 c5 w5 hown5 hg5 hat5)
      have hb5 := below_app hbA hownA hg5 (by simp; omega) (Nat.le_refl _)
      rw [show [(z : Int) % ((2 : Nat) : Int)] = [(z : Int) % 2] from rfl] at hsn
      rw [← hsn.out] at hown5
      clear hbA hownA hg5 hat5 hown hbw
      go_wp2
      go_roundw
      case rel => exact ⟨i + 1, _, _, by omega, by go_num, by rw [hdv.out]; go_num, rfl, hown5, hb5⟩
      case measure => simp [intOf]; omega
    · obtain rfl : i = k := by omega
      go_wp2
      go_ret
      exact RetI.mk_ (bitsN_len _ _) rfl hown hbw
theorem bitsOf_any (n k : Nat) (w : World) (hn : n ≤ 1099511627776) (hk : k ≤ 40) : Calls Tryz.prog 81 #[.int .i64 n, .int .i64 k] w (RetI w (bitsN n k)) := by
  go_enter Tryz.func81, Tryz.ntmps81
  go_wp2
  go_loopw [5, 9] (fun v b wr => ∃ (i : Nat) (A' : Option Addr) (c' : Nat), i ≤ k ∧ b = .int .i64 i ∧ v = .slice A' i c' ∧ Own wr w.heap.size wr.heap.size (.slice A' i c') i (bitsN n i) ∧ Below w.heap.size w wr) (fun _ b _ => k - (intOf b).toNat)
  case atStart => exact ⟨0, _, _, Nat.zero_le _, rfl, rfl, by simpa [bitsN, tab_zero] using Own_new0 w w.heap.size (Nat.le_refl _), (Below.refl _ _).alloc (Nat.le_refl _) _⟩
  case round =>
    obtain ⟨i, A', c', hi, rfl, rfl, hown, hbw⟩ := hrel
    by_cases hlt : i < k
    · have hsn : Hid (bitsN n (i + 1) = bitsN n i ++ [((n / 2 ^ i % 2 : Nat) : Int)]) := Lib.hid (bitsN_snoc n i)
      have hz := hbw.size
      have hle : n / 2 ^ i ≤ n := Nat.div_le_self _ _
      have hq : Hid (bits .and .i64 ((n : Int) / 2 ^ i) 1 = ((n / 2 ^ i % 2 : Nat) : Int)) := Lib.hid (by
        have h1 := band_nat (a := n / 2 ^ i) (b := 1) (by omega) (by omega)
        rw [and_one] at h1
        rw [← h1]; simp [Int.natCast_ediv, Int.natCast_pow])
      rw [← hq.out] at hsn
      have hownA := hown.alloc (.cells #[.int .i64 (bits .and .i64 ((n : Int) / 2 ^ i) 1)] 3)
      have hbA := hbw.alloc hz (.cells #[.int .i64 (bits .and .i64 ((n : Int) / 2 ^ i) 1)] 3)
      go_wp2_with (at_builtin; refine wpList_app _ rfl _ _ rfl rfl hownA rfl (RI_one _ _ _ _ (by simp)) (by omega) (by first | omega | (simp; done) | (simp; omega)) ?_; intro A5 c5 w5 hown5 hg5 hat5)
      have hb5 := below_app hbA hownA hg5 (by simp; omega) (Nat.le_refl _)
      rw [← hsn.out] at hown5
      clear hbA hownA hg5 hat5 hown hbw
      go_wp2
      go_roundw
      case rel => exact ⟨i + 1, _, _, by omega, by go_num, rfl, hown5, hb5⟩
      case measure => simp [intOf]; omega
    · obtain rfl : i = k := by omega
      go_wp2
      go_ret
      exact RetI.mk_ (bitsN_len _ _) rfl hown hbw
theorem info_ints : (Tryz.prog.info? 30).map (fun i => (i.zero, i.size, i.bytes)) = some (some (.slice none 0 0), 1, 24) := by kernel_rfl
def gl (xss : List (List Int)) (j : Nat) : List Int := xss.getD j []
theorem gl_append_lt {xss yss : List (List Int)} {j : Nat} (h : j < xss.length) : gl (xss ++ yss) j = gl xss j := by
  unfold gl; rw [List.getD_eq_getElem?_getD, List.getD_eq_getElem?_getD, List.getElem?_append_left h]
theorem gl_append_eq {xss : List (List Int)} {ys : List Int} : gl (xss ++ [ys]) xss.length = ys := by simp [gl]
def RII (w : World) (A : Option Addr) (n : Nat) (xss : List (List Int)) : Prop :=
  xss.length = n ∧ (0 < n → ∃ b o, A = some ⟨b, o, none⟩ ∧ b < w.heap.size ∧ ∀ j, j < n → ∃ A' m c', w.cell? ⟨b, o + j, none⟩ = some (.slice A' m c') ∧ RI w A' m (gl xss j))
theorem RII.len {w : World} {A : Option Addr} {n : Nat} {xss : List (List Int)} (h : RII w A n xss) : xss.length = n := h.1
theorem RII.at_ {w : World} {A : Option Addr} {n : Nat} {xss : List (List Int)} {k : Nat} (h : RII w A n xss) (hk : k < n) :
    ∃ b o A' m c', A = some ⟨b, o, none⟩ ∧ b < w.heap.size ∧ w.cell? ⟨b, o + k, none⟩ = some (.slice A' m c') ∧ RI w A' m (gl xss k) := by
  obtain ⟨b, o, hA, hb, hc⟩ := h.2 (by omega)
  obtain ⟨A', m, c', h1, h2⟩ := hc k hk
  exact ⟨b, o, A', m, c', hA, hb, h1, h2⟩
theorem RII.below {w w' : World} {A : Option Addr} {n : Nat} {xss : List (List Int)} (h : RII w A n xss) {B : Nat} (hb : Below B w w') (hB : w.heap.size ≤ B) : RII w' A n xss :=
  ⟨h.1, fun hn => by
    obtain ⟨b, o, hA, hlt, hc⟩ := h.2 hn
    refine ⟨b, o, hA, Nat.lt_of_lt_of_le hlt hb.size, fun j hj => ?_⟩
    obtain ⟨A', m, c', h1, h2⟩ := hc j hj
    exact ⟨A', m, c', (hb.cell (p := ⟨b, o + j, none⟩) (by exact Nat.lt_of_lt_of_le hlt hB)).trans h1, h2.below hb hB⟩⟩
theorem RII.drewN {w : World} {A : Option Addr} {n : Nat} {xss : List (List Int)} (h : RII w A n xss) (k : Nat) : RII (w.drewN k) A n xss := h
def OwnII (w : World) (lo hi : Nat) (v : Value) (n : Nat) (xss : List (List Int)) : Prop :=
  ∃ vals : List Value, w.ownsRow lo 30 1 v n vals ∧ (∀ g, v.ownBlock = some g → g < hi) ∧ xss.length = n ∧
    (∀ j : Nat, j < n → ∃ A' m c', vals[j]? = some (.slice A' m c') ∧ Own w lo hi (.slice A' m c') m (gl xss j)) ∧
    (∀ (i j : Nat) (u u' : Value), i < j → vals[i]? = some u → vals[j]? = some u' → Apart u u')
theorem ownsRow_ne {w : World} {lo lo' e e' s s' n n' : Nat} {v v' : Value} {xs xs' : List Value} (h : w.ownsRow lo e s v n xs) (h' : w.ownsRow lo' e' s' v' n' xs') (hne : e ≠ e') : Apart v v' := by
  intro g hg hg'
  rcases h.2 with ⟨rfl, _⟩ | ⟨a, cap, cur, rfl, _, hh, _⟩
  · simp [Value.ownBlock] at hg
  · rcases h'.2 with ⟨rfl, _⟩ | ⟨b, cap', cur', rfl, _, hh', _⟩
    · simp [Value.ownBlock] at hg'
    · simp only [Value.ownBlock, Option.some.injEq] at hg hg'
      subst hg; subst hg'
      rw [hh] at hh'
      injection hh' with hh'
      injection hh' with _ ht
      exact hne ht
theorem OwnII.len {w : World} {lo hi n : Nat} {v : Value} {xss : List (List Int)} (h : OwnII w lo hi v n xss) : xss.length = n := by
  obtain ⟨_, _, _, h3, _⟩ := h; exact h3
theorem OwnII.none_ (w : World) (lo hi : Nat) : OwnII w lo hi (.slice none 0 0) 0 [] :=
  ⟨[], World.ownsRow_nil w lo _ _, fun g hg => by simp [Value.ownBlock] at hg, rfl, fun j hj => absurd hj (by omega), fun i j u u' _ h => by simp at h⟩
theorem OwnII.lt {w : World} {lo hi n : Nat} {v : Value} {xss : List (List Int)} (h : OwnII w lo hi v n xss) : ∀ g, v.ownBlock = some g → lo ≤ g ∧ g < hi ∧ g < w.heap.size := by
  obtain ⟨vals, h1, h2, _⟩ := h
  exact fun g hg => ⟨(h1.lt g hg).1, h2 g hg, (h1.lt g hg).2⟩
theorem OwnII.some_ {w : World} {lo hi n c : Nat} {A : Option Addr} {xss : List (List Int)} (h : OwnII w lo hi (.slice A n c) n xss) (hn : 0 < n) : ∃ g, A = some ⟨g, 0, none⟩ ∧ lo ≤ g ∧ g < hi ∧ g < w.heap.size := by
  obtain ⟨vals, h1, h2, _⟩ := h
  obtain ⟨g, cap, hv, h3, h4⟩ := h1.form hn
  simp only [Value.slice.injEq, true_and] at hv
  obtain ⟨rfl, rfl⟩ := hv
  exact ⟨g, rfl, h3, h2 g rfl, h4⟩
theorem ownsRow_chg {w w' : World} {lo lo' hi' e s n : Nat} {v : Value} {xs : List Value} (h : w.ownsRow lo e s v n xs) (k : Chg lo' hi' w w') (hd : ∀ g, v.ownBlock = some g → g < lo' ∨ hi' ≤ g) : w'.ownsRow lo e s v n xs := by
  refine ⟨h.1, ?_⟩
  rcases h.2 with h1 | ⟨g, cap, cur, rfl, hlo, hg, r⟩
  · exact .inl h1
  · exact .inr ⟨g, cap, cur, rfl, hlo, by rw [k.block g (h.lt g (by simp [Value.ownBlock])).2 (hd g (by simp [Value.ownBlock]))]; exact hg, r⟩
theorem OwnII.chg {w w' : World} {lo hi lo' hi' n : Nat} {v : Value} {xss : List (List Int)} (h : OwnII w lo hi v n xss) (k : Chg lo' hi' w w') (hd : hi ≤ lo' ∨ hi' ≤ lo) : OwnII w' lo hi v n xss := by
  have hlt := h.lt
  obtain ⟨vals, h1, h2, h3, h4, h5⟩ := h
  refine ⟨vals, ownsRow_chg h1 k (fun g hg => by have := hlt g hg; omega), h2, h3, fun j hj => ?_, h5⟩
  obtain ⟨A', m, c', h6, h7⟩ := h4 j hj
  exact ⟨A', m, c', h6, h7.chg k hd⟩
theorem OwnII.below {w w' : World} {lo hi n : Nat} {v : Value} {xss : List (List Int)} {B : Nat} (h : OwnII w lo hi v n xss) (hb : Below B w w') (hB : w.heap.size ≤ B) : OwnII w' lo hi v n xss := by
  have k : Chg 0 0 w w' := Chg.of_below (hb.mono hB)
  exact h.chg k (.inr (Nat.zero_le _))
theorem OwnII.now {w : World} {lo hi n : Nat} {v : Value} {xss : List (List Int)} (h : OwnII w lo hi v n xss) : OwnII w lo w.heap.size v n xss := by
  have hlt := h.lt
  obtain ⟨vals, h1, h2, h3, h4, h5⟩ := h
  refine ⟨vals, h1, fun g hg => (hlt g hg).2.2, h3, fun j hj => ?_, h5⟩
  obtain ⟨A', m, c', h6, h7⟩ := h4 j hj
  exact ⟨A', m, c', h6, h7.now⟩
theorem OwnII.lo_ {w : World} {lo lo' hi n : Nat} {v : Value} {xss : List (List Int)} (h : OwnII w lo hi v n xss) (hl : lo' ≤ lo) : OwnII w lo' hi v n xss := by
  obtain ⟨vals, h1, h2, h3, h4, h5⟩ := h
  refine ⟨vals, ⟨h1.1, ?_⟩, h2, h3, fun j hj => ?_, h5⟩
  · rcases h1.2 with h6 | ⟨g, cap, cur, hv, hb, r⟩
    · exact .inl h6
    · exact .inr ⟨g, cap, cur, hv, by omega, r⟩
  · obtain ⟨A', m, c', h6, h7⟩ := h4 j hj
    exact ⟨A', m, c', h6, h7.lo_ hl⟩
theorem OwnII.reads {w : World} {lo hi n c : Nat} {A : Option Addr} {xss : List (List Int)} (h : OwnII w lo hi (.slice A n c) n xss) : RII w A n xss := by
  refine ⟨h.len, fun hn => ?_⟩
  obtain ⟨g, rfl, _, _, hlt⟩ := h.some_ hn
  obtain ⟨vals, h1, h2, h3, h4, h5⟩ := h
  refine ⟨g, 0, rfl, hlt, fun j hj => ?_⟩
  obtain ⟨A', m, c', h6, h7⟩ := h4 j hj
  refine ⟨A', m, c', ?_, h7.reads⟩
  obtain ⟨cap, hv⟩ : ∃ cap, c = cap := ⟨_, rfl⟩
  rw [Nat.zero_add, h1.cellAt j (by omega), h6]
theorem OwnII.app {w w2 w5 : World} {lo n c m c' H : Nat} {A A5 : Option Addr} {c5 : Nat} {xss : List (List Int)} {ys : List Int} {vals : List Value} {hi : Nat}
    (h1 : w.ownsRow lo 30 1 (.slice A n c) n vals) (h3 : xss.length = n)
    (h4 : ∀ j : Nat, j < n → ∃ A' m c', vals[j]? = some (.slice A' m c') ∧ Own w lo hi (.slice A' m c') m (gl xss j))
    (h5 : ∀ (i j : Nat) (u u' : Value), i < j → vals[i]? = some u → vals[j]? = some u' → Apart u u')
    (hb : Below w.heap.size w w2) (hnew : Own w2 w.heap.size hi (.slice (some ⟨H, 0, none⟩) m c') m ys) (hlo : lo ≤ w.heap.size)
    (hr : w5.ownsRow lo 30 1 (.slice A5 (n + 1) c5) (n + 1) (vals ++ [.slice (some ⟨H, 0, none⟩) m c'])) (hg : w2.grownBy w5 (Value.slice A n c).ownBlock) :
    OwnII w5 lo w5.heap.size (.slice A5 (n + 1) c5) (n + 1) (xss ++ [ys]) := by
  have hrow2 : w2.ownsRow lo 30 1 (.slice A n c) n vals := h1.kept (grownBy_of_below hb none) (by cases h : (Value.slice A n c).ownBlock <;> simp)
  have hl : vals.length = n := by simpa using h1.1
  have hne : ∀ {lo' hi' k : Nat} {u : Value} {zs : List Int}, Own w2 lo' hi' u k zs → Own w5 lo' hi' u k zs := by
    intro lo' hi' k u zs hu
    exact hu.apart hg (ownsRow_ne hu.1 hrow2 (by decide))
  refine ⟨_, hr, fun g hg' => (hr.lt g hg').2, by simp [h3], fun j hj => ?_, fun i j u u' hij hu hu' => ?_⟩
  · by_cases hjn : j < n
    · obtain ⟨A', m', c'', h6, h7⟩ := h4 j hjn
      refine ⟨A', m', c'', by rw [List.getElem?_append_left (by omega)]; exact h6, ?_⟩
      rw [gl_append_lt (by omega)]
      exact (hne (h7.below hb (.inl (Nat.le_refl _)))).now
    · obtain rfl : j = n := by omega
      refine ⟨some ⟨H, 0, none⟩, m, c', by rw [List.getElem?_append_right (by omega), hl, Nat.sub_self]; rfl, ?_⟩
      rw [← h3, gl_append_eq]
      exact ((hne hnew).lo_ hlo).now
  · by_cases hjn : j < n
    · rw [List.getElem?_append_left (by omega)] at hu hu'
      exact h5 i j u u' hij hu hu'
    · have hj2 : j < (vals ++ [Value.slice (some ⟨H, 0, none⟩) m c']).length := by
        rcases Nat.lt_or_ge j (vals ++ [Value.slice (some ⟨H, 0, none⟩) m c']).length with h | h
        · exact h
        · rw [List.getElem?_eq_none h] at hu'; cases hu'
      simp at hj2
      obtain rfl : j = n := by omega
      rw [List.getElem?_append_left (by omega)] at hu
      rw [List.getElem?_append_right (by omega), hl, Nat.sub_self] at hu'
      simp at hu'
      subst hu'
      obtain ⟨A', m', c'', h6, h7⟩ := h4 i (by omega)
      rw [hu] at h6
      injection h6 with h6
      subst h6
      intro g hg1 hg2
      have q1 := h7.lt g hg1
      have q2 := hnew.lt g hg2
      omega
theorem OwnII.row {w : World} {lo hi n g c : Nat} {xss : List (List Int)} (h : OwnII w lo hi (.slice (some ⟨g, 0, none⟩) n c) n xss) {k : Nat} (hk : k < n) :
    ∃ A' m c', w.cell? ⟨g, k, none⟩ = some (.slice A' m c') ∧ Own w lo hi (.slice A' m c') m (gl xss k) ∧
      ∀ (w' : World) (ys : List Int), Own w' lo hi (.slice A' m c') m ys → w.grownBy w' (Value.slice A' m c').ownBlock → OwnII w' lo hi (.slice (some ⟨g, 0, none⟩) n c) n (xss.set k ys) := by
  obtain ⟨vals, h1, h2, h3, h4, h5⟩ := h
  obtain ⟨A', m, c', h6, h7⟩ := h4 k hk
  refine ⟨A', m, c', by rw [h1.cellAt k (by omega), h6], h7, fun w' ys hy hg => ?_⟩
  have hap := ownsRow_ne h1 h7.1 (by decide)
  refine ⟨vals, h1.kept hg (by
    cases hv : (Value.slice (some ⟨g, 0, none⟩) n c).ownBlock with
    | none => exact .inl rfl
    | some q => exact .inr (fun he => hap q hv he.symm)), h2, by simpa using h3, fun j hj => ?_, h5⟩
  by_cases hjk : j = k
  · subst hjk
    refine ⟨A', m, c', h6, ?_⟩
    rw [show gl (xss.set j ys) j = ys from by simp [gl, h3, hj]]
    exact hy
  · obtain ⟨B', m', d', h8, h9⟩ := h4 j hj
    refine ⟨B', m', d', h8, ?_⟩
    rw [show gl (xss.set k ys) j = gl xss j from by unfold gl; rw [List.getD_eq_getElem?_getD, List.getD_eq_getElem?_getD, List.getElem?_set_ne (fun e => hjk e.symm)]]
    refine h9.apart hg ?_
    rcases Nat.lt_or_gt_of_ne hjk with h | h
    · exact h5 j k _ _ h h8 h6
    · exact (h5 k j _ _ h h6 h8).symm_
end Go.Proofs.YtjjphaiomaiilaaGreat
