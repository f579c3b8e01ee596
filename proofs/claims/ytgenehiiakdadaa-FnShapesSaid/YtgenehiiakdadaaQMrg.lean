/- MergeGates: what it returns, in plain words; the tests whether two gates are the same; the search among gates. Lengths below 2^21. -/
import Derived.Test.YtgenehiiakdadaaQMk2
import Derived.Test.YtgenehiiakdadaaQMvd
import Derived.Test.YtgenehiiakdadaaQSep
namespace Go.Proofs.Ytgenehiiakdadaa
open Go.RowKit
set_option linter.unusedVariables false
set_option linter.unusedSimpArgs false

/-- Two gates have one kind, and one pair of wires in any order. -/
def sameG (o g : G3) : Bool := (o.k == g.k) && (((o.a == g.a) && (o.b == g.b)) || (((o.k == 0) || (o.k == 1)) && ((o.a == g.b) && (o.b == g.a))))
def siSameB (o g : G3) : Bool := (o.k == g.k) && (((o.a == g.a) && (o.b == g.b)) || ((!(o.k == 2)) && ((o.a == g.b) && (o.b == g.a))))
theorem siSame_eq {o g : G3} {n m : Int} (ho : GateIs o m) (hg : GateIs g n) : siSameB o g = sameG o g := by
  obtain ⟨ok, oa, ob⟩ := o
  obtain ⟨gk, ga, gb⟩ := g
  unfold siSameB sameG
  cases ho with
  | xor_ hk => dsimp only at hk; subst hk; simp
  | and_ hk => dsimp only at hk; subst hk; simp
  | not_ hk => dsimp only at hk; subst hk; simp
  | one_ hk h1 h2 =>
    dsimp only at hk h1 h2; subst hk; subst h1; subst h2
    cases hg with
    | xor_ hk => dsimp only at hk; subst hk; simp
    | and_ hk => dsimp only at hk; subst hk; simp
    | not_ hk => dsimp only at hk; subst hk; simp
    | one_ hk h1 h2 => dsimp only at hk h1 h2; subst hk; subst h1; subst h2; simp
/-- The place of the first gate that is the same; the number of the gates if there is none. -/
def same1 (hs : List G3) (g : G3) : Nat := hs.findIdx fun o => sameG o g
/-- The gates and the wires' new places behind k gates. -/
def mrg (n : Nat) (gs : List G3) : Nat → List G3 × List Int
  | 0 => ([], spn 0 n)
  | k + 1 => ((mrg n gs k).1 ++ [mvG (fun w => gi (mrg n gs k).2 w.toNat) (gg gs k)], (mrg n gs k).2 ++ [(n : Int) + (same1 (mrg n gs k).1 (mvG (fun w => gi (mrg n gs k).2 w.toNat) (gg gs k)) : Nat)])
theorem mrg_len (n : Nat) (gs : List G3) (k : Nat) : (mrg n gs k).1.length = k ∧ (mrg n gs k).2.length = n + k := by
  induction k with
  | zero => exact ⟨rfl, spn_len 0 n⟩
  | succ k ih =>
    obtain ⟨h1, h2⟩ := ih
    constructor
    · simp [mrg, h1]
    · simp [mrg, h2]; omega
theorem same1_le (hs : List G3) (g : G3) : same1 hs g ≤ hs.length := List.findIdx_le_length
theorem gi_spn {n j : Nat} (h : j < n) : gi (spn 0 n) j = j := by
  unfold spn gi
  simp [h]
theorem gi_append_l {xs ys : List Int} {j : Nat} (h : j < xs.length) : gi (xs ++ ys) j = gi xs j := by
  unfold gi; rw [List.getD_eq_getElem?_getD, List.getD_eq_getElem?_getD, List.getElem?_append_left h]
theorem gi_append_r (xs : List Int) (v : Int) : gi (xs ++ [v]) xs.length = v := by
  unfold gi; simp
theorem mrg_bd (n : Nat) (gs : List G3) (k : Nat) : ∀ j : Nat, j < n + k → 0 ≤ gi (mrg n gs k).2 j ∧ gi (mrg n gs k).2 j ≤ j := by
  induction k with
  | zero => intro j hj; rw [show (mrg n gs 0).2 = spn 0 n from rfl, gi_spn (by omega)]; omega
  | succ k ih =>
    intro j hj
    have hl := (mrg_len n gs k)
    simp only [mrg]
    rcases Nat.lt_or_ge j (n + k) with h | h
    · rw [gi_append_l (by omega)]; exact ih j h
    · obtain rfl : j = (mrg n gs k).2.length := by omega
      rw [gi_append_r]
      have := same1_le (mrg n gs k).1 (mvG (fun w => gi (mrg n gs k).2 w.toNat) (gg gs k))
      omega
theorem GateIs.moved {g : G3} {n : Int} {to : Int → Int} (h : GateIs g n) (ht : ∀ z, 0 ≤ z → z < n → 0 ≤ to z ∧ to z < n) : GateIs (mvG to g) n := by
  obtain ⟨gk, ga, gb⟩ := g
  cases h with
  | xor_ hk a0 a1 b0 b1 => dsimp only at *; subst hk; have h1 := ht _ a0 a1; have h2 := ht _ b0 b1; exact .xor_ (by simp [mvG]) (by simpa [mvG] using h1.1) (by simpa [mvG] using h1.2) (by simpa [mvG] using h2.1) (by simpa [mvG] using h2.2)
  | and_ hk a0 a1 b0 b1 => dsimp only at *; subst hk; have h1 := ht _ a0 a1; have h2 := ht _ b0 b1; exact .and_ (by simp [mvG]) (by simpa [mvG] using h1.1) (by simpa [mvG] using h1.2) (by simpa [mvG] using h2.1) (by simpa [mvG] using h2.2)
  | not_ hk a0 a1 b0 => dsimp only at *; subst hk; subst b0; have h1 := ht _ a0 a1; exact .not_ (by simp [mvG]) (by simpa [mvG] using h1.1) (by simpa [mvG] using h1.2) (by simp [mvG])
  | one_ hk a0 b0 => dsimp only at *; subst hk; subst a0; subst b0; exact .one_ (by simp [mvG]) (by simp [mvG]) (by simp [mvG])
theorem mrg_to {n : Nat} {gs : List G3} {k : Nat} {z : Int} (h0 : 0 ≤ z) (h1 : z < n + k) : 0 ≤ gi (mrg n gs k).2 z.toNat ∧ gi (mrg n gs k).2 z.toNat < n + k := by
  have := mrg_bd n gs k z.toNat (by omega)
  omega
theorem mrg_gate {n : Nat} {gs : List G3} {k : Nat} (hg : GateIs (gg gs k) ((n : Int) + k)) : GateIs (mvG (fun w => gi (mrg n gs k).2 w.toNat) (gg gs k)) ((n : Int) + k) :=
  hg.moved fun z h0 h1 => mrg_to h0 h1
theorem gg_append_l {xs ys : List G3} {j : Nat} (h : j < xs.length) : gg (xs ++ ys) j = gg xs j := by
  unfold gg; rw [List.getD_eq_getElem?_getD, List.getD_eq_getElem?_getD, List.getElem?_append_left h]
theorem gg_append_r (xs : List G3) (v : G3) : gg (xs ++ [v]) xs.length = v := by
  unfold gg; simp
theorem mrg_gates {n : Nat} {gs : List G3} {m : Nat} (hg : ∀ k : Nat, k < m → GateIs (gg gs k) ((n : Int) + k)) : ∀ k : Nat, k ≤ m → ∀ j : Nat, j < k → GateIs (gg (mrg n gs k).1 j) ((n : Int) + j) := by
  intro k
  induction k with
  | zero => intro _ j hj; omega
  | succ k ih =>
    intro hk j hj
    have hl := (mrg_len n gs k).1
    simp only [mrg]
    rcases Nat.lt_or_ge j k with h | h
    · rw [gg_append_l (by omega)]; exact ih (by omega) j h
    · obtain rfl : j = k := by omega
      have : gg ((mrg n gs j).1 ++ [mvG (fun w => gi (mrg n gs j).2 w.toNat) (gg gs j)]) j = mvG (fun w => gi (mrg n gs j).2 w.toNat) (gg gs j) := by
        have h2 := gg_append_r (mrg n gs j).1 (mvG (fun w => gi (mrg n gs j).2 w.toNat) (gg gs j))
        rwa [hl] at h2
      rw [this]; exact mrg_gate (hg j (by omega))
def mergeF (x y : Int) (gs : List G3) (os : List Int) : Option Ci :=
  if circB x y gs os then some ⟨x, y, (mrg (x + y).toNat gs gs.length).1, pick (mrg (x + y).toNat gs gs.length).2 os⟩ else none
theorem mergeF_len (x y : Int) (gs : List G3) (os : List Int) : ((mergeF x y gs os).getD ⟨0, 0, [], []⟩).gs.length ≤ 300 ∧ ((mergeF x y gs os).getD ⟨0, 0, [], []⟩).os.length ≤ 40 := by
  unfold mergeF
  split
  · rename_i h
    have := circB_bd h
    simp only [Option.getD_some, (mrg_len _ _ _).1, pick_len]; omega
  · simp
/-- The place of the first gate with a property; -1 if there is none. -/
def fidx (q : G3 → Bool) (gs : List G3) : Int := if gs.findIdx q < gs.length then (gs.findIdx q : Int) else -1
theorem fidx_found {q : G3 → Bool} {gs : List G3} {i : Nat} (hi : i < gs.length) (hq : q (gg gs i) = true) (hno : ∀ j, j < i → q (gg gs j) = false) : fidx q gs = i := by
  have h : gs.findIdx q = i := (List.findIdx_eq hi).2 ⟨by rwa [gg_lt hi] at hq, fun j hj => by have := hno j hj; rwa [gg_lt (by omega)] at this⟩
  unfold fidx; rw [h, if_pos hi]
theorem no_snoc {q : G3 → Bool} {gs : List G3} {k : Nat} (h : ∀ j, j < k → q (gg gs j) = false) (hk : q (gg gs k) = false) : ∀ j, j < k + 1 → q (gg gs j) = false := fun j hj => by
  rcases Nat.lt_or_ge j k with h1 | h1
  · exact h j h1
  · obtain rfl : j = k := by omega
    exact hk
theorem fidx_none {q : G3 → Bool} {gs : List G3} (hno : ∀ j, j < gs.length → q (gg gs j) = false) : fidx q gs = -1 := by
  have h : gs.findIdx q = gs.length := List.findIdx_eq_length.2 fun x hx => by
    obtain ⟨j, hj, rfl⟩ := List.getElem_of_mem hx
    have := hno j hj
    rwa [gg_lt hj] at this
  unfold fidx; rw [h, if_neg (by omega)]
theorem fidx_same {hs : List G3} {g : G3} {k : Nat} (hl : hs.length = k) : (0 ≤ fidx (fun o => sameG o g) hs → fidx (fun o => sameG o g) hs = same1 hs g ∧ same1 hs g < k) ∧ (¬ 0 ≤ fidx (fun o => sameG o g) hs → same1 hs g = k) := by
  subst hl
  have hle := same1_le hs g
  unfold fidx
  change (0 ≤ (if same1 hs g < hs.length then (same1 hs g : Int) else -1) → (if same1 hs g < hs.length then (same1 hs g : Int) else -1) = same1 hs g ∧ same1 hs g < hs.length) ∧ (¬ 0 ≤ (if same1 hs g < hs.length then (same1 hs g : Int) else -1) → same1 hs g = hs.length)
  split
  · exact ⟨fun _ => ⟨rfl, by assumption⟩, fun h => absurd (by omega) h⟩
  · exact ⟨fun h => absurd h (by omega), fun _ => by omega⟩

end Go.Proofs.Ytgenehiiakdadaa
