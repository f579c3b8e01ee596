/- DropDead: what it returns, in plain words. No program. -/
import Derived.Test.YtgenehiiakdadaaQMrg
import Derived.Test.YtgenehiiakdadaaQPut
namespace Go.Proofs.Ytgenehiiakdadaa
open Go.RowKit
set_option linter.unusedVariables false
set_option linter.unusedSimpArgs false

/-- The wires that a gate reads. -/
def prt (g : G3) : List Int := if g.k = 0 ∨ g.k = 1 then [g.a, g.b] else if g.k = 2 then [g.a] else []
def puts (l xs : List Int) : List Int := xs.foldl putL l
def inL (l : List Int) (z : Int) : Bool := decide (z ∈ l)
/-- One gate's step backwards: what a used gate reads is used. -/
def stp (X : Nat) (gs : List G3) (k : Nat) (L : List Int) : List Int := if inL L ((X : Int) + k) then puts L (prt (gg gs k)) else L
/-- The gates k-1 .. 0, backwards. -/
def usd (X : Nat) (gs : List G3) : Nat → List Int → List Int
  | 0, L => L
  | k + 1, L => usd X gs k (stp X gs k L)
def usedL (X : Nat) (gs : List G3) (os : List Int) : List Int := usd X gs gs.length (puts [] os)
theorem puts_snoc (l xs : List Int) (v : Int) : puts l (xs ++ [v]) = putL (puts l xs) v := by simp [puts]
theorem puts_mem {l xs : List Int} {z : Int} : z ∈ puts l xs ↔ z ∈ xs ∨ z ∈ l := by
  induction xs generalizing l with
  | nil => simp [puts]
  | cons a xs ih =>
    have h : puts l (a :: xs) = puts (putL l a) xs := rfl
    rw [h, ih, putL_mem, List.mem_cons]
    constructor
    · rintro (h | h | h)
      · exact .inl (.inr h)
      · exact .inl (.inl h)
      · exact .inr h
    · rintro ((h | h) | h)
      · exact .inr (.inl h)
      · exact .inl h
      · exact .inr (.inr h)
theorem putL_le (l : List Int) (x : Int) : (putL l x).length ≤ l.length + 1 := by
  rw [putL_len]; split <;> omega
theorem puts_le (l xs : List Int) : (puts l xs).length ≤ l.length + xs.length := by
  induction xs generalizing l with
  | nil => simp [puts]
  | cons a xs ih =>
    have h : puts l (a :: xs) = puts (putL l a) xs := rfl
    have h1 := ih (putL l a)
    have h2 := putL_le l a
    rw [h, List.length_cons]; omega
theorem prt_le (g : G3) : (prt g).length ≤ 2 := by
  unfold prt; split
  · simp
  · split <;> simp
theorem prt_lt {g : G3} {n : Int} (h : GateIs g n) : ∀ z ∈ prt g, 0 ≤ z ∧ z < n := by
  obtain ⟨gk, ga, gb⟩ := g
  cases h with
  | xor_ hk a0 a1 b0 b1 => dsimp only at *; subst hk; intro z hz; simp [prt] at hz; rcases hz with rfl | rfl <;> constructor <;> assumption
  | and_ hk a0 a1 b0 b1 => dsimp only at *; subst hk; intro z hz; simp [prt] at hz; rcases hz with rfl | rfl <;> constructor <;> assumption
  | not_ hk a0 a1 b0 => dsimp only at *; subst hk; intro z hz; simp [prt] at hz; subst hz; exact ⟨a0, a1⟩
  | one_ hk a0 b0 => dsimp only at *; subst hk; intro z hz; simp [prt] at hz
theorem stp_mono {X : Nat} {gs : List G3} {k : Nat} {L : List Int} {z : Int} (h : z ∈ L) : z ∈ stp X gs k L := by
  unfold stp; split
  · exact puts_mem.2 (.inr h)
  · exact h
theorem usd_mono {X : Nat} {gs : List G3} {k : Nat} {L : List Int} {z : Int} (h : z ∈ L) : z ∈ usd X gs k L := by
  induction k generalizing L with
  | zero => exact h
  | succ k ih => exact ih (stp_mono h)
theorem stp_high {X : Nat} {gs : List G3} {k : Nat} {L : List Int} {z : Int} (hg : GateIs (gg gs k) ((X : Int) + k)) (hz : (X : Int) + k ≤ z) (h : z ∈ stp X gs k L) : z ∈ L := by
  unfold stp at h; split at h
  · rcases puts_mem.1 h with h | h
    · have := (prt_lt hg z h).2; omega
    · exact h
  · exact h
theorem usd_high {X : Nat} {gs : List G3} {k : Nat} {L : List Int} {z : Int} (hg : ∀ j, j < k → GateIs (gg gs j) ((X : Int) + j)) (hz : (X : Int) + k ≤ z) (h : z ∈ usd X gs k L) : z ∈ L := by
  induction k generalizing L with
  | zero => exact h
  | succ k ih =>
    exact stp_high (hg k (by omega)) (by omega) (ih (fun j hj => hg j (by omega)) (by omega) h)
/-- What a used gate reads is used. -/
theorem usd_closed {X : Nat} {gs : List G3} {m : Nat} {L : List Int} (hg : ∀ j, j < m → GateIs (gg gs j) ((X : Int) + j)) {k : Nat} (hk : k < m) (h : (X : Int) + k ∈ usd X gs m L) : ∀ z ∈ prt (gg gs k), z ∈ usd X gs m L := by
  induction m generalizing L with
  | zero => omega
  | succ m ih =>
    rcases Nat.lt_or_ge k m with h1 | h1
    · exact ih (fun j hj => hg j (by omega)) h1 h
    · obtain rfl : k = m := by omega
      have h2 : (X : Int) + k ∈ stp X gs k L := usd_high (fun j hj => hg j (by omega)) (Int.le_refl _) h
      have h3 := stp_high (hg k (by omega)) (Int.le_refl _) h2
      intro z hz
      refine usd_mono (k := k) ?_
      unfold stp
      rw [if_pos (by simpa [inL] using h3)]
      exact puts_mem.2 (.inl hz)
theorem usd_bd {X : Nat} {gs : List G3} {m : Nat} {L : List Int} {n : Int} (hg : ∀ j, j < m → GateIs (gg gs j) ((X : Int) + j)) (hn : (X : Int) + m ≤ n) (hL : ∀ z ∈ L, 0 ≤ z ∧ z < n) : ∀ z ∈ usd X gs m L, 0 ≤ z ∧ z < n := by
  induction m generalizing L with
  | zero => exact hL
  | succ m ih =>
    refine ih (fun j hj => hg j (by omega)) (by omega) (fun z hz => ?_)
    unfold stp at hz; split at hz
    · rcases puts_mem.1 hz with h | h
      · have := prt_lt (hg m (by omega)) z h; omega
      · exact hL z h
    · exact hL z hz
/-- The gates that stay and the wires' new places behind k gates (the program's way). -/
def drp (X : Nat) (gs : List G3) (U : List Int) : Nat → List G3 × List Int
  | 0 => ([], spn 0 X)
  | k + 1 => (if inL U ((X : Int) + k) then (drp X gs U k).1 ++ [mvG (fun w => gi (drp X gs U k).2 w.toNat) (gg gs k)] else (drp X gs U k).1, (drp X gs U k).2 ++ [(X : Int) + (drp X gs U k).1.length])
/-- .. the reference's way: an unused wire goes to -1. -/
def drs (X : Nat) (gs : List G3) (U : List Int) : Nat → List G3 × List Int
  | 0 => ([], spn 0 X)
  | k + 1 => (if inL U ((X : Int) + k) then (drs X gs U k).1 ++ [mvG (fun w => gi (drs X gs U k).2 w.toNat) (gg gs k)] else (drs X gs U k).1, (drs X gs U k).2 ++ [if inL U ((X : Int) + k) then (X : Int) + (drs X gs U k).1.length else -1])
theorem drp_len (X : Nat) (gs : List G3) (U : List Int) (k : Nat) : (drp X gs U k).1.length ≤ k ∧ (drp X gs U k).2.length = X + k := by
  induction k with
  | zero => exact ⟨Nat.le_refl _, spn_len 0 X⟩
  | succ k ih =>
    obtain ⟨h1, h2⟩ := ih
    refine ⟨?_, by simp [drp, h2]; omega⟩
    simp only [drp]
    split
    · simp; omega
    · omega
theorem drs_len (X : Nat) (gs : List G3) (U : List Int) (k : Nat) : (drs X gs U k).1.length ≤ k ∧ (drs X gs U k).2.length = X + k := by
  induction k with
  | zero => exact ⟨Nat.le_refl _, spn_len 0 X⟩
  | succ k ih =>
    obtain ⟨h1, h2⟩ := ih
    refine ⟨?_, by simp [drs, h2]; omega⟩
    simp only [drs]
    split
    · simp; omega
    · omega
theorem mvG_parts {f h : Int → Int} {g : G3} {n : Int} (hg : GateIs g n) (hz : ∀ z ∈ prt g, f z = h z) : mvG f g = mvG h g := by
  obtain ⟨gk, ga, gb⟩ := g
  cases hg with
  | xor_ hk a0 a1 b0 b1 => dsimp only at *; subst hk; have h1 := hz ga (by simp [prt]); have h2 := hz gb (by simp [prt]); simp [mvG, h1, h2]
  | and_ hk a0 a1 b0 b1 => dsimp only at *; subst hk; have h1 := hz ga (by simp [prt]); have h2 := hz gb (by simp [prt]); simp [mvG, h1, h2]
  | not_ hk a0 a1 b0 => dsimp only at *; subst hk; have h1 := hz ga (by simp [prt]); simp [mvG, h1]
  | one_ hk a0 b0 => dsimp only at *; subst hk; simp [mvG]
/-- Both ways agree at the inputs and at what is used. -/
theorem drp_drs {X : Nat} {gs : List G3} {U : List Int} {m : Nat} (hg : ∀ j, j < m → GateIs (gg gs j) ((X : Int) + j)) (hc : ∀ j, j < m → (X : Int) + j ∈ U → ∀ z ∈ prt (gg gs j), z ∈ U) :
    ∀ k, k ≤ m → (drs X gs U k).1 = (drp X gs U k).1 ∧ ∀ z : Nat, z < X + k → (z < X ∨ (z : Int) ∈ U) → gi (drs X gs U k).2 z = gi (drp X gs U k).2 z := by
  intro k
  induction k with
  | zero => intro _; exact ⟨rfl, fun _ _ _ => rfl⟩
  | succ k ih =>
    intro hk
    obtain ⟨h1, h2⟩ := ih (by omega)
    have l1 := (drp_len X gs U k).2
    have l2 := (drs_len X gs U k).2
    constructor
    · simp only [drp, drs]
      by_cases hu : inL U ((X : Int) + k) = true
      · rw [if_pos hu, if_pos hu, h1]
        congr 2
        refine mvG_parts (hg k (by omega)) (fun z hz => ?_)
        have hb := prt_lt (hg k (by omega)) z hz
        have hu' : (X : Int) + k ∈ U := by simpa [inL] using hu
        refine h2 z.toNat (by omega) (.inr ?_)
        rw [Int.toNat_of_nonneg hb.1]
        exact hc k (by omega) hu' z hz
      · rw [if_neg hu, if_neg hu, h1]
    · intro z hz hu
      simp only [drp, drs]
      rcases Nat.lt_or_ge z (X + k) with h | h
      · rw [gi_append_l (by omega), gi_append_l (by omega)]; exact h2 z h hu
      · obtain rfl : z = X + k := by omega
        have hu' : inL U ((X : Int) + k) = true := by
          rcases hu with hu | hu
          · omega
          · simpa [inL] using hu
        rw [if_pos hu', h1]
        have e1 := gi_append_r (drs X gs U k).2 ((X : Int) + ((drp X gs U k).1.length : Nat))
        have e2 := gi_append_r (drp X gs U k).2 ((X : Int) + ((drp X gs U k).1.length : Nat))
        rw [l2] at e1; rw [l1] at e2
        rw [e1, e2]
theorem pick_same {xs ys os : List Int} (h : ∀ z ∈ os, gi xs z.toNat = gi ys z.toNat) : pick xs os = pick ys os := by
  unfold pick
  exact List.map_congr_left fun z hz => h z hz
def dropF (x y : Int) (gs : List G3) (os : List Int) : Option Ci :=
  if circB x y gs os then some ⟨x, y, (drp (x + y).toNat gs (usedL (x + y).toNat gs os) gs.length).1, pick (drp (x + y).toNat gs (usedL (x + y).toNat gs os) gs.length).2 os⟩ else none
theorem dropF_len (x y : Int) (gs : List G3) (os : List Int) : ((dropF x y gs os).getD ⟨0, 0, [], []⟩).gs.length ≤ 300 ∧ ((dropF x y gs os).getD ⟨0, 0, [], []⟩).os.length ≤ 40 := by
  unfold dropF
  split
  · rename_i h
    have h1 := circB_bd h
    have h2 := (drp_len (x + y).toNat gs (usedL (x + y).toNat gs os) gs.length).1
    simp only [Option.getD_some, pick_len]; omega
  · simp
/-- The reference's answer is the same. -/
theorem drop_ref {X : Nat} {gs : List G3} {os : List Int} (hg : ∀ j, j < gs.length → GateIs (gg gs j) ((X : Int) + j)) (ho : ∀ z ∈ os, 0 ≤ z ∧ z < (X : Int) + gs.length) :
    (drs X gs (usedL X gs os) gs.length).1 = (drp X gs (usedL X gs os) gs.length).1 ∧ pick (drs X gs (usedL X gs os) gs.length).2 os = pick (drp X gs (usedL X gs os) gs.length).2 os := by
  have h := drp_drs (U := usedL X gs os) hg (fun j hj hu => usd_closed hg hj hu) gs.length (Nat.le_refl _)
  refine ⟨h.1, pick_same fun z hz => h.2 z.toNat (by have := ho z hz; omega) (.inr ?_)⟩
  rw [Int.toNat_of_nonneg (ho z hz).1]
  exact usd_mono (puts_mem.2 (.inl hz))
/-- The row of bools: which of n wires are in a list. -/
def rowB (n : Nat) (L : List Int) : List Bool := (List.range n).map fun z : Nat => inL L (z : Int)
theorem rowB_len (n : Nat) (L : List Int) : (rowB n L).length = n := by simp [rowB]
theorem rowB_at {n : Nat} {L : List Int} {j : Nat} (h : j < n) : (rowB n L)[j]? = some (inL L j) := by
  unfold rowB
  rw [List.getElem?_map, List.getElem?_range h]; rfl
theorem rowB_nil (n : Nat) : rowB n [] = List.replicate n false := by
  apply List.ext_getElem?
  intro j
  rcases Nat.lt_or_ge j n with h | h
  · rw [rowB_at h, List.getElem?_replicate, if_pos h]; simp [inL]
  · rw [List.getElem?_eq_none (by rw [rowB_len]; omega), List.getElem?_eq_none (by simp; omega)]
theorem rowB_put {n : Nat} {L : List Int} {v : Nat} (h : v < n) : (rowB n L).set v true = rowB n (putL L v) := by
  apply List.ext_getElem?
  intro j
  rcases Nat.lt_or_ge j n with hj | hj
  · rw [rowB_at hj, List.getElem?_set, rowB_len]
    by_cases he : v = j
    · subst he; rw [if_pos rfl, if_pos hj]; simp [inL, putL_mem]
    · rw [if_neg he, rowB_at hj]
      congr 1
      have : ((j : Int) ∈ L) = ((j : Int) ∈ putL L v) := by
        apply propext; rw [putL_mem]
        constructor
        · exact .inr
        · rintro (h | h)
          · omega
          · exact h
      unfold inL
      simp only [this]
  · rw [List.getElem?_eq_none (by rw [List.length_set, rowB_len]; omega), List.getElem?_eq_none (by rw [rowB_len]; omega)]

end Go.Proofs.Ytgenehiiakdadaa
