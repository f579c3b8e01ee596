/- DropDead: what it returns, in plain words. No program. Plain facts: merged gates, constant wires and the values of circuits. No program in sight. Plain facts: dropped gates keep the values of what is used, and every gate that stays is used. No program in sight. -/
import Derived.Test.YtcdhmcpocohbpaaQP16
namespace Go.Proofs.Ytcdhmcpocohbpaa
open Go.RowKit
set_option linter.unusedVariables false
set_option linter.unusedSimpArgs false
def prt (g : G3) : List Int := if g.k = 0 ∨ g.k = 1 then [g.a, g.b] else if g.k = 2 then [g.a] else []
def puts (l xs : List Int) : List Int := xs.foldl putL l
def inL (l : List Int) (z : Int) : Bool := decide (z ∈ l)
def stp (X : Nat) (gs : List G3) (k : Nat) (L : List Int) : List Int := if inL L ((X : Int) + k) then puts L (prt (gg gs k)) else L
def usd (X : Nat) (gs : List G3) : Nat → List Int → List Int
  | 0, L => L
  | k + 1, L => usd X gs k (stp X gs k L)
def usedL (X : Nat) (gs : List G3) (os : List Int) : List Int := usd X gs gs.length (puts [] os)
theorem puts_snoc (l xs : List Int) (v : Int) : puts l (xs ++ [v]) = putL (puts l xs) v := by simp [puts]
theorem puts_mem {l xs : List Int} {z : Int} : z ∈ puts l xs ↔ z ∈ xs ∨ z ∈ l := by
  induction xs generalizing l with
  | nil => simp [puts]
  | cons a xs ih =>
    have h : puts l (a :: xs) = puts (putL l a) xs := rfl
    rw [h, ih, putL_mem, List.mem_cons]
    constructor
    · rintro (h | h | h)
      · exact .inl (.inr h)
      · exact .inl (.inl h)
      · exact .inr h
    · rintro ((h | h) | h)
      · exact .inr (.inl h)
      · exact .inl h
      · exact .inr (.inr h)
theorem putL_le (l : List Int) (x : Int) : (putL l x).length ≤ l.length + 1 := by
  rw [putL_len]; split <;> omega
theorem puts_le (l xs : List Int) : (puts l xs).length ≤ l.length + xs.length := by
  induction xs generalizing l with
  | nil => simp [puts]
  | cons a xs ih =>
    have h : puts l (a :: xs) = puts (putL l a) xs := rfl
    have h1 := ih (putL l a)
    have h2 := putL_le l a
    rw [h, List.length_cons]; omega
theorem prt_le (g : G3) : (prt g).length ≤ 2 := by
  unfold prt; split
  · simp
  · split <;> simp
theorem prt_lt {g : G3} {n : Int} (h : GateIs g n) : ∀ z ∈ prt g, 0 ≤ z ∧ z < n := by
  obtain ⟨gk, ga, gb⟩ := g
  cases h with
  | xor_ hk a0 a1 b0 b1 => dsimp only at *; subst hk; intro z hz; simp [prt] at hz; rcases hz with rfl | rfl <;> constructor <;> assumption
  | and_ hk a0 a1 b0 b1 => dsimp only at *; subst hk; intro z hz; simp [prt] at hz; rcases hz with rfl | rfl <;> constructor <;> assumption
  | not_ hk a0 a1 b0 => dsimp only at *; subst hk; intro z hz; simp [prt] at hz; subst hz; exact ⟨a0, a1⟩
  | one_ hk a0 b0 => dsimp only at *; subst hk; intro z hz; simp [prt] at hz
theorem stp_mono {X : Nat} {gs : List G3} {k : Nat} {L : List Int} {z : Int} (h : z ∈ L) : z ∈ stp X gs k L := by
  unfold stp; split
  · exact puts_mem.2 (.inr h)
  · exact h
theorem usd_mono {X : Nat} {gs : List G3} {k : Nat} {L : List Int} {z : Int} (h : z ∈ L) : z ∈ usd X gs k L := by
  induction k generalizing L with
  | zero => exact h
  | succ k ih => exact ih (stp_mono h)
theorem stp_high {X : Nat} {gs : List G3} {k : Nat} {L : List Int} {z : Int} (hg : GateIs (gg gs k) ((X : Int) + k)) (hz : (X : Int) + k ≤ z) (h : z ∈ stp X gs k L) : z ∈ L := by
  unfold stp at h; split at h
  · rcases puts_mem.1 h with h | h
    · have := (prt_lt hg z h).2; omega
    · exact h
  · exact h
theorem usd_high {X : Nat} {gs : List G3} {k : Nat} {L : List Int} {z : Int} (hg : ∀ j, j < k → GateIs (gg gs j) ((X : Int) + j)) (hz : (X : Int) + k ≤ z) (h : z ∈ usd X gs k L) : z ∈ L := by
  induction k generalizing L with
  | zero => exact h
  | succ k ih =>
    exact stp_high (hg k (by omega)) (by omega) (ih (fun j hj => hg j (by omega)) (by omega) h)
theorem usd_closed {X : Nat} {gs : List G3} {m : Nat} {L : List Int} (hg : ∀ j, j < m → GateIs (gg gs j) ((X : Int) + j)) {k : Nat} (hk : k < m) (h : (X : Int) + k ∈ usd X gs m L) : ∀ z ∈ prt (gg gs k), z ∈ usd X gs m L := by
  induction m generalizing L with
  | zero => omega
  | succ m ih =>
    rcases Nat.lt_or_ge k m with h1 | h1
    · exact ih (fun j hj => hg j (by omega)) h1 h
    · obtain rfl : k = m := by omega
      have h2 : (X : Int) + k ∈ stp X gs k L := usd_high (fun j hj => hg j (by omega)) (Int.le_refl _) h
      have h3 := stp_high (hg k (by omega)) (Int.le_refl _) h2
      intro z hz
      refine usd_mono (k := k) ?_
      unfold stp
      rw [if_pos (by simpa [inL] using h3)]
      exact puts_mem.2 (.inl hz)
theorem usd_bd {X : Nat} {gs : List G3} {m : Nat} {L : List Int} {n : Int} (hg : ∀ j, j < m → GateIs (gg gs j) ((X : Int) + j)) (hn : (X : Int) + m ≤ n) (hL : ∀ z ∈ L, 0 ≤ z ∧ z < n) : ∀ z ∈ usd X gs m L, 0 ≤ z ∧ z < n := by
  induction m generalizing L with
  | zero => exact hL
  | succ m ih =>
    refine ih (fun j hj => hg j (by omega)) (by omega) (fun z hz => ?_)
    unfold stp at hz; split at hz
    · rcases puts_mem.1 hz with h | h
      · have := prt_lt (hg m (by omega)) z h; omega
      · exact hL z h
    · exact hL z hz
def drp (X : Nat) (gs : List G3) (U : List Int) : Nat → List G3 × List Int
  | 0 => ([], spn 0 X)
  | k + 1 => (if inL U ((X : Int) + k) then (drp X gs U k).1 ++ [mvG (fun w => gi (drp X gs U k).2 w.toNat) (gg gs k)] else (drp X gs U k).1, (drp X gs U k).2 ++ [(X : Int) + (drp X gs U k).1.length])
def drs (X : Nat) (gs : List G3) (U : List Int) : Nat → List G3 × List Int
  | 0 => ([], spn 0 X)
  | k + 1 => (if inL U ((X : Int) + k) then (drs X gs U k).1 ++ [mvG (fun w => gi (drs X gs U k).2 w.toNat) (gg gs k)] else (drs X gs U k).1, (drs X gs U k).2 ++ [if inL U ((X : Int) + k) then (X : Int) + (drs X gs U k).1.length else -1])
theorem drp_len (X : Nat) (gs : List G3) (U : List Int) (k : Nat) : (drp X gs U k).1.length ≤ k ∧ (drp X gs U k).2.length = X + k := by
  induction k with
  | zero => exact ⟨Nat.le_refl _, spn_len 0 X⟩
  | succ k ih =>
    obtain ⟨h1, h2⟩ := ih
    refine ⟨?_, by simp [drp, h2]; omega⟩
    simp only [drp]
    split
    · simp; omega
    · omega
theorem drs_len (X : Nat) (gs : List G3) (U : List Int) (k : Nat) : (drs X gs U k).1.length ≤ k ∧ (drs X gs U k).2.length = X + k := by
  induction k with
  | zero => exact ⟨Nat.le_refl _, spn_len 0 X⟩
  | succ k ih =>
    obtain ⟨h1, h2⟩ := ih
    refine ⟨?_, by simp [drs, h2]; omega⟩
    simp only [drs]
    split
    · simp; omega
    · omega
theorem mvG_parts {f h : Int → Int} {g : G3} {n : Int} (hg : GateIs g n) (hz : ∀ z ∈ prt g, f z = h z) : mvG f g = mvG h g := by
  obtain ⟨gk, ga, gb⟩ := g
  cases hg with
  | xor_ hk a0 a1 b0 b1 => dsimp only at *; subst hk; have h1 := hz ga (by simp [prt]); have h2 := hz gb (by simp [prt]); simp [mvG, h1, h2]
  | and_ hk a0 a1 b0 b1 => dsimp only at *; subst hk; have h1 := hz ga (by simp [prt]); have h2 := hz gb (by simp [prt]); simp [mvG, h1, h2]
  | not_ hk a0 a1 b0 => dsimp only at *; subst hk; have h1 := hz ga (by simp [prt]); simp [mvG, h1]
  | one_ hk a0 b0 => dsimp only at *; subst hk; simp [mvG]
theorem drp_drs {X : Nat} {gs : List G3} {U : List Int} {m : Nat} (hg : ∀ j, j < m → GateIs (gg gs j) ((X : Int) + j)) (hc : ∀ j, j < m → (X : Int) + j ∈ U → ∀ z ∈ prt (gg gs j), z ∈ U) :
    ∀ k, k ≤ m → (drs X gs U k).1 = (drp X gs U k).1 ∧ ∀ z : Nat, z < X + k → (z < X ∨ (z : Int) ∈ U) → gi (drs X gs U k).2 z = gi (drp X gs U k).2 z := by
  intro k
  induction k with
  | zero => intro _; exact ⟨rfl, fun _ _ _ => rfl⟩
  | succ k ih =>
    intro hk
    obtain ⟨h1, h2⟩ := ih (by omega)
    have l1 := (drp_len X gs U k).2
    have l2 := (drs_len X gs U k).2
    constructor
    · simp only [drp, drs]
      by_cases hu : inL U ((X : Int) + k) = true
      · rw [if_pos hu, if_pos hu, h1]
        congr 2
        refine mvG_parts (hg k (by omega)) (fun z hz => ?_)
        have hb := prt_lt (hg k (by omega)) z hz
        have hu' : (X : Int) + k ∈ U := by simpa [inL] using hu
        refine h2 z.toNat (by omega) (.inr ?_)
        rw [Int.toNat_of_nonneg hb.1]
        exact hc k (by omega) hu' z hz
      · rw [if_neg hu, if_neg hu, h1]
    · intro z hz hu
      simp only [drp, drs]
      rcases Nat.lt_or_ge z (X + k) with h | h
      · rw [gi_append_l (by omega), gi_append_l (by omega)]; exact h2 z h hu
      · obtain rfl : z = X + k := by omega
        have hu' : inL U ((X : Int) + k) = true := by
          rcases hu with hu | hu
          · omega
          · simpa [inL] using hu
        rw [if_pos hu', h1]
        have e1 := gi_append_r (drs X gs U k).2 ((X : Int) + ((drp X gs U k).1.length : Nat))
        have e2 := gi_append_r (drp X gs U k).2 ((X : Int) + ((drp X gs U k).1.length : Nat))
        rw [l2] at e1; rw [l1] at e2
        rw [e1, e2]
theorem pick_same {xs ys os : List Int} (h : ∀ z ∈ os, gi xs z.toNat = gi ys z.toNat) : pick xs os = pick ys os := by
  unfold pick
  exact List.map_congr_left fun z hz => h z hz
def dropF (x y : Int) (gs : List G3) (os : List Int) : Option Ci :=
  if circB x y gs os then some ⟨x, y, (drp (x + y).toNat gs (usedL (x + y).toNat gs os) gs.length).1, pick (drp (x + y).toNat gs (usedL (x + y).toNat gs os) gs.length).2 os⟩ else none
theorem drop_ref {X : Nat} {gs : List G3} {os : List Int} (hg : ∀ j, j < gs.length → GateIs (gg gs j) ((X : Int) + j)) (ho : ∀ z ∈ os, 0 ≤ z ∧ z < (X : Int) + gs.length) :
    (drs X gs (usedL X gs os) gs.length).1 = (drp X gs (usedL X gs os) gs.length).1 ∧ pick (drs X gs (usedL X gs os) gs.length).2 os = pick (drp X gs (usedL X gs os) gs.length).2 os := by
  have h := drp_drs (U := usedL X gs os) hg (fun j hj hu => usd_closed hg hj hu) gs.length (Nat.le_refl _)
  refine ⟨h.1, pick_same fun z hz => h.2 z.toNat (by have := ho z hz; omega) (.inr ?_)⟩
  rw [Int.toNat_of_nonneg (ho z hz).1]
  exact usd_mono (puts_mem.2 (.inl hz))
theorem gval_parts {g : G3} {n : Int} (hg : GateIs g n) {o o' : List Int} {f : Int → Int} (h : ∀ z ∈ prt g, gi o' (f z).toNat = gi o z.toNat) : gval (mvG f g) o' = gval g o := by
  obtain ⟨gk, ga, gb⟩ := g
  cases hg with
  | xor_ hk => dsimp only at hk; subst hk; have h1 := h ga (by simp [prt]); have h2 := h gb (by simp [prt]); simp [gval, mvG, h1, h2]
  | and_ hk => dsimp only at hk; subst hk; have h1 := h ga (by simp [prt]); have h2 := h gb (by simp [prt]); simp [gval, mvG, h1, h2]
  | not_ hk => dsimp only at hk; subst hk; have h1 := h ga (by simp [prt]); simp [gval, mvG, h1]
  | one_ hk => dsimp only at hk; subst hk; simp [gval, mvG]
theorem gval_same {g : G3} {n : Int} (hg : GateIs g n) {o o' : List Int} (h : ∀ z ∈ prt g, gi o' z.toNat = gi o z.toNat) : gval g o' = gval g o := by
  obtain ⟨gk, ga, gb⟩ := g
  cases hg with
  | xor_ hk => dsimp only at hk; subst hk; have h1 := h ga (by simp [prt]); have h2 := h gb (by simp [prt]); simp [gval, h1, h2]
  | and_ hk => dsimp only at hk; subst hk; have h1 := h ga (by simp [prt]); have h2 := h gb (by simp [prt]); simp [gval, h1, h2]
  | not_ hk => dsimp only at hk; subst hk; have h1 := h ga (by simp [prt]); simp [gval, h1]
  | one_ hk => dsimp only at hk; subst hk; simp [gval]
theorem vals_gs {gs hs : List G3} {inp : List Int} : ∀ k, (∀ j, j < k → gg gs j = gg hs j) → vals gs inp k = vals hs inp k := by
  intro k
  induction k with
  | zero => intro _; rfl
  | succ k ih => intro h; rw [vals_succ, vals_succ, ih (fun j hj => h j (by omega)), h k (by omega)]
theorem vals_keep {gs : List G3} {inp : List Int} {k m z : Nat} (hk : k ≤ m) (hz : z < inp.length + k) : gi (vals gs inp m) z = gi (vals gs inp k) z := by
  induction m with
  | zero => obtain rfl : k = 0 := by omega
            rfl
  | succ m ih =>
    rcases Nat.lt_or_ge k (m + 1) with h | h
    · rw [vals_succ, gi_append_l (by rw [vals_len]; omega), ih (by omega)]
    · obtain rfl : k = m + 1 := by omega
      rfl
theorem gi_last {xs : List Int} {v : Int} {n : Nat} (h : xs.length = n) : gi (xs ++ [v]) n = v := by subst h; exact gi_append_r xs v
theorem vals_gate {gs : List G3} {inp : List Int} {X k n : Nat} (hX : inp.length = X) (hk : k < n) (hg : GateIs (gg gs k) ((X : Int) + k)) : gi (vals gs inp n) (X + k) = gval (gg gs k) (vals gs inp n) := by
  rw [vals_keep (k := k + 1) (by omega) (by omega), vals_succ, gi_last (by rw [vals_len, hX])]
  refine gval_same hg fun z hz => ?_
  have := prt_lt hg z hz
  exact (vals_keep (by omega) (by omega)).symm
theorem vals_01 {gs : List G3} {inp : List Int} {X m : Nat} (hX : inp.length = X) (hi : allB 0 1 inp = true) (hg : ∀ j : Nat, j < m → GateIs (gg gs j) ((X : Int) + j)) : ∀ k, k ≤ m → allB 0 1 (vals gs inp k) = true := by
  intro k
  induction k with
  | zero => intro _; exact hi
  | succ k ih =>
    intro hk
    have h1 := ih (by omega)
    rw [vals_succ]
    refine allB_snoc h1 (gval_bd (n := X + k) ?_ (by rw [vals_len, hX]) h1)
    have := hg k (by omega)
    rwa [show ((X + k : Nat) : Int) = (X : Int) + k by omega]
theorem bxor_comm {a b : Int} (ha : 0 ≤ a ∧ a ≤ 1) (hb : 0 ≤ b ∧ b ≤ 1) : bxor a b = bxor b a := by
  rcases (show a = 0 ∨ a = 1 by omega) with rfl | rfl <;> rcases (show b = 0 ∨ b = 1 by omega) with rfl | rfl <;> decide
theorem bxor_self {a : Int} (ha : 0 ≤ a ∧ a ≤ 1) : bxor a a = 0 := by rcases (show a = 0 ∨ a = 1 by omega) with rfl | rfl <;> decide
theorem band_comm {a b : Int} (ha : 0 ≤ a ∧ a ≤ 1) (hb : 0 ≤ b ∧ b ≤ 1) : band a b = band b a := by rw [band_bit ha hb, band_bit hb ha, Int.mul_comm]
theorem sameG_val {o g : G3} {n : Int} {V : List Int} (ho : GateIs o n) (h : sameG o g = true) (hV : allB 0 1 V = true) : gval o V = gval g V := by
  obtain ⟨ok, oa, ob⟩ := o
  obtain ⟨gk, ga, gb⟩ := g
  have b1 := gi_bd0 hV (by omega) oa.toNat
  have b2 := gi_bd0 hV (by omega) ob.toNat
  simp only [sameG, Bool.and_eq_true, Bool.or_eq_true, beq_iff_eq] at h
  obtain ⟨rfl, h⟩ := h
  rcases h with ⟨rfl, rfl⟩ | ⟨hk, rfl, rfl⟩
  · rfl
  · rcases hk with rfl | rfl
    · simp only [gval, if_true]; exact bxor_comm b1 b2
    · simp only [gval]; simpa using band_comm b1 b2
theorem same1_lt {hs : List G3} {g : G3} {s : Nat} (h : same1 hs g = s) (hs' : s < hs.length) : sameG (gg hs s) g = true := by
  subst h
  have := List.findIdx_getElem (xs := hs) (p := fun o => sameG o g) (w := hs')
  rw [gg_lt hs']
  exact this
theorem mrg_vals {gs : List G3} {inp : List Int} {X m : Nat} (hX : inp.length = X) (hi : allB 0 1 inp = true) (hg : ∀ j : Nat, j < m → GateIs (gg gs j) ((X : Int) + j)) :
    ∀ k, k ≤ m → ∀ z : Nat, z < X + k → gi (vals (mrg X gs k).1 inp k) (gi (mrg X gs k).2 z).toNat = gi (vals gs inp k) z := by
  intro k
  induction k with
  | zero =>
    intro _ z hz
    rw [show (mrg X gs 0).2 = spn 0 X from rfl, gi_spn (by omega)]
    rfl
  | succ k ih =>
    intro hk
    have ihk := ih (by omega)
    have hl := mrg_len X gs k
    have hG := mrg_gates (n := X) hg k (by omega)
    have hgk := hg k (by omega)
    have hto := fun (j : Nat) (hj : j < X + k) => mrg_bd X gs k j hj
    have hsame := fun s => same1_lt (hs := (mrg X gs k).1) (g := mvG (fun w => gi (mrg X gs k).2 w.toNat) (gg gs k)) (s := s)
    have hsle := same1_le (mrg X gs k).1 (mvG (fun w => gi (mrg X gs k).2 w.toNat) (gg gs k))
    have hval : gval (mvG (fun w => gi (mrg X gs k).2 w.toNat) (gg gs k)) (vals (mrg X gs k).1 inp k) = gval (gg gs k) (vals gs inp k) := gval_parts hgk fun z hz => by
      have := prt_lt hgk z hz
      exact ihk z.toNat (by omega)
    simp only [mrg]
    generalize mvG (fun w => gi (mrg X gs k).2 w.toNat) (gg gs k) = g' at *
    generalize (mrg X gs k).1 = hs at *
    generalize (mrg X gs k).2 = T at *
    obtain ⟨hl1, hl2⟩ := hl
    have e1 : vals (hs ++ [g']) inp k = vals hs inp k := vals_gs k fun j hj => gg_append_l (by omega)
    have e2 : gg (hs ++ [g']) k = g' := by have := gg_append_r hs g'; rwa [hl1] at this
    have hVl : (vals hs inp k).length = X + k := by rw [vals_len, hX]
    have hVb := vals_01 hX hi hG k (Nat.le_refl _)
    intro z hz
    rw [vals_succ, e1, e2]
    rcases Nat.lt_or_ge z (X + k) with h | h
    · rw [gi_append_l (xs := T) (by omega)]
      have hz2 := hto z h
      rw [gi_append_l (xs := vals hs inp k) (by omega), ihk z h]
      exact (vals_keep (by omega) (by omega)).symm
    · obtain rfl : z = X + k := by omega
      rw [gi_last hl2, show ((X : Int) + (same1 hs g' : Nat)).toNat = X + same1 hs g' by omega]
      rw [vals_succ (gs := gs), gi_last (xs := vals gs inp k) (by rw [vals_len, hX]), ← hval]
      rcases Nat.lt_or_ge (same1 hs g') k with h1 | h1
      · rw [gi_append_l (by omega), vals_gate hX h1 (hG _ h1)]
        exact sameG_val (hG _ h1) (hsame _ rfl (by omega)) hVb
      · rw [show same1 hs g' = k by omega, gi_last hVl]
theorem csts_vals {gs : List G3} {inp : List Int} {X m : Nat} (hX : inp.length = X) (hi : allB 0 1 inp = true) (hg : ∀ j : Nat, j < m → GateIs (gg gs j) ((X : Int) + j)) :
    ∀ k, k ≤ m → ∀ z : Nat, z < X + k → 0 ≤ gi (csts gs X k) z → gi (vals gs inp k) z = gi (csts gs X k) z := by
  intro k
  induction k with
  | zero =>
    intro _ z hz h0
    have : gi (csts gs X 0) z = -1 := by
      unfold csts gi
      rw [List.getD_eq_getElem?_getD, List.getElem?_replicate, if_pos (by omega)]; rfl
    omega
  | succ k ih =>
    intro hk z hz h0
    have ihk := ih (by omega)
    have hVb := vals_01 hX hi hg k (by omega)
    have hCb := csts_bd gs X k
    have hgk := hg k (by omega)
    rw [csts_succ] at h0 ⊢
    rw [vals_succ]
    rcases Nat.lt_or_ge z (X + k) with h | h
    · rw [gi_append_l (xs := csts gs X k) (by rw [csts_len]; omega)] at h0 ⊢
      rw [gi_append_l (xs := vals gs inp k) (by rw [vals_len]; omega)]
      exact ihk z h h0
    · obtain rfl : z = X + k := by omega
      rw [gi_last (csts_len gs X k)] at h0 ⊢
      rw [gi_last (by rw [vals_len, hX])]
      generalize gg gs k = g at *
      obtain ⟨gk, ga, gb⟩ := g
      have va := gi_bd0 hVb (by omega) ga.toNat
      have vb := gi_bd0 hVb (by omega) gb.toNat
      have ca := gi_bd0 hCb (by omega) ga.toNat
      have cb := gi_bd0 hCb (by omega) gb.toNat
      have band0 : ∀ {p q : Int}, (0 ≤ p ∧ p ≤ 1) → (0 ≤ q ∧ q ≤ 1) → p = 0 ∨ q = 0 → band p q = 0 := fun hp hq h => by
        rw [band_bit hp hq]
        rcases h with rfl | rfl <;> simp
      cases hgk with
      | xor_ hk a0 a1 b0 b1 =>
        dsimp only at hk a0 a1 b0 b1; subst hk
        have ea := ihk ga.toNat (by omega)
        have eb := ihk gb.toNat (by omega)
        simp only [cst, gval] at h0 ⊢
        simp only [if_true, show ¬ ((0 : Int) = 3) by omega, show ¬ ((0 : Int) = 2) by omega, if_false] at h0 ⊢
        by_cases hab : ga = gb
        · subst hab; rw [if_pos rfl] at h0 ⊢; exact bxor_self va
        · rw [if_neg hab] at h0 ⊢
          by_cases hc : 0 ≤ gi (csts gs X k) ga.toNat ∧ 0 ≤ gi (csts gs X k) gb.toNat
          · rw [if_pos hc] at h0 ⊢; rw [ea hc.1, eb hc.2]
          · rw [if_neg hc] at h0; omega
      | and_ hk a0 a1 b0 b1 =>
        dsimp only at hk a0 a1 b0 b1; subst hk
        have ea := ihk ga.toNat (by omega)
        have eb := ihk gb.toNat (by omega)
        simp only [cst, gval] at h0 ⊢
        simp only [if_true, show ¬ ((1 : Int) = 3) by omega, show ¬ ((1 : Int) = 2) by omega, show ¬ ((1 : Int) = 0) by omega, if_false] at h0 ⊢
        by_cases hc : gi (csts gs X k) ga.toNat = 0 ∨ gi (csts gs X k) gb.toNat = 0
        · rw [if_pos hc] at h0 ⊢
          refine band0 va vb ?_
          rcases hc with hc | hc
          · left; rw [ea (by omega), hc]
          · right; rw [eb (by omega), hc]
        · rw [if_neg hc] at h0 ⊢
          by_cases hd : gi (csts gs X k) ga.toNat = 1 ∧ gi (csts gs X k) gb.toNat = 1
          · rw [if_pos hd] at h0 ⊢
            rw [ea (by omega), eb (by omega), hd.1, hd.2]; decide
          · rw [if_neg hd] at h0; omega
      | not_ hk a0 a1 b0 =>
        dsimp only at hk a0 a1 b0; subst hk
        have ea := ihk ga.toNat (by omega)
        simp only [cst, gval] at h0 ⊢
        simp only [if_true, show ¬ ((2 : Int) = 3) by omega, show ¬ ((2 : Int) = 0) by omega, show ¬ ((2 : Int) = 1) by omega, if_false] at h0 ⊢
        by_cases hc : 0 ≤ gi (csts gs X k) ga.toNat
        · rw [if_pos hc] at h0 ⊢; rw [ea hc]
        · rw [if_neg hc] at h0; omega
      | one_ hk a0 b0 =>
        dsimp only at hk; subst hk
        simp [cst, gval]
theorem inL_iff {l : List Int} {z : Int} : inL l z = true ↔ z ∈ l := by simp [inL]
theorem drp_succ_u {X : Nat} {gs : List G3} {U : List Int} {k : Nat} (h : (X : Int) + k ∈ U) : drp X gs U (k + 1) = ((drp X gs U k).1 ++ [mvG (fun w => gi (drp X gs U k).2 w.toNat) (gg gs k)], (drp X gs U k).2 ++ [(X : Int) + (drp X gs U k).1.length]) := by
  simp only [drp]; rw [if_pos (inL_iff.2 h)]
theorem drp_succ_n {X : Nat} {gs : List G3} {U : List Int} {k : Nat} (h : ¬ (X : Int) + k ∈ U) : drp X gs U (k + 1) = ((drp X gs U k).1, (drp X gs U k).2 ++ [(X : Int) + (drp X gs U k).1.length]) := by
  simp only [drp]; rw [if_neg (fun hc => h (inL_iff.1 hc))]
theorem drp_bd {X : Nat} {gs : List G3} {U : List Int} : ∀ k (z : Nat), z < X + k → (z < X ∨ (z : Int) ∈ U) → 0 ≤ gi (drp X gs U k).2 z ∧ gi (drp X gs U k).2 z < (X : Int) + (drp X gs U k).1.length := by
  intro k
  induction k with
  | zero =>
    intro z hz _
    rw [show (drp X gs U 0).2 = spn 0 X from rfl, gi_spn (by omega)]
    show 0 ≤ (z : Int) ∧ (z : Int) < (X : Int) + (([] : List G3).length : Nat)
    simp; omega
  | succ k ih =>
    intro z hz hu
    have hl := (drp_len X gs U k).2
    by_cases h : (X : Int) + k ∈ U
    · rw [drp_succ_u h]
      rcases Nat.lt_or_ge z (X + k) with h1 | h1
      · have := ih z h1 hu
        dsimp only
        rw [gi_append_l (by omega), List.length_append]; simp; omega
      · obtain rfl : z = X + k := by omega
        dsimp only
        rw [gi_last hl, List.length_append]; simp; omega
    · rw [drp_succ_n h]
      rcases Nat.lt_or_ge z (X + k) with h1 | h1
      · have := ih z h1 hu
        dsimp only
        rw [gi_append_l (by omega)]; exact this
      · exfalso
        rcases hu with hu | hu
        · omega
        · exact h (by rwa [show ((z : Nat) : Int) = (X : Int) + k by omega] at hu)
theorem drp_vals {X : Nat} {gs : List G3} {U inp : List Int} {m : Nat} (hX : inp.length = X) (hg : ∀ j : Nat, j < m → GateIs (gg gs j) ((X : Int) + j)) (hc : ∀ j : Nat, j < m → (X : Int) + j ∈ U → ∀ z ∈ prt (gg gs j), z ∈ U) :
    ∀ k, k ≤ m → ∀ z : Nat, z < X + k → (z < X ∨ (z : Int) ∈ U) → gi (vals (drp X gs U k).1 inp (drp X gs U k).1.length) (gi (drp X gs U k).2 z).toNat = gi (vals gs inp k) z := by
  intro k
  induction k with
  | zero =>
    intro _ z hz _
    rw [show (drp X gs U 0).2 = spn 0 X from rfl, gi_spn (by omega)]
    rfl
  | succ k ih =>
    intro hk z hz hu
    have ihk := ih (by omega)
    have hl := (drp_len X gs U k).2
    have hb := drp_bd (X := X) (gs := gs) (U := U) k
    have hgk := hg k (by omega)
    rcases Nat.lt_or_ge z (X + k) with h1 | h1
    · have e1 := ihk z h1 hu
      have hbz := hb z h1 hu
      rw [vals_keep (gs := gs) (k := k) (by omega) (by omega), ← e1]
      by_cases h : (X : Int) + k ∈ U
      · rw [drp_succ_u h]
        dsimp only
        rw [gi_append_l (by omega), List.length_append, show ([mvG (fun w => gi (drp X gs U k).2 w.toNat) (gg gs k)] : List G3).length = 1 from rfl]
        rw [vals_keep (k := (drp X gs U k).1.length) (by omega) (by omega)]
        rw [vals_gs (hs := (drp X gs U k).1) _ (fun j hj => gg_append_l (by omega))]
      · rw [drp_succ_n h]
        dsimp only
        rw [gi_append_l (by omega)]
    · obtain rfl : z = X + k := by omega
      have h : (X : Int) + k ∈ U := by
        rcases hu with hu | hu
        · omega
        · rwa [show ((X + k : Nat) : Int) = (X : Int) + k by omega] at hu
      rw [drp_succ_u h]
      dsimp only
      rw [gi_last hl, List.length_append, show ([mvG (fun w => gi (drp X gs U k).2 w.toNat) (gg gs k)] : List G3).length = 1 from rfl, vals_succ, vals_succ]
      rw [vals_gs (hs := (drp X gs U k).1) _ (fun j hj => gg_append_l (by omega)), gg_append_r]
      rw [show ((X : Int) + ((drp X gs U k).1.length : Nat)).toNat = X + (drp X gs U k).1.length by omega, gi_last (by rw [vals_len, hX]), gi_last (by rw [vals_len, hX])]
      refine gval_parts hgk fun y hy => ?_
      have hy2 := prt_lt hgk y hy
      have hyU := hc k (by omega) h y hy
      have := ihk y.toNat (by omega) (.inr (by rwa [show ((y.toNat : Nat) : Int) = y by omega]))
      exact this
theorem drp_dst {X : Nat} {gs : List G3} {U : List Int} {m : Nat} (hg : ∀ j : Nat, j < m → GateIs (gg gs j) ((X : Int) + j)) (hc : ∀ j : Nat, j < m → (X : Int) + j ∈ U → ∀ z ∈ prt (gg gs j), z ∈ U) :
    ∀ k, k ≤ m → ∀ j : Nat, j < k → (X : Int) + j ∈ U → ∃ r, r < (drp X gs U k).1.length ∧ gi (drp X gs U k).2 (X + j) = (X : Int) + r ∧ gg (drp X gs U k).1 r = mvG (fun w => gi (drp X gs U k).2 w.toNat) (gg gs j) ∧ GateIs (gg (drp X gs U k).1 r) ((X : Int) + r) := by
  intro k
  induction k with
  | zero => intro _ j hj; omega
  | succ k ih =>
    intro hk j hj hu
    have hl := (drp_len X gs U k).2
    have hb := drp_bd (X := X) (gs := gs) (U := U) k
    have same : ∀ j : Nat, j ≤ k → j < m → ∀ v : Int, mvG (fun w => gi ((drp X gs U k).2 ++ [v]) w.toNat) (gg gs j) = mvG (fun w => gi (drp X gs U k).2 w.toNat) (gg gs j) := fun j hj hm v => mvG_parts (hg j hm) fun z hz => by
      have := prt_lt (hg j hm) z hz
      exact gi_append_l (by omega)
    rcases Nat.lt_or_ge j k with h1 | h1
    · obtain ⟨r, r1, r2, r3, r4⟩ := ih (by omega) j h1 hu
      by_cases h : (X : Int) + k ∈ U
      · rw [drp_succ_u h]
        dsimp only
        refine ⟨r, by simp; omega, by rw [gi_append_l (by omega)]; exact r2, ?_, ?_⟩
        · rw [gg_append_l r1, same j (by omega) (by omega)]; exact r3
        · rw [gg_append_l r1]; exact r4
      · rw [drp_succ_n h]
        dsimp only
        refine ⟨r, r1, by rw [gi_append_l (by omega)]; exact r2, ?_, r4⟩
        rw [same j (by omega) (by omega)]; exact r3
    · obtain rfl : j = k := by omega
      rw [drp_succ_u hu]
      dsimp only
      refine ⟨(drp X gs U j).1.length, by simp, gi_last hl, ?_, ?_⟩
      · rw [gg_append_r, same j (Nat.le_refl _) (by omega)]
      · rw [gg_append_r]
        have hgj := hg j (by omega)
        have key : ∀ z ∈ prt (gg gs j), 0 ≤ gi (drp X gs U j).2 z.toNat ∧ gi (drp X gs U j).2 z.toNat < (X : Int) + (drp X gs U j).1.length := fun z hz => by
          have h2 := prt_lt hgj z hz
          have h3 := hc j (by omega) hu z hz
          exact hb z.toNat (by omega) (.inr (by rwa [show ((z.toNat : Nat) : Int) = z by omega]))
        generalize gg gs j = g at *
        obtain ⟨gk, ga, gb⟩ := g
        cases hgj with
        | xor_ h0 => dsimp only at h0; subst h0; have k1 := key ga (by simp [prt]); have k2 := key gb (by simp [prt]); exact .xor_ (by simp [mvG]) (by simpa [mvG] using k1.1) (by simpa [mvG] using k1.2) (by simpa [mvG] using k2.1) (by simpa [mvG] using k2.2)
        | and_ h0 => dsimp only at h0; subst h0; have k1 := key ga (by simp [prt]); have k2 := key gb (by simp [prt]); exact .and_ (by simp [mvG]) (by simpa [mvG] using k1.1) (by simpa [mvG] using k1.2) (by simpa [mvG] using k2.1) (by simpa [mvG] using k2.2)
        | not_ h0 h1 h2 h3 => dsimp only at h0 h3; subst h0; subst h3; have k1 := key ga (by simp [prt]); exact .not_ (by simp [mvG]) (by simpa [mvG] using k1.1) (by simpa [mvG] using k1.2) (by simp [mvG])
        | one_ h0 h1 h2 => dsimp only at h0 h1 h2; subst h0; subst h1; subst h2; exact .one_ (by simp [mvG]) (by simp [mvG]) (by simp [mvG])
theorem drp_src {X : Nat} {gs : List G3} {U : List Int} : ∀ k, ∀ i, i < (drp X gs U k).1.length → ∃ j : Nat, j < k ∧ (X : Int) + j ∈ U ∧ gi (drp X gs U k).2 (X + j) = (X : Int) + i := by
  intro k
  induction k with
  | zero => intro i hi; exact absurd hi (by show ¬ i < ([] : List G3).length; simp)
  | succ k ih =>
    intro i hi
    have hl := (drp_len X gs U k).2
    by_cases h : (X : Int) + k ∈ U
    · rw [drp_succ_u h] at hi ⊢
      dsimp only at hi ⊢
      rw [List.length_append, show ([mvG (fun w => gi (drp X gs U k).2 w.toNat) (gg gs k)] : List G3).length = 1 from rfl] at hi
      rcases Nat.lt_or_ge i (drp X gs U k).1.length with h1 | h1
      · obtain ⟨j, j1, j2, j3⟩ := ih i h1
        exact ⟨j, by omega, j2, by rw [gi_append_l (by omega)]; exact j3⟩
      · exact ⟨k, by omega, h, by rw [gi_last hl, show i = (drp X gs U k).1.length by omega]⟩
    · rw [drp_succ_n h] at hi ⊢
      dsimp only at hi ⊢
      obtain ⟨j, j1, j2, j3⟩ := ih i hi
      exact ⟨j, by omega, j2, by rw [gi_append_l (by omega)]; exact j3⟩
theorem usd_inv {X : Nat} {gs : List G3} : ∀ k {L : List Int} {z : Int}, z ∈ usd X gs k L → z ∈ L ∨ ∃ j : Nat, j < k ∧ (X : Int) + j ∈ usd X gs k L ∧ z ∈ prt (gg gs j) := by
  intro k
  induction k with
  | zero => intro L z h; exact .inl h
  | succ k ih =>
    intro L z h
    rcases ih h with h1 | ⟨j, j1, j2, j3⟩
    · unfold stp at h1
      split at h1
      · rename_i hu
        rcases puts_mem.1 h1 with h2 | h2
        · exact .inr ⟨k, by omega, usd_mono (inL_iff.1 hu), h2⟩
        · exact .inl h2
      · exact .inl h1
    · exact .inr ⟨j, by omega, j2, j3⟩
theorem prt_mv {f : Int → Int} {g : G3} {z : Int} (h : z ∈ prt g) : f z ∈ prt (mvG f g) := by
  obtain ⟨gk, ga, gb⟩ := g
  unfold prt at h
  by_cases h1 : gk = 0 ∨ gk = 1
  · rw [if_pos h1] at h
    simp only [List.mem_cons, List.not_mem_nil, or_false] at h
    have e : prt (mvG f ⟨gk, ga, gb⟩) = [f ga, f gb] := by simp [prt, mvG, h1]
    rw [e]; rcases h with rfl | rfl <;> simp
  · rw [if_neg h1] at h
    by_cases h2 : gk = 2
    · rw [if_pos h2] at h
      simp only [List.mem_cons, List.not_mem_nil, or_false] at h
      subst h
      have e : prt (mvG f ⟨gk, z, gb⟩) = [f z] := by simp [prt, mvG, h2]
      rw [e]; simp
    · rw [if_neg h2] at h; cases h
theorem drp_used {X : Nat} {gs : List G3} {os : List Int} (hg : ∀ j : Nat, j < gs.length → GateIs (gg gs j) ((X : Int) + j)) (i : Nat) (hi : i < (drp X gs (usedL X gs os) gs.length).1.length) :
    (X : Int) + i ∈ usedL X (drp X gs (usedL X gs os) gs.length).1 (pick (drp X gs (usedL X gs os) gs.length).2 os) := by
  have hc : ∀ j : Nat, j < gs.length → (X : Int) + j ∈ usedL X gs os → ∀ z ∈ prt (gg gs j), z ∈ usedL X gs os := fun j hj hu => usd_closed hg hj hu
  have hdst := drp_dst (U := usedL X gs os) hg hc gs.length (Nat.le_refl _)
  have hsrc := drp_src (X := X) (gs := gs) (U := usedL X gs os) gs.length
  have hinv : ∀ z, z ∈ usedL X gs os → z ∈ os ∨ ∃ j : Nat, j < gs.length ∧ (X : Int) + j ∈ usedL X gs os ∧ z ∈ prt (gg gs j) := fun z hz => by
    rcases usd_inv gs.length hz with h | h
    · rcases puts_mem.1 h with h | h
      · exact .inl h
      · cases h
    · exact .inr h
  generalize usedL X gs os = U at *
  generalize drp X gs U gs.length = D at *
  obtain ⟨ds, T⟩ := D
  dsimp only at *
  have hG : ∀ r : Nat, r < ds.length → GateIs (gg ds r) ((X : Int) + r) := fun r hr => by
    obtain ⟨j, j1, j2, j3⟩ := hsrc r hr
    obtain ⟨r', r1, r2, r3, r4⟩ := hdst j j1 j2
    have : r' = r := by omega
    subst this; exact r4
  have key : ∀ d, ∀ j : Nat, gs.length - j = d → j < gs.length → (X : Int) + j ∈ U → gi T (X + j) ∈ usedL X ds (pick T os) := by
    intro d
    induction d using Nat.strongRecOn with
    | ind d ih =>
      intro j hd hj hu
      rcases hinv _ hu with h | ⟨j', h1, h2, h3⟩
      · refine usd_mono (puts_mem.2 (.inl ?_))
        exact List.mem_map.2 ⟨(X : Int) + j, h, by rw [show ((X : Int) + j).toNat = X + j by omega]⟩
      · have hlt := prt_lt (hg j' h1) _ h3
        have h4 := ih (gs.length - j') (by omega) j' rfl h1 h2
        obtain ⟨r, r1, r2, r3, r4⟩ := hdst j' h1 h2
        rw [r2] at h4
        have h5 := usd_closed hG r1 h4 (gi T ((X : Int) + j).toNat) (by rw [r3]; exact prt_mv (f := fun w => gi T w.toNat) h3)
        rwa [show ((X : Int) + j).toNat = X + j by omega] at h5
  obtain ⟨j, j1, j2, j3⟩ := hsrc i hi
  have := key _ j rfl j1 j2
  rwa [j3] at this
end Go.Proofs.Ytcdhmcpocohbpaa
