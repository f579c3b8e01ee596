/- Plain functions: degrees of arithmetic circuits, constant wires, moved gates; no program in sight. -/
import Derived.Test.YtgpfiefhhlejfaaQNum
namespace Go.Proofs.Ytgpfiefhhlejfaa
open Go.RowKit
set_option linter.unusedVariables false
set_option linter.unusedSimpArgs false

/-- The degree of an arithmetic gate behind the wires' degrees, capped at M. -/
def dgv (M : Int) (g : G3) (out : List Int) : Int :=
  if g.k = 0 then max (gi out g.a.toNat) (gi out g.b.toNat) else if g.k = 1 then min (gi out g.a.toNat + gi out g.b.toNat) M else if g.k = 2 then gi out g.a.toNat else 0
/-- The degrees of the wires behind k gates. -/
def degs (M : Int) (gs : List G3) (x : Nat) : Nat → List Int
  | 0 => List.replicate x 1
  | k + 1 => degs M gs x k ++ [dgv M (gg gs k) (degs M gs x k)]
theorem degs_len (M : Int) (gs : List G3) (x k : Nat) : (degs M gs x k).length = x + k := by
  induction k with
  | zero => simp [degs]
  | succ k ih => simp [degs, ih]; omega
theorem degs_succ (M : Int) (gs : List G3) (x k : Nat) : degs M gs x (k + 1) = degs M gs x k ++ [dgv M (gg gs k) (degs M gs x k)] := rfl
theorem gi_bd0 {lo hi : Int} {l : List Int} (h : allB lo hi l = true) (h0 : lo ≤ 0 ∧ 0 ≤ hi) (j : Nat) : lo ≤ gi l j ∧ gi l j ≤ hi := by
  rcases Nat.lt_or_ge j l.length with hj | hj
  · exact allB_gi h hj
  · unfold gi; rw [List.getD_eq_getElem?_getD, List.getElem?_eq_none hj]; exact h0
theorem dgv_bd {M : Int} (hM : 1 ≤ M) {g : G3} {out : List Int} (h : allB 0 M out = true) : 0 ≤ dgv M g out ∧ dgv M g out ≤ M := by
  have ha := gi_bd0 h (by omega) g.a.toNat
  have hb := gi_bd0 h (by omega) g.b.toNat
  unfold dgv
  split
  · omega
  · split
    · omega
    · split <;> omega
theorem degs_bd {M : Int} (hM : 1 ≤ M) (gs : List G3) (x k : Nat) : allB 0 M (degs M gs x k) = true := by
  induction k with
  | zero => exact allB_iff.2 fun z hz => by have := List.eq_of_mem_replicate hz; omega
  | succ k ih => rw [degs_succ]; exact allB_snoc ih (dgv_bd hM ih)
theorem gi_map0 {os : List Int} {f : Int → Int} (h0 : f 0 = 0) (k : Nat) : gi (os.map f) k = f (gi os k) := by
  rcases Nat.lt_or_ge k os.length with h | h
  · exact gi_map h
  · unfold gi; rw [List.getD_eq_getElem?_getD, List.getD_eq_getElem?_getD, List.getElem?_eq_none (by simpa using h), List.getElem?_eq_none h]; exact h0.symm
/-- Degrees under a lower cap are the degrees under a higher cap, capped. -/
theorem degs_cap {M N : Int} (hM : 1 ≤ M) (hMN : M ≤ N) (gs : List G3) (x k : Nat) : degs M gs x k = (degs N gs x k).map fun z => min z M := by
  induction k with
  | zero => simp [degs]; right; omega
  | succ k ih =>
    have hb := degs_bd (show 1 ≤ N by omega) gs x k
    rw [degs_succ, degs_succ, List.map_append, ih]
    congr 1
    simp only [List.map_cons, List.map_nil, List.cons.injEq, and_true]
    have ha := gi_bd0 hb (by omega) (gg gs k).a.toNat
    have hb' := gi_bd0 hb (by omega) (gg gs k).b.toNat
    unfold dgv
    rw [gi_map0 (by omega), gi_map0 (by omega)]
    split
    · omega
    · split
      · omega
      · split <;> omega
/-- The degrees of the outs. -/
def degF (p x y : Int) (gs : List G3) (os : List Int) : Option (List Int) :=
  if arB p x y gs os && allB 0 1000000 (degs 2000000 gs (x + y).toNat gs.length) then some (pick (degs 2000000 gs (x + y).toNat gs.length) os) else none
theorem degF_len (p x y : Int) (gs : List G3) (os : List Int) : ((degF p x y gs os).getD []).length ≤ 20 := by
  unfold degF
  split
  · rename_i h
    simp only [Bool.and_eq_true] at h
    have := (arB_bd h.1).2.2.2.2.1
    simp [pick_len]; omega
  · simp
theorem cap_same {l : List Int} (h : allB 0 1000000 l = true) : (l.map fun z => min z 1000001) = l := by
  conv => rhs; rw [← List.map_id l]
  exact List.map_congr_left fun z hz => by have := allB_iff.1 h z hz; simp; omega
theorem cap_has {l : List Int} (h0 : allB 0 2000000 l = true) : ((l.map fun z => min z 1000001).any fun z => decide (z = 1000001)) = !(allB 0 1000000 l) := by
  cases h : allB 0 1000000 l with
  | true =>
    rw [cap_same h]
    simp only [Bool.not_true, List.any_eq_false, decide_eq_true_eq]
    intro z hz; have := allB_iff.1 h z hz; omega
  | false =>
    simp only [Bool.not_false, List.any_eq_true, decide_eq_true_eq]
    have : ¬ ∀ z ∈ l, 0 ≤ z ∧ z ≤ 1000000 := fun hc => by rw [allB_iff.2 hc] at h; cases h
    simp only [Classical.not_forall] at this
    obtain ⟨z, hz, hn⟩ := this
    have := allB_iff.1 h0 z hz
    exact ⟨min z 1000001, List.mem_map.2 ⟨z, hz, rfl⟩, by omega⟩

/-- What is known of a gate's value behind what is known of the wires: 0, 1, or -1 for not known. -/
def cst (g : G3) (out : List Int) : Int :=
  if g.k = 3 then 1 else if g.k = 2 then (if 0 ≤ gi out g.a.toNat then 1 - gi out g.a.toNat else -1)
  else if g.k = 0 then (if g.a = g.b then 0 else if 0 ≤ gi out g.a.toNat ∧ 0 ≤ gi out g.b.toNat then bxor (gi out g.a.toNat) (gi out g.b.toNat) else -1)
  else (if gi out g.a.toNat = 0 ∨ gi out g.b.toNat = 0 then 0 else if gi out g.a.toNat = 1 ∧ gi out g.b.toNat = 1 then 1 else -1)
def csts (gs : List G3) (x : Nat) : Nat → List Int
  | 0 => List.replicate x (-1)
  | k + 1 => csts gs x k ++ [cst (gg gs k) (csts gs x k)]
theorem csts_len (gs : List G3) (x k : Nat) : (csts gs x k).length = x + k := by
  induction k with
  | zero => simp [csts]
  | succ k ih => simp [csts, ih]; omega
theorem csts_succ (gs : List G3) (x k : Nat) : csts gs x (k + 1) = csts gs x k ++ [cst (gg gs k) (csts gs x k)] := rfl
theorem cst_bd {g : G3} {out : List Int} (h : allB (-1) 1 out = true) : -1 ≤ cst g out ∧ cst g out ≤ 1 := by
  have ha := gi_bd0 h (by omega) g.a.toNat
  have hb := gi_bd0 h (by omega) g.b.toNat
  unfold cst
  split
  · omega
  · split
    · split <;> omega
    · split
      · split
        · omega
        · split
          · rename_i h1
            have := bxor_bd (a := gi out g.a.toNat) (b := gi out g.b.toNat) (by omega) (by omega)
            omega
          · omega
      · split
        · omega
        · split <;> omega
theorem csts_bd (gs : List G3) (x k : Nat) : allB (-1) 1 (csts gs x k) = true := by
  induction k with
  | zero => exact allB_iff.2 fun z hz => by have := List.eq_of_mem_replicate hz; omega
  | succ k ih => rw [csts_succ]; exact allB_snoc ih (cst_bd ih)

/-- A gate whose wires are moved. -/
def mvG (f : Int → Int) (g : G3) : G3 := if g.k = 0 ∨ g.k = 1 then ⟨g.k, f g.a, f g.b⟩ else if g.k = 2 then ⟨g.k, f g.a, g.b⟩ else g
/-- Where the wires of a circuit with the inputs ws go, its gates' own wires from next on. -/
def wmap (ws : List Int) (next : Int) (w : Int) : Int := if w < ws.length then gi ws w.toNat else next + (w - ws.length)
theorem gi_tabs {ws : List Int} {next : Int} {k : Nat} {w : Int} (h0 : 0 ≤ w) (h : w < ws.length + k) : gi (ws ++ tab k fun i => next + i) w.toNat = wmap ws next w := by
  unfold wmap
  split
  · exact gi_append_lt (by omega)
  · unfold gi
    rw [List.getD_eq_getElem?_getD, List.getElem?_append_right (by omega)]
    have := gi_tab (f := fun i : Nat => next + (i : Int)) (n := k) (j := w.toNat - ws.length) (by omega)
    unfold gi at this
    rw [List.getD_eq_getElem?_getD] at this
    rw [this]; omega
theorem mvG_congr {f h : Int → Int} {g : G3} {n : Int} (hg : GateIs g n) (hfh : ∀ w, 0 ≤ w → w < n → f w = h w) : mvG f g = mvG h g := by
  cases hg with
  | xor_ hk a0 a1 b0 b1 => simp only [mvG, hk, true_or, if_true, hfh g.a a0 a1, hfh g.b b0 b1]
  | and_ hk a0 a1 b0 b1 => simp only [mvG, hk, or_true, if_true, hfh g.a a0 a1, hfh g.b b0 b1]
  | not_ hk a0 a1 b0 => simp [mvG, hk, hfh g.a a0 a1]
  | one_ hk a0 b0 => simp [mvG, hk]

end Go.Proofs.Ytgpfiefhhlejfaa
