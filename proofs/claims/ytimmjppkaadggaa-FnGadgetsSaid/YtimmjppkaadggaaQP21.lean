/- Plain facts: what the gadgets' gates reckon. No program in sight. Plain facts: what the gadgets' circuits answer for numbers. No program in sight. Contracts of the bits of a number, the number of bits, the outs of a circuit. -/
import Derived.Test.YtimmjppkaadggaaQP04
import Derived.Test.YtimmjppkaadggaaQP20
import Derived.Test.YtimmjppkaadggaaQP08
namespace Go.Proofs.Ytimmjppkaadggaa
open Go.RowKit
set_option linter.unusedVariables false
set_option linter.unusedSimpArgs false
theorem ggA_l {xs ys : List G3} {j : Nat} (h : j < xs.length) : gg (xs ++ ys) j = gg xs j := by
  unfold gg; rw [List.getD_eq_getElem?_getD, List.getD_eq_getElem?_getD, List.getElem?_append_left h]
theorem ggA_r (xs : List G3) (v : G3) : gg (xs ++ [v]) xs.length = v := by unfold gg; simp
theorem gi_lastG {xs : List Int} {v : Int} {n : Nat} (h : xs.length = n) : gi (xs ++ [v]) n = v := by subst h; exact gi_append_at
theorem vals_gsG {gs hs : List G3} {inp : List Int} : ∀ k, (∀ j, j < k → gg gs j = gg hs j) → vals gs inp k = vals hs inp k := by
  intro k
  induction k with
  | zero => intro _; rfl
  | succ k ih => intro h; rw [vals_succ, vals_succ, ih (fun j hj => h j (by omega)), h k (by omega)]
def wv (inp : List Int) (gs : List G3) (z : Int) : Int := gi (vals gs inp gs.length) z.toNat
theorem vals_app (gs : List G3) (g : G3) (inp : List Int) : vals (gs ++ [g]) inp (gs ++ [g]).length = vals gs inp gs.length ++ [gval g (vals gs inp gs.length)] := by
  rw [List.length_append, show ([g] : List G3).length = 1 from rfl, vals_succ, ggA_r, vals_gsG (hs := gs) _ (fun j hj => ggA_l hj)]
theorem wv_old {X : Nat} {inp : List Int} (hX : inp.length = X) {gs : List G3} {g : G3} {z : Int} (h : 0 ≤ z ∧ z < (X : Int) + gs.length) : wv inp (gs ++ [g]) z = wv inp gs z := by
  unfold wv; rw [vals_app, gi_append_lt (by rw [vals_len, hX]; omega)]
theorem wv_new {X : Nat} {inp : List Int} (hX : inp.length = X) {gs : List G3} {g : G3} {z : Int} (h : z = (X : Int) + gs.length) : wv inp (gs ++ [g]) z = gval g (vals gs inp gs.length) := by
  unfold wv; rw [vals_app, h, show ((X : Int) + (gs.length : Nat)).toNat = X + gs.length by omega, gi_lastG (by rw [vals_len, hX])]
theorem wv_nil (inp : List Int) (z : Int) : wv inp [] z = gi inp z.toNat := rfl
theorem gval_x (inp : List Int) (gs : List G3) (a b : Int) : gval ⟨0, a, b⟩ (vals gs inp gs.length) = bxor (wv inp gs a) (wv inp gs b) := rfl
theorem gval_a (inp : List Int) (gs : List G3) (a b : Int) : gval ⟨1, a, b⟩ (vals gs inp gs.length) = band (wv inp gs a) (wv inp gs b) := rfl
theorem gval_n (inp : List Int) (gs : List G3) (a b : Int) : gval ⟨2, a, b⟩ (vals gs inp gs.length) = 1 - wv inp gs a := rfl
def Bt (v : Int) : Prop := 0 ≤ v ∧ v ≤ 1
structure Kp (X : Nat) (inp : List Int) (gs hs : List G3) : Prop where
  len : gs.length ≤ hs.length
  v : ∀ z : Int, 0 ≤ z ∧ z < (X : Int) + gs.length → wv inp hs z = wv inp gs z
theorem Kp.refl (X : Nat) (inp : List Int) (gs : List G3) : Kp X inp gs gs := ⟨Nat.le_refl _, fun _ _ => rfl⟩
theorem Kp.trans {X : Nat} {inp : List Int} {a b c : List G3} (h : Kp X inp a b) (k : Kp X inp b c) : Kp X inp a c :=
  ⟨Nat.le_trans h.len k.len, fun z hz => (k.v z (by have := h.len; omega)).trans (h.v z hz)⟩
theorem Kp.snoc {X : Nat} {inp : List Int} (hX : inp.length = X) {a b : List G3} (h : Kp X inp a b) (g : G3) : Kp X inp a (b ++ [g]) :=
  ⟨by rw [List.length_append]; exact Nat.le_trans h.len (Nat.le_add_right _ _), fun z hz => (wv_old hX (by have := h.len; omega)).trans (h.v z hz)⟩
def nb (f : Nat → Int) : Nat → Int
  | 0 => 0
  | i + 1 => nb f i + f i * 2 ^ i
theorem nb_congr {f g : Nat → Int} : ∀ i, (∀ j, j < i → f j = g j) → nb f i = nb g i
  | 0, _ => rfl
  | i + 1, h => by rw [nb, nb, nb_congr i (fun j hj => h j (by omega)), h i (by omega)]
theorem numN_nb (l : List Int) : ∀ i, i ≤ l.length → numN (l.take i) = nb (gi l) i := by
  intro i
  induction i with
  | zero => intro _; rfl
  | succ i ih => intro h; rw [gi_take_snoc (by omega), numN_snoc, ih (by omega), nb, List.length_take, Nat.min_eq_left (by omega)]
theorem numN_nb' (l : List Int) : numN l = nb (gi l) l.length := by rw [← numN_nb l l.length (Nat.le_refl _), List.take_length]
theorem nb_bd {f : Nat → Int} : ∀ i, (∀ j, j < i → Bt (f j)) → 0 ≤ nb f i ∧ nb f i < 2 ^ i
  | 0, _ => by simp [nb]
  | i + 1, h => by
    have h1 := nb_bd i (fun j hj => h j (by omega))
    have h2 := h i (by omega)
    rw [nb, Int.pow_succ]
    rcases (show f i = 0 ∨ f i = 1 by unfold Bt at h2; omega) with e | e <;> rw [e] <;> omega
theorem numN_bits (n k : Nat) : numN (bitsN n k) = ((n % 2 ^ k : Nat) : Int) := by
  induction k with
  | zero => simp [bitsN, tab, numN, Nat.mod_one]
  | succ k ih =>
    rw [bitsN_snoc, numN_snoc, ih, bitsN_len, Nat.mod_pow_succ]
    simp only [Int.natCast_add, Int.natCast_mul, Int.natCast_pow]
    rw [Int.mul_comm]; rfl
theorem numN_bits' {n k : Nat} (h : n < 2 ^ k) : numN (bitsN n k) = n := by rw [numN_bits, Nat.mod_eq_of_lt h]
theorem bitsN_bt {n k j : Nat} (h : j < k) : Bt (gi (bitsN n k) j) := allB_gi (bitsN_bd n k) (by rw [bitsN_len]; exact h)
theorem bx {a b : Int} (ha : Bt a) (hb : Bt b) : bxor a b = (a + b) % 2 := bxor_bit ha hb
theorem ba {a b : Int} (ha : Bt a) (hb : Bt b) : band a b = a * b := band_bit ha hb
theorem bt01 {a : Int} (h : Bt a) : a = 0 ∨ a = 1 := by unfold Bt at h; omega
section
variable {X : Nat} {inp : List Int} (hX : inp.length = X)
include hX
theorem add5 {g : List G3} {a b c : Int} (ha : 0 ≤ a ∧ a < (X : Int) + g.length) (hb : 0 ≤ b ∧ b < (X : Int) + g.length) (hc : 0 ≤ c ∧ c < (X : Int) + g.length) (va : Bt (wv inp g a)) (vb : Bt (wv inp g b)) (vc : Bt (wv inp g c)) (n : Int) (hn : n = (X : Int) + g.length) :
    Kp X inp g (g ++ [⟨0, a, c⟩] ++ [⟨0, b, c⟩] ++ [⟨0, n, b⟩] ++ [⟨1, n, n + 1⟩] ++ [⟨0, n + 3, c⟩]) ∧
    wv inp (g ++ [⟨0, a, c⟩] ++ [⟨0, b, c⟩] ++ [⟨0, n, b⟩] ++ [⟨1, n, n + 1⟩] ++ [⟨0, n + 3, c⟩]) (n + 2) = (wv inp g a + wv inp g b + wv inp g c) % 2 ∧
    wv inp (g ++ [⟨0, a, c⟩] ++ [⟨0, b, c⟩] ++ [⟨0, n, b⟩] ++ [⟨1, n, n + 1⟩] ++ [⟨0, n + 3, c⟩]) (n + 4) = (wv inp g a + wv inp g b + wv inp g c) / 2 := by
  have k1 := (Kp.refl X inp g).snoc hX ⟨0, a, c⟩
  have l1 : (g ++ [(⟨0, a, c⟩ : G3)]).length = g.length + 1 := by simp
  have e1 : wv inp (g ++ [⟨0, a, c⟩]) n = (wv inp g a + wv inp g c) % 2 := by rw [wv_new hX hn, gval_x, bx va vc]
  generalize g ++ [(⟨0, a, c⟩ : G3)] = g1 at *
  have k2 := k1.snoc hX ⟨0, b, c⟩
  have l2 : (g1 ++ [(⟨0, b, c⟩ : G3)]).length = g.length + 2 := by simp [l1]
  have e2 : wv inp (g1 ++ [⟨0, b, c⟩]) (n + 1) = (wv inp g b + wv inp g c) % 2 := by
    rw [wv_new hX (by rw [l1]; omega), gval_x, k1.v b hb, k1.v c hc, bx vb vc]
  have f2 : wv inp (g1 ++ [⟨0, b, c⟩]) n = (wv inp g a + wv inp g c) % 2 := by rw [wv_old hX (by rw [l1]; omega), e1]
  generalize g1 ++ [(⟨0, b, c⟩ : G3)] = g2 at *
  have k3 := k2.snoc hX ⟨0, n, b⟩
  have l3 : (g2 ++ [(⟨0, n, b⟩ : G3)]).length = g.length + 3 := by simp [l2]
  have e3 : wv inp (g2 ++ [⟨0, n, b⟩]) (n + 2) = (wv inp g a + wv inp g b + wv inp g c) % 2 := by
    rw [wv_new hX (by rw [l2]; omega), gval_x, f2, k2.v b hb, bx (by unfold Bt; omega) vb]; omega
  have f3 : wv inp (g2 ++ [⟨0, n, b⟩]) n = (wv inp g a + wv inp g c) % 2 := by rw [wv_old hX (by rw [l2]; omega), f2]
  have h3 : wv inp (g2 ++ [⟨0, n, b⟩]) (n + 1) = (wv inp g b + wv inp g c) % 2 := by rw [wv_old hX (by rw [l2]; omega), e2]
  generalize g2 ++ [(⟨0, n, b⟩ : G3)] = g3 at *
  have k4 := k3.snoc hX ⟨1, n, n + 1⟩
  have l4 : (g3 ++ [(⟨1, n, n + 1⟩ : G3)]).length = g.length + 4 := by simp [l3]
  have e4 : wv inp (g3 ++ [⟨1, n, n + 1⟩]) (n + 3) = ((wv inp g a + wv inp g c) % 2) * ((wv inp g b + wv inp g c) % 2) := by
    rw [wv_new hX (by rw [l3]; omega), gval_a, f3, h3, ba (by unfold Bt; omega) (by unfold Bt; omega)]
  have f4 : wv inp (g3 ++ [⟨1, n, n + 1⟩]) (n + 2) = (wv inp g a + wv inp g b + wv inp g c) % 2 := by rw [wv_old hX (by rw [l3]; omega), e3]
  generalize g3 ++ [(⟨1, n, n + 1⟩ : G3)] = g4 at *
  refine ⟨k4.snoc hX _, ?_, ?_⟩
  · rw [wv_old hX (by rw [l4]; omega), f4]
  · rw [wv_new hX (by rw [l4]; omega), gval_x, e4, k4.v c hc]
    rcases bt01 va with h1 | h1 <;> rcases bt01 vb with h2 | h2 <;> rcases bt01 vc with h3 | h3 <;> rw [h1, h2, h3] <;> decide
theorem add2 {g : List G3} {a b : Int} (ha : 0 ≤ a ∧ a < (X : Int) + g.length) (hb : 0 ≤ b ∧ b < (X : Int) + g.length) (va : Bt (wv inp g a)) (vb : Bt (wv inp g b)) (n : Int) (hn : n = (X : Int) + g.length) :
    Kp X inp g (g ++ [⟨0, a, b⟩] ++ [⟨1, a, b⟩]) ∧ wv inp (g ++ [⟨0, a, b⟩] ++ [⟨1, a, b⟩]) n = (wv inp g a + wv inp g b) % 2 ∧ wv inp (g ++ [⟨0, a, b⟩] ++ [⟨1, a, b⟩]) (n + 1) = (wv inp g a + wv inp g b) / 2 := by
  have k1 := (Kp.refl X inp g).snoc hX ⟨0, a, b⟩
  have l1 : (g ++ [(⟨0, a, b⟩ : G3)]).length = g.length + 1 := by simp
  refine ⟨k1.snoc hX _, ?_, ?_⟩
  · rw [wv_old hX (by rw [l1]; omega), wv_new hX hn, gval_x, bx va vb]
  · rw [wv_new hX (by rw [l1]; omega), gval_a, k1.v a ha, k1.v b hb, ba va vb]
    rcases bt01 va with h1 | h1 <;> rcases bt01 vb with h2 | h2 <;> rw [h1, h2] <;> decide
theorem sub6 {g : List G3} {a b c : Int} (ha : 0 ≤ a ∧ a < (X : Int) + g.length) (hb : 0 ≤ b ∧ b < (X : Int) + g.length) (hc : 0 ≤ c ∧ c < (X : Int) + g.length) (va : Bt (wv inp g a)) (vb : Bt (wv inp g b)) (vc : Bt (wv inp g c)) (n : Int) (hn : n = (X : Int) + g.length) :
    Kp X inp g (g ++ [⟨0, a, c⟩] ++ [⟨0, b, c⟩] ++ [⟨0, n, b⟩] ++ [⟨2, n, 0⟩] ++ [⟨1, n + 3, n + 1⟩] ++ [⟨0, n + 4, c⟩]) ∧
    Bt (wv inp (g ++ [⟨0, a, c⟩] ++ [⟨0, b, c⟩] ++ [⟨0, n, b⟩] ++ [⟨2, n, 0⟩] ++ [⟨1, n + 3, n + 1⟩] ++ [⟨0, n + 4, c⟩]) (n + 2)) ∧
    Bt (wv inp (g ++ [⟨0, a, c⟩] ++ [⟨0, b, c⟩] ++ [⟨0, n, b⟩] ++ [⟨2, n, 0⟩] ++ [⟨1, n + 3, n + 1⟩] ++ [⟨0, n + 4, c⟩]) (n + 5)) ∧
    wv inp (g ++ [⟨0, a, c⟩] ++ [⟨0, b, c⟩] ++ [⟨0, n, b⟩] ++ [⟨2, n, 0⟩] ++ [⟨1, n + 3, n + 1⟩] ++ [⟨0, n + 4, c⟩]) (n + 2) - 2 * wv inp (g ++ [⟨0, a, c⟩] ++ [⟨0, b, c⟩] ++ [⟨0, n, b⟩] ++ [⟨2, n, 0⟩] ++ [⟨1, n + 3, n + 1⟩] ++ [⟨0, n + 4, c⟩]) (n + 5) = wv inp g a - wv inp g b - wv inp g c := by
  have k1 := (Kp.refl X inp g).snoc hX ⟨0, a, c⟩
  have l1 : (g ++ [(⟨0, a, c⟩ : G3)]).length = g.length + 1 := by simp
  have e1 : wv inp (g ++ [⟨0, a, c⟩]) n = (wv inp g a + wv inp g c) % 2 := by rw [wv_new hX hn, gval_x, bx va vc]
  generalize g ++ [(⟨0, a, c⟩ : G3)] = g1 at *
  have k2 := k1.snoc hX ⟨0, b, c⟩
  have l2 : (g1 ++ [(⟨0, b, c⟩ : G3)]).length = g.length + 2 := by simp [l1]
  have e2 : wv inp (g1 ++ [⟨0, b, c⟩]) (n + 1) = (wv inp g b + wv inp g c) % 2 := by
    rw [wv_new hX (by rw [l1]; omega), gval_x, k1.v b hb, k1.v c hc, bx vb vc]
  have f2 : wv inp (g1 ++ [⟨0, b, c⟩]) n = (wv inp g a + wv inp g c) % 2 := by rw [wv_old hX (by rw [l1]; omega), e1]
  generalize g1 ++ [(⟨0, b, c⟩ : G3)] = g2 at *
  have k3 := k2.snoc hX ⟨0, n, b⟩
  have l3 : (g2 ++ [(⟨0, n, b⟩ : G3)]).length = g.length + 3 := by simp [l2]
  have e3 : wv inp (g2 ++ [⟨0, n, b⟩]) (n + 2) = (wv inp g a + wv inp g b + wv inp g c) % 2 := by
    rw [wv_new hX (by rw [l2]; omega), gval_x, f2, k2.v b hb, bx (by unfold Bt; omega) vb]; omega
  have f3 : wv inp (g2 ++ [⟨0, n, b⟩]) n = (wv inp g a + wv inp g c) % 2 := by rw [wv_old hX (by rw [l2]; omega), f2]
  have h3 : wv inp (g2 ++ [⟨0, n, b⟩]) (n + 1) = (wv inp g b + wv inp g c) % 2 := by rw [wv_old hX (by rw [l2]; omega), e2]
  generalize g2 ++ [(⟨0, n, b⟩ : G3)] = g3 at *
  have k4 := k3.snoc hX ⟨2, n, 0⟩
  have l4 : (g3 ++ [(⟨2, n, 0⟩ : G3)]).length = g.length + 4 := by simp [l3]
  have e4 : wv inp (g3 ++ [⟨2, n, 0⟩]) (n + 3) = 1 - (wv inp g a + wv inp g c) % 2 := by rw [wv_new hX (by rw [l3]; omega), gval_n, f3]
  have f4 : wv inp (g3 ++ [⟨2, n, 0⟩]) (n + 2) = (wv inp g a + wv inp g b + wv inp g c) % 2 := by rw [wv_old hX (by rw [l3]; omega), e3]
  have h4 : wv inp (g3 ++ [⟨2, n, 0⟩]) (n + 1) = (wv inp g b + wv inp g c) % 2 := by rw [wv_old hX (by rw [l3]; omega), h3]
  generalize g3 ++ [(⟨2, n, 0⟩ : G3)] = g4 at *
  have k5 := k4.snoc hX ⟨1, n + 3, n + 1⟩
  have l5 : (g4 ++ [(⟨1, n + 3, n + 1⟩ : G3)]).length = g.length + 5 := by simp [l4]
  have e5 : wv inp (g4 ++ [⟨1, n + 3, n + 1⟩]) (n + 4) = (1 - (wv inp g a + wv inp g c) % 2) * ((wv inp g b + wv inp g c) % 2) := by
    rw [wv_new hX (by rw [l4]; omega), gval_a, e4, h4, ba (by unfold Bt; omega) (by unfold Bt; omega)]
  have f5 : wv inp (g4 ++ [⟨1, n + 3, n + 1⟩]) (n + 2) = (wv inp g a + wv inp g b + wv inp g c) % 2 := by rw [wv_old hX (by rw [l4]; omega), f4]
  generalize g4 ++ [(⟨1, n + 3, n + 1⟩ : G3)] = g5 at *
  have e6 : wv inp (g5 ++ [⟨0, n + 4, c⟩]) (n + 2) = (wv inp g a + wv inp g b + wv inp g c) % 2 := by rw [wv_old hX (by rw [l5]; omega), f5]
  have f6 : wv inp (g5 ++ [⟨0, n + 4, c⟩]) (n + 5) = bxor ((1 - (wv inp g a + wv inp g c) % 2) * ((wv inp g b + wv inp g c) % 2)) (wv inp g c) := by
    rw [wv_new hX (by rw [l5]; omega), gval_x, e5, k5.v c hc]
  refine ⟨k5.snoc hX _, ?_, ?_, ?_⟩
  · rw [e6]; unfold Bt; omega
  · rw [f6]; unfold Bt
    rcases bt01 va with h1 | h1 <;> rcases bt01 vb with h2 | h2 <;> rcases bt01 vc with h3 | h3 <;> rw [h1, h2, h3] <;> decide
  · rw [e6, f6]
    rcases bt01 va with h1 | h1 <;> rcases bt01 vb with h2 | h2 <;> rcases bt01 vc with h3 | h3 <;> rw [h1, h2, h3] <;> decide
theorem sub3 {g : List G3} {a b : Int} (ha : 0 ≤ a ∧ a < (X : Int) + g.length) (hb : 0 ≤ b ∧ b < (X : Int) + g.length) (va : Bt (wv inp g a)) (vb : Bt (wv inp g b)) (n : Int) (hn : n = (X : Int) + g.length) :
    Kp X inp g (g ++ [⟨0, a, b⟩] ++ [⟨2, a, 0⟩] ++ [⟨1, n + 1, b⟩]) ∧ Bt (wv inp (g ++ [⟨0, a, b⟩] ++ [⟨2, a, 0⟩] ++ [⟨1, n + 1, b⟩]) n) ∧ Bt (wv inp (g ++ [⟨0, a, b⟩] ++ [⟨2, a, 0⟩] ++ [⟨1, n + 1, b⟩]) (n + 2)) ∧
    wv inp (g ++ [⟨0, a, b⟩] ++ [⟨2, a, 0⟩] ++ [⟨1, n + 1, b⟩]) n - 2 * wv inp (g ++ [⟨0, a, b⟩] ++ [⟨2, a, 0⟩] ++ [⟨1, n + 1, b⟩]) (n + 2) = wv inp g a - wv inp g b := by
  have k1 := (Kp.refl X inp g).snoc hX ⟨0, a, b⟩
  have l1 : (g ++ [(⟨0, a, b⟩ : G3)]).length = g.length + 1 := by simp
  have e1 : wv inp (g ++ [⟨0, a, b⟩]) n = (wv inp g a + wv inp g b) % 2 := by rw [wv_new hX hn, gval_x, bx va vb]
  generalize g ++ [(⟨0, a, b⟩ : G3)] = g1 at *
  have k2 := k1.snoc hX ⟨2, a, 0⟩
  have l2 : (g1 ++ [(⟨2, a, 0⟩ : G3)]).length = g.length + 2 := by simp [l1]
  have e2 : wv inp (g1 ++ [⟨2, a, 0⟩]) (n + 1) = 1 - wv inp g a := by rw [wv_new hX (by rw [l1]; omega), gval_n, k1.v a ha]
  have f2 : wv inp (g1 ++ [⟨2, a, 0⟩]) n = (wv inp g a + wv inp g b) % 2 := by rw [wv_old hX (by rw [l1]; omega), e1]
  generalize g1 ++ [(⟨2, a, 0⟩ : G3)] = g2 at *
  have e3 : wv inp (g2 ++ [⟨1, n + 1, b⟩]) n = (wv inp g a + wv inp g b) % 2 := by rw [wv_old hX (by rw [l2]; omega), f2]
  have f3 : wv inp (g2 ++ [⟨1, n + 1, b⟩]) (n + 2) = (1 - wv inp g a) * wv inp g b := by
    rw [wv_new hX (by rw [l2]; omega), gval_a, e2, k2.v b hb, ba (by unfold Bt at *; omega) vb]
  refine ⟨k2.snoc hX _, ?_, ?_, ?_⟩
  · rw [e3]; unfold Bt; omega
  · rw [f3]; unfold Bt
    rcases bt01 va with h1 | h1 <;> rcases bt01 vb with h2 | h2 <;> rw [h1, h2] <;> decide
  · rw [e3, f3]
    rcases bt01 va with h1 | h1 <;> rcases bt01 vb with h2 | h2 <;> rw [h1, h2] <;> decide
end
structure Rw_ (X : Nat) (inp : List Int) (g0 : List G3) (us : List Int) (w : Nat) : Prop where
  lt : ∀ j, j < w → 0 ≤ gi us j ∧ gi us j < (X : Int) + g0.length
  bt : ∀ j, j < w → Bt (wv inp g0 (gi us j))
structure AdOk (X : Nat) (inp : List Int) (g0 : List G3) (s : Ad) (i : Nat) : Prop where
  kp : Kp X inp g0 s.g
  ol : ∀ j, j < i → 0 ≤ gi s.o j ∧ gi s.o j < (X : Int) + s.g.length
  ob : ∀ j, j < i → Bt (wv inp s.g (gi s.o j))
  cl : 0 < i → 0 ≤ s.c ∧ s.c < (X : Int) + s.g.length
  cb : 0 < i → Bt (wv inp s.g s.c)
theorem AdOk.next {X : Nat} {inp : List Int} {g0 : List G3} {s : Ad} {i : Nat} (h : AdOk X inp g0 s i) (hl : s.o.length = i) {g' : List G3} {z c : Int} (k : Kp X inp s.g g') (hz : 0 ≤ z ∧ z < (X : Int) + g'.length) (hc : 0 ≤ c ∧ c < (X : Int) + g'.length) (bz : Bt (wv inp g' z)) (bc : Bt (wv inp g' c)) :
    AdOk X inp g0 ⟨g', s.o ++ [z], c⟩ (i + 1) ∧ nb (fun j => wv inp g' (gi (s.o ++ [z]) j)) (i + 1) = nb (fun j => wv inp s.g (gi s.o j)) i + wv inp g' z * 2 ^ i := by
  have hk := k.len
  have ha : ∀ j, j < i → gi (s.o ++ [z]) j = gi s.o j := fun j hj => gi_append_lt (by omega)
  have hb : gi (s.o ++ [z]) i = z := gi_lastG hl
  have hv : ∀ j, j < i → wv inp g' (gi s.o j) = wv inp s.g (gi s.o j) := fun j hj => k.v _ (h.ol j hj)
  refine ⟨⟨h.kp.trans k, fun j hj => ?_, fun j hj => ?_, fun _ => hc, fun _ => bc⟩, ?_⟩
  · rcases Nat.lt_or_ge j i with h1 | h1
    · dsimp only; rw [ha j h1]; have := h.ol j h1; omega
    · obtain rfl : j = i := by omega
      dsimp only; rw [hb]; exact hz
  · rcases Nat.lt_or_ge j i with h1 | h1
    · dsimp only; rw [ha j h1, hv j h1]; exact h.ob j h1
    · obtain rfl : j = i := by omega
      dsimp only; rw [hb]; exact bz
  · rw [nb, hb, nb_congr i (g := fun j => wv inp s.g (gi s.o j)) (fun j hj => by rw [ha j hj, hv j hj])]
theorem addS_v {X : Nat} {inp : List Int} (hX : inp.length = X) {g0 : List G3} {us vs : List Int} {w : Nat} (hu : Rw_ X inp g0 us w) (hv : Rw_ X inp g0 vs w) :
    ∀ i, i ≤ w → AdOk X inp g0 (addS X g0 us vs i) i ∧ (0 < i → nb (fun j => wv inp (addS X g0 us vs i).g (gi (addS X g0 us vs i).o j)) i + wv inp (addS X g0 us vs i).g (addS X g0 us vs i).c * 2 ^ i = nb (fun j => wv inp g0 (gi us j)) i + nb (fun j => wv inp g0 (gi vs j)) i) := by
  intro i
  induction i with
  | zero => intro _; exact ⟨⟨Kp.refl _ _ _, fun j hj => by omega, fun j hj => by omega, fun h => by omega, fun h => by omega⟩, fun h => by omega⟩
  | succ i ih =>
    intro hi
    obtain ⟨h1, h2⟩ := ih (by omega)
    have hl := addS_o X g0 us vs i
    have hk := h1.kp.len
    have la := hu.lt i (by omega)
    have lb := hv.lt i (by omega)
    have ea := h1.kp.v _ la
    have eb := h1.kp.v _ lb
    have ba' := hu.bt i (by omega)
    have bb' := hv.bt i (by omega)
    rw [addS]
    generalize addS X g0 us vs i = s at *
    unfold addStep
    by_cases h0 : i = 0
    · subst h0
      rw [if_pos rfl]
      obtain ⟨k, e1, e2⟩ := add2 hX (g := s.g) (a := gi us 0) (b := gi vs 0) (by omega) (by omega) (by rw [ea]; exact ba') (by rw [eb]; exact bb') _ rfl
      rw [ea, eb] at e1 e2
      have hl2 : (s.g ++ [(⟨0, gi us 0, gi vs 0⟩ : G3)] ++ [(⟨1, gi us 0, gi vs 0⟩ : G3)]).length = s.g.length + 2 := by simp
      obtain ⟨a1, a2⟩ := h1.next hl k (z := (X : Int) + s.g.length) (c := (X : Int) + s.g.length + 1) (by omega) (by omega) (by rw [e1]; unfold Bt; omega) (by rw [e2]; unfold Bt at *; omega)
      refine ⟨a1, fun _ => ?_⟩
      dsimp only
      rw [a2, e1, e2]
      simp only [nb]
      unfold Bt at ba' bb'
      omega
    · rw [if_neg h0]
      have hc := h1.cl (by omega)
      have bc := h1.cb (by omega)
      obtain ⟨k, e1, e2⟩ := add5 hX (g := s.g) (a := gi us i) (b := gi vs i) (c := s.c) (by omega) (by omega) (by omega) (by rw [ea]; exact ba') (by rw [eb]; exact bb') bc _ rfl
      rw [ea, eb] at e1 e2
      generalize hg' : s.g ++ [(⟨0, gi us i, s.c⟩ : G3)] ++ [(⟨0, gi vs i, s.c⟩ : G3)] ++ [(⟨0, (X : Int) + s.g.length, gi vs i⟩ : G3)] ++ [(⟨1, (X : Int) + s.g.length, (X : Int) + s.g.length + 1⟩ : G3)] ++ [(⟨0, (X : Int) + s.g.length + 3, s.c⟩ : G3)] = g' at *
      have hl2 : g'.length = s.g.length + 5 := by rw [← hg']; simp
      obtain ⟨a1, a2⟩ := h1.next hl k (z := (X : Int) + s.g.length + 2) (c := (X : Int) + s.g.length + 4) (by omega) (by omega) (by rw [e1]; unfold Bt; omega) (by rw [e2]; unfold Bt at *; omega)
      refine ⟨a1, fun _ => ?_⟩
      dsimp only
      have h3 := h2 (by omega)
      rw [a2, e1, e2, nb, nb, Int.pow_succ]
      unfold Bt at ba' bb' bc
      generalize wv inp g0 (gi us i) = a at *
      generalize wv inp g0 (gi vs i) = b at *
      generalize wv inp s.g s.c = c at *
      generalize (2 : Int) ^ i = P at *
      have h4 : ((a + b + c) % 2 + (a + b + c) / 2 * 2) * P = (a + b + c) * P := by rw [show (a + b + c) % 2 + (a + b + c) / 2 * 2 = a + b + c by omega]
      rw [Int.add_mul, Int.add_mul, Int.add_mul, Int.mul_assoc] at h4
      rw [Int.mul_comm P 2]
      omega
theorem subS_v {X : Nat} {inp : List Int} (hX : inp.length = X) {g0 : List G3} {us vs : List Int} {w : Nat} (hu : Rw_ X inp g0 us w) (hv : Rw_ X inp g0 vs w) :
    ∀ i, i ≤ w → AdOk X inp g0 (subS X g0 us vs i) i ∧ (0 < i → nb (fun j => wv inp (subS X g0 us vs i).g (gi (subS X g0 us vs i).o j)) i - wv inp (subS X g0 us vs i).g (subS X g0 us vs i).c * 2 ^ i = nb (fun j => wv inp g0 (gi us j)) i - nb (fun j => wv inp g0 (gi vs j)) i) := by
  intro i
  induction i with
  | zero => intro _; exact ⟨⟨Kp.refl _ _ _, fun j hj => by omega, fun j hj => by omega, fun h => by omega, fun h => by omega⟩, fun h => by omega⟩
  | succ i ih =>
    intro hi
    obtain ⟨h1, h2⟩ := ih (by omega)
    have hl := subS_o X g0 us vs i
    have hk := h1.kp.len
    have la := hu.lt i (by omega)
    have lb := hv.lt i (by omega)
    have ea := h1.kp.v _ la
    have eb := h1.kp.v _ lb
    have ba' := hu.bt i (by omega)
    have bb' := hv.bt i (by omega)
    rw [subS]
    generalize subS X g0 us vs i = s at *
    unfold subStep
    by_cases h0 : i = 0
    · subst h0
      rw [if_pos rfl]
      obtain ⟨k, e0, e1, e2⟩ := sub3 hX (g := s.g) (a := gi us 0) (b := gi vs 0) (by omega) (by omega) (by rw [ea]; exact ba') (by rw [eb]; exact bb') _ rfl
      rw [ea, eb] at e2
      have hl2 : (s.g ++ [(⟨0, gi us 0, gi vs 0⟩ : G3)] ++ [(⟨2, gi us 0, 0⟩ : G3)] ++ [(⟨1, (X : Int) + s.g.length + 1, gi vs 0⟩ : G3)]).length = s.g.length + 3 := by simp
      obtain ⟨a1, a2⟩ := h1.next hl k (z := (X : Int) + s.g.length) (c := (X : Int) + s.g.length + 2) (by omega) (by omega) e0 e1
      refine ⟨a1, fun _ => ?_⟩
      dsimp only
      rw [a2]
      simp only [nb]
      omega
    · rw [if_neg h0]
      have hc := h1.cl (by omega)
      have bc := h1.cb (by omega)
      obtain ⟨k, e0, e1, e2⟩ := sub6 hX (g := s.g) (a := gi us i) (b := gi vs i) (c := s.c) (by omega) (by omega) (by omega) (by rw [ea]; exact ba') (by rw [eb]; exact bb') bc _ rfl
      rw [ea, eb] at e2
      generalize hg' : s.g ++ [(⟨0, gi us i, s.c⟩ : G3)] ++ [(⟨0, gi vs i, s.c⟩ : G3)] ++ [(⟨0, (X : Int) + s.g.length, gi vs i⟩ : G3)] ++ [(⟨2, (X : Int) + s.g.length, 0⟩ : G3)] ++ [(⟨1, (X : Int) + s.g.length + 3, (X : Int) + s.g.length + 1⟩ : G3)] ++ [(⟨0, (X : Int) + s.g.length + 4, s.c⟩ : G3)] = g' at *
      have hl2 : g'.length = s.g.length + 6 := by rw [← hg']; simp
      obtain ⟨a1, a2⟩ := h1.next hl k (z := (X : Int) + s.g.length + 2) (c := (X : Int) + s.g.length + 5) (by omega) (by omega) e0 e1
      refine ⟨a1, fun _ => ?_⟩
      dsimp only
      have h3 := h2 (by omega)
      rw [a2, nb, nb, Int.pow_succ]
      generalize wv inp g0 (gi us i) = a at *
      generalize wv inp g0 (gi vs i) = b at *
      generalize wv inp s.g s.c = c at *
      generalize wv inp g' ((X : Int) + s.g.length + 2) = d at *
      generalize wv inp g' ((X : Int) + s.g.length + 5) = r at *
      generalize (2 : Int) ^ i = P at *
      have h4 : d * P = (2 * r + (a - b - c)) * P := by rw [show d = 2 * r + (a - b - c) by omega]
      rw [Int.add_mul, Int.sub_mul, Int.sub_mul, Int.mul_assoc] at h4
      rw [Int.mul_comm P 2, Int.mul_left_comm]
      omega
theorem gi_spn' (a : Int) {n j : Nat} (h : j < n) : gi (spn a n) j = a + j := by unfold spn gi; simp [h]
structure UV (w u v : Nat) (X : Nat) (inp : List Int) : Prop where
  len : inp.length = X
  ru : Rw_ X inp [] (spn 0 w) w
  rv : Rw_ X inp [] (spn w w) w
  nu : nb (fun j => wv inp [] (gi (spn 0 w) j)) w = u
  nv : nb (fun j => wv inp [] (gi (spn w w) j)) w = v
theorem UV.mk_ {w u v : Nat} (hu : u < 2 ^ w) (hv : v < 2 ^ w) (rest : List Int) : UV w u v (w + w + rest.length) (bitsN u w ++ bitsN v w ++ rest) := by
  have e1 : ∀ j, j < w → wv (bitsN u w ++ bitsN v w ++ rest) [] (gi (spn 0 w) j) = gi (bitsN u w) j := fun j hj => by
    rw [gi_spn' 0 hj, wv_nil, show (0 + (j : Int)).toNat = j by omega, List.append_assoc, gi_append_lt (by rw [bitsN_len]; exact hj)]
  have e2 : ∀ j, j < w → wv (bitsN u w ++ bitsN v w ++ rest) [] (gi (spn w w) j) = gi (bitsN v w) j := fun j hj => by
    rw [gi_spn' w hj, wv_nil, show ((w : Int) + (j : Int)).toNat = w + j by omega, gi_append_lt (by rw [List.length_append, bitsN_len, bitsN_len]; omega)]
    unfold gi
    rw [List.getD_eq_getElem?_getD, List.getD_eq_getElem?_getD, List.getElem?_append_right (by rw [bitsN_len]; omega), bitsN_len, show w + j - w = j by omega]
  refine ⟨by simp [bitsN_len]; omega, ⟨fun j hj => ?_, fun j hj => ?_⟩, ⟨fun j hj => ?_, fun j hj => ?_⟩, ?_, ?_⟩
  · rw [gi_spn' 0 hj]; simp; omega
  · rw [e1 j hj]; exact bitsN_bt hj
  · rw [gi_spn' w hj]; simp; omega
  · rw [e2 j hj]; exact bitsN_bt hj
  · rw [nb_congr w e1, ← numN_bits' hu, numN_nb', bitsN_len]
  · rw [nb_congr w e2, ← numN_bits' hv, numN_nb', bitsN_len]
theorem UV.two {w u v : Nat} (hu : u < 2 ^ w) (hv : v < 2 ^ w) : UV w u v (w + w) (bitsN u w ++ bitsN v w) := by
  have := UV.mk_ hu hv []
  simpa using this
theorem numN_pick (inp : List Int) (g : List G3) (o : List Int) : numN (pick (vals g inp g.length) o) = nb (fun j => wv inp g (gi o j)) o.length := by
  rw [numN_nb', pick_len]
  exact nb_congr _ fun j hj => by unfold pick; rw [gi_map hj]; rfl
theorem numN_pick_snoc (inp : List Int) (g : List G3) (o : List Int) (c : Int) : numN (pick (vals g inp g.length) (o ++ [c])) = nb (fun j => wv inp g (gi o j)) o.length + wv inp g c * 2 ^ o.length := by
  rw [numN_pick, List.length_append, show ([c] : List Int).length = 1 from rfl, nb, gi_lastG rfl]
  rw [nb_congr o.length (g := fun j => wv inp g (gi o j)) (fun j hj => by rw [gi_append_lt hj])]
def ans (G : Go2) (inp : List Int) : Int := numN (pick (vals G.g inp G.g.length) G.o)
theorem adder_v {w u v : Nat} (hw : 1 ≤ w) (hu : u < 2 ^ w) (hv : v < 2 ^ w) : ans (adderG w) (bitsN u w ++ bitsN v w) = (u : Int) + v := by
  have h := UV.two hu hv
  obtain ⟨h1, h2⟩ := addS_v h.len h.ru h.rv w (Nat.le_refl _)
  have ho := addS_o ((w + w : Nat) : Int) [] (spn 0 w) (spn w w) w
  unfold ans adderG
  rw [show ((w : Int) + w) = ((w + w : Nat) : Int) by omega]
  dsimp only
  rw [numN_pick_snoc, ho, h2 (by omega), h.nu, h.nv]
theorem sub_core {w u v : Nat} (hw : 1 ≤ w) {X : Nat} {inp : List Int} (h : UV w u v X inp) : AdOk X inp [] (subS X [] (spn 0 w) (spn w w) w) w ∧
    (wv inp (subS X [] (spn 0 w) (spn w w) w).g (subS X [] (spn 0 w) (spn w w) w).c = if u < v then 1 else 0) ∧
    nb (fun j => wv inp (subS X [] (spn 0 w) (spn w w) w).g (gi (subS X [] (spn 0 w) (spn w w) w).o j)) w = (u : Int) - v + if u < v then 2 ^ w else 0 := by
  obtain ⟨h1, h2⟩ := subS_v h.len h.ru h.rv w (Nat.le_refl _)
  have h3 := h2 (by omega)
  rw [h.nu, h.nv] at h3
  have hb := nb_bd w h1.ob
  have hc := h1.cb (by omega)
  generalize nb (fun j => wv inp (subS X [] (spn 0 w) (spn w w) w).g (gi (subS X [] (spn 0 w) (spn w w) w).o j)) w = D at *
  generalize wv inp (subS X [] (spn 0 w) (spn w w) w).g (subS X [] (spn 0 w) (spn w w) w).c = c at *
  generalize (2 : Int) ^ w = P at *
  rcases bt01 hc with rfl | rfl
  · have : ¬ u < v := by omega
    rw [if_neg this, if_neg this]
    exact ⟨h1, rfl, by omega⟩
  · have : u < v := by omega
    rw [if_pos this, if_pos this]
    exact ⟨h1, rfl, by omega⟩
theorem sub_v {w u v : Nat} (hw : 1 ≤ w) (hu : u < 2 ^ w) (hv : v < 2 ^ w) : ans (subG w) (bitsN u w ++ bitsN v w) = ((u : Int) - v + if u < v then 2 ^ w else 0) + (if u < v then 1 else 0) * 2 ^ w := by
  have h := UV.two hu hv
  obtain ⟨h1, h2, h3⟩ := sub_core hw h
  have ho := subS_o ((w + w : Nat) : Int) [] (spn 0 w) (spn w w) w
  unfold ans subG
  rw [show ((w : Int) + w) = ((w + w : Nat) : Int) by omega]
  dsimp only
  rw [numN_pick_snoc, ho, h2, h3]
theorem or_shift {z x : Int} {i : Nat} (hz : 0 ≤ z ∧ z < 2 ^ i) (hx : 0 ≤ x ∧ x ≤ 1) (hi : i < 40) : bits .or .i64 z (wrap64 (x * 2 ^ i)) = z + x * 2 ^ i := by
  obtain ⟨Z, rfl⟩ := Int.eq_ofNat_of_zero_le hz.1
  obtain ⟨X, rfl⟩ := Int.eq_ofNat_of_zero_le hx.1
  have hX : X ≤ 1 := by omega
  have h1 : Z < 2 ^ i := by have := hz.2; exact_mod_cast this
  have h2 : 2 ^ i ≤ 2 ^ 40 := Nat.pow_le_pow_right (by omega) (by omega)
  have h3 : (2 : Nat) ^ 40 = 1099511627776 := by decide
  have h5 : X * 2 ^ i ≤ 1 * 2 ^ i := Nat.mul_le_mul_right _ hX
  have h4 : ((X : Int) * 2 ^ i) = ((X * 2 ^ i : Nat) : Int) := by rw [Int.natCast_mul, Int.natCast_pow]; rfl
  have h6 : wrap64 ((X : Int) * 2 ^ i) = ((X * 2 ^ i : Nat) : Int) := by rw [h4]; exact IntWalk.wrap64_in ((X * 2 ^ i : Nat) : Int) (by omega)
  rw [h6, h4, bor_nat (by omega) (by omega), or_place h1]; omega
theorem btOf_any (n k : Nat) (w : World) (hn : n ≤ 1099511627776) (hk : k ≤ 1000000) : Calls Try.prog 37 #[.int .i64 n, .int .i64 k] w (RetI w (bitsN n k)) := by
  go_enter Try.func37, Try.ntmps37
  go_wp2
  go_loopw [5, 0, 1] (fun v a b wr => ∃ (i : Nat) (A' : Option Addr) (c' : Nat), i ≤ k ∧ b = .int .i64 ((k - i : Nat) : Int) ∧ a = .int .i64 ((n / 2 ^ i : Nat) : Int) ∧ v = .slice A' i c' ∧ Own wr w.heap.size wr.heap.size (.slice A' i c') i (bitsN n i) ∧ Below w.heap.size w wr) (fun _ _ b _ => (intOf b).toNat)
  case atStart => exact ⟨0, _, _, Nat.zero_le _, rfl, by simp, rfl, Own.none_ _ _ _, Below.refl _ _⟩
  case round =>
    obtain ⟨i, A', c', hi, rfl, rfl, rfl, hown, hbw⟩ := hrel
    by_cases hlt : i < k
    · have hsn : Hid (bitsN n (i + 1) = bitsN n i ++ [((n / 2 ^ i % 2 : Nat) : Int)]) := Lib.hid (bitsN_snoc n i)
      have hdv : Hid (n / 2 ^ (i + 1) = n / 2 ^ i / 2) := Lib.hid (by rw [Nat.pow_succ, Nat.div_div_eq_div_mul])
      have hle : n / 2 ^ i ≤ n := Nat.div_le_self _ _
      generalize n / 2 ^ i = z at *
      have hz := hbw.size
      rw [Int.natCast_emod] at hsn
      have hownA := hown.alloc (.cells #[.int .i64 ((z : Int) % 2)] 3)
      have hbA := hbw.alloc hz (.cells #[.int .i64 ((z : Int) % 2)] 3)
      go_wp2_with (at_builtin; refine wpList_app _ rfl _ _ rfl rfl hownA rfl (RI_one _ _ _ _ (by simp)) (by omega) (by first | omega | (simp; done) | (simp; omega)) ?_; intro A5 c5 w5 hown5 hg5 hat5)
      have hb5 := below_app hbA hownA hg5 (by simp; omega) (Nat.le_refl _)
      rw [show [(z : Int) % ((2 : Nat) : Int)] = [(z : Int) % 2] from rfl] at hsn
      rw [← hsn.out] at hown5
      clear hbA hownA hg5 hat5 hown hbw
      go_wp2
      go_roundw
      case rel => exact ⟨i + 1, _, _, by omega, by go_num, by rw [hdv.out]; go_num, rfl, hown5, hb5⟩
      case measure => simp [intOf]; omega
    · obtain rfl : i = k := by omega
      go_wp2
      go_ret
      exact RetI.mk_ (bitsN_len _ _) rfl hown hbw
theorem bitsOf_any (n k : Nat) (w : World) (hn : n ≤ 1099511627776) (hk : k ≤ 40) : Calls Try.prog 32 #[.int .i64 n, .int .i64 k] w (RetI w (bitsN n k)) := by
  go_enter Try.func32, Try.ntmps32
  go_wp2
  go_loopw [5, 9] (fun v b wr => ∃ (i : Nat) (A' : Option Addr) (c' : Nat), i ≤ k ∧ b = .int .i64 i ∧ v = .slice A' i c' ∧ Own wr w.heap.size wr.heap.size (.slice A' i c') i (bitsN n i) ∧ Below w.heap.size w wr) (fun _ b _ => k - (intOf b).toNat)
  case atStart => exact ⟨0, _, _, Nat.zero_le _, rfl, rfl, by simpa [bitsN, tab_zero] using Own_new0 w w.heap.size (Nat.le_refl _), (Below.refl _ _).alloc (Nat.le_refl _) _⟩
  case round =>
    obtain ⟨i, A', c', hi, rfl, rfl, hown, hbw⟩ := hrel
    by_cases hlt : i < k
    · have hsn : Hid (bitsN n (i + 1) = bitsN n i ++ [((n / 2 ^ i % 2 : Nat) : Int)]) := Lib.hid (bitsN_snoc n i)
      have hz := hbw.size
      have hle : n / 2 ^ i ≤ n := Nat.div_le_self _ _
      have hq : Hid (bits .and .i64 ((n : Int) / 2 ^ i) 1 = ((n / 2 ^ i % 2 : Nat) : Int)) := Lib.hid (by
        have h1 := band_nat (a := n / 2 ^ i) (b := 1) (by omega) (by omega)
        rw [and_one] at h1
        rw [← h1]; simp [Int.natCast_ediv, Int.natCast_pow])
      rw [← hq.out] at hsn
      have hownA := hown.alloc (.cells #[.int .i64 (bits .and .i64 ((n : Int) / 2 ^ i) 1)] 3)
      have hbA := hbw.alloc hz (.cells #[.int .i64 (bits .and .i64 ((n : Int) / 2 ^ i) 1)] 3)
      go_wp2_with (at_builtin; refine wpList_app _ rfl _ _ rfl rfl hownA rfl (RI_one _ _ _ _ (by simp)) (by omega) (by first | omega | (simp; done) | (simp; omega)) ?_; intro A5 c5 w5 hown5 hg5 hat5)
      have hb5 := below_app hbA hownA hg5 (by simp; omega) (Nat.le_refl _)
      rw [← hsn.out] at hown5
      clear hbA hownA hg5 hat5 hown hbw
      go_wp2
      go_roundw
      case rel => exact ⟨i + 1, _, _, by omega, by go_num, rfl, hown5, hb5⟩
      case measure => simp [intOf]; omega
    · obtain rfl : i = k := by omega
      go_wp2
      go_ret
      exact RetI.mk_ (bitsN_len _ _) rfl hown hbw
theorem btNum_any (A : Option Addr) (n c : Nat) (xs : List Int) (w : World) (ha : RI w A n xs) (hn : n ≤ 40) (hx : allB 0 1 xs = true) : Calls Try.prog 24 #[.slice A n c] w fun e w' => e = .returned (.int .i64 (numN xs)) ∧ w = w' := by
  have hl := ha.len
  have HB := Lib.hid fun i => numN_le (allB_drop_ hx i) (by simp; omega)
  have HD := Lib.hid fun i => numN_drop (l := xs) (k := i)
  have h0 : Hid (numN (xs.drop n) = 0) := Lib.hid (by rw [List.drop_of_length_le (by omega)]; rfl)
  go_enter Try.func24, Try.ntmps24
  go_wp2
  go_loop [3, 4] (fun v b => ∃ i : Nat, i ≤ n ∧ b = .int .i64 ((i : Int) - 1) ∧ v = .int .i64 (numN (xs.drop i))) (fun _ b => (intOf b + 1).toNat)
  case atStart => exact ⟨n, Nat.le_refl _, rfl, by rw [h0.out]⟩
  case round =>
    obtain ⟨i, hi, rfl, rfl⟩ := hrel
    rcases Nat.eq_zero_or_pos i with h | h
    · subst h
      go_wp2
      go_ret
      exact ⟨by simp, rfl⟩
    · obtain ⟨j, rfl⟩ : ∃ j, i = j + 1 := ⟨i - 1, by omega⟩
      obtain ⟨b1, b2⟩ := HB.out (j + 1)
      have hd := Lib.hid (HD.out j (by omega))
      obtain ⟨c1, c2⟩ := allB_gi hx (j := j) (by omega)
      obtain ⟨b, o, rfl, hbB, e1⟩ := ha.at_ (k := j) (by omega)
      clear ha
      have hcast : (((j + 1 : Nat) : Int) - 1) = j := by omega
      rw [hcast]
      generalize numN (xs.drop (j + 1)) = z at *
      generalize gi xs j = x at *
      go_wp2
      go_round
      case rel => exact ⟨j, by omega, rfl, by rw [hd.out]; go_num⟩
      case measure => simp [intOf]
theorem number_any (A : Option Addr) (n c : Nat) (xs : List Int) (w : World) (ha : RI w A n xs) (hn : n ≤ 40) (hx : allB 0 1 xs = true) : Calls Try.prog 28 #[.slice A n c] w fun e w' => e = .returned (.int .i64 (numN xs)) ∧ w = w' := by
  have hl := ha.len
  have HB := Lib.hid fun i => numN_bd (allB_take_ hx i)
  go_enter Try.func28, Try.ntmps28
  go_wp2
  go_loop [3, 8] (fun v b => ∃ i : Nat, i ≤ n ∧ b = .int .i64 i ∧ v = .int .i64 (numN (xs.take i))) (fun _ b => n - (intOf b).toNat)
  case atStart => exact ⟨0, Nat.zero_le _, rfl, rfl⟩
  case round =>
    obtain ⟨i, hi, rfl, rfl⟩ := hrel
    by_cases hlt : i < n
    · obtain ⟨b, o, rfl, hbB, e1⟩ := ha.at_ (k := i) hlt
      clear ha
      obtain ⟨c1, c2⟩ := allB_gi hx (j := i) (by omega)
      obtain ⟨b1, b2⟩ := HB.out i
      have hs : Hid (numN (xs.take (i + 1)) = numN (xs.take i) + gi xs i * 2 ^ i) := Lib.hid (by
        rw [gi_take_snoc (by omega), numN_snoc, List.length_take, Nat.min_eq_left (by omega)])
      have hln : (xs.take i).length = i := by simp; omega
      rw [hln] at b2
      generalize numN (xs.take i) = z at *
      generalize gi xs i = x at *
      have hq : Hid (bits .or .i64 z (wrap64 (x * 2 ^ i)) = z + x * 2 ^ i) := Lib.hid (or_shift ⟨b1, b2⟩ ⟨c1, c2⟩ (by omega))
      clear b1 b2
      go_wp2
      go_round
      case rel => exact ⟨i + 1, by omega, by go_num, by rw [hs.out, hq.out]⟩
      case measure => simp [intOf]; omega
    · obtain rfl : i = n := by omega
      have ht : Hid (numN (xs.take i) = numN xs) := Lib.hid (by rw [List.take_of_length_le (by omega)])
      go_wp2
      go_ret
      exact ⟨by rw [← ht.out]; rfl, rfl⟩
set_option maxRecDepth 100000 in
set_option maxHeartbeats 800000 in
theorem ciOuts_any (x y : Int) (Ag : Option Addr) (ng cg : Nat) (Ao : Option Addr) (no co : Nat) (A : Option Addr) (n c : Nat) (gs : List G3) (os inp : List Int) (w : World) (hr : RG w Ag ng gs ∧ RI w Ao no os) (ha : RI w A n inp) (hi : allB 0 1 inp = true) (hgat : gatesB n gs ng = true) (hos : allB 0 (((n + ng : Nat) : Int) - 1) os = true) (hng : ng ≤ 300) (hno : no ≤ 40) (hn : n ≤ 40) :
    Calls Try.prog 35 #[.agg #[.int .i64 x, .int .i64 y, .slice Ag ng cg, .slice Ao no co], .slice A n c] w (RetI w (pick (vals gs inp ng) os)) := by
  have hB : Below w.heap.size w (w.alloc (.cells #[.int .i64 x, .int .i64 y, .slice Ag ng cg, .slice Ao no co] 27)) := (Below.refl _ _).alloc (Nat.le_refl _) _
  have hvl : Hid ((vals gs inp ng).length = n + ng) := Lib.hid (by rw [vals_len, ha.len])
  have hB1 := below_drewN hB 1
  go_enter Try.func35, Try.ntmps35
  go_wp2_with fail
  go_region_held3 (fun w' => w'.cell? ⟨w.heap.size, 0, none⟩ = some (.int .i64 x) ∧ w'.cell? ⟨w.heap.size, 1, none⟩ = some (.int .i64 y) ∧ w'.cell? ⟨w.heap.size, 2, none⟩ = some (.slice Ag ng cg) ∧ w'.cell? ⟨w.heap.size, 3, none⟩ = some (.slice Ao no co))
    (first | go_keep | (go_split_ands; exact ⟨cell_below (by assumption) hbP, cell_below (by assumption) hbP, cell_below (by assumption) hbP, cell_below (by assumption) hbP⟩) | (go_split_ands; exact ⟨cell_below (by assumption) hbV, cell_below (by assumption) hbV, cell_below (by assumption) hbV, cell_below (by assumption) hbV⟩) | ((try dsimp only); (repeat' apply And.intro) <;> go_keep))
    (first | (go_at_call 70; refine (ciValues_any x y Ag ng cg Ao no co A n c gs inp _ (hr.1.below hB1 (Nat.le_refl _)) (ha.below hB1 (Nat.le_refl _)) hi hgat (by omega) (by omega)).mono ?_; rintro e W3 hV; obtain ⟨AV, cV, rfl, hownV, hbV⟩ := hV.open_ hvl.out) | (go_at_call 69; refine (ciPick_any AV Ao (n + ng) cV no co (vals gs inp ng) os _ hownV.reads (hr.2.below (hB1.trans (hbV.mono hB1.size)) (Nat.le_refl _)) (by omega) (by omega) hos).mono ?_; rintro e W4 hP; obtain ⟨AP, cP, rfl, hownP, hbP⟩ := hP.open_ (pick_len _ _)))
  have hB2 := hB1.trans (hbV.mono hB1.size)
  go_wp2
  go_ret
  exact RetI.mk_ (pick_len _ _) rfl (hownP.lo_ hB2.size) (hB2.trans (hbP.mono hB2.size))
end Go.Proofs.Ytimmjppkaadggaa
