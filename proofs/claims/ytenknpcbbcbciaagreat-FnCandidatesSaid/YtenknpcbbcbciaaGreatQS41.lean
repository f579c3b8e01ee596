/- Plain facts: the product's circuit answers the product. No program in sight. -/
import Derived.Test.YtenknpcbbcbciaaGreatQS12
namespace Go.Proofs.YtenknpcbbcbciaaGreat
open Go.RowKit
set_option linter.unusedVariables false
set_option linter.unusedSimpArgs false
theorem ggA_l {xs ys : List G3} {j : Nat} (h : j < xs.length) : gg (xs ++ ys) j = gg xs j := by
 unfold gg; rw [List.getD_eq_getElem?_getD, List.getD_eq_getElem?_getD, List.getElem?_append_left h]
theorem ggA_r (xs : List G3) (v : G3) : gg (xs ++ [v]) xs.length = v := by unfold gg; simp
theorem gi_lastG {xs : List Int} {v : Int} {n : Nat} (h : xs.length = n) : gi (xs ++ [v]) n = v := by subst h; exact Zcg
theorem vals_gsG {gs hs : List G3} {inp : List Int} : ∀ k, (∀ j, j < k → gg gs j = gg hs j) → vals gs inp k = vals hs inp k := by
 intro k
 induction k with
 | zero => intro _; rfl
 | succ k ih => intro h; rw [Zei, Zei, ih (fun j hj => h j (by omega)), h k (by omega)]
def wv (inp : List Int) (gs : List G3) (z : Int) : Int := gi (vals gs inp gs.length) z.toNat
theorem vals_app (gs : List G3) (g : G3) (inp : List Int) : vals (gs ++ [g]) inp (gs ++ [g]).length = vals gs inp gs.length ++ [gval g (vals gs inp gs.length)] := by
 rw [List.length_append, show ([g] : List G3).length = 1 from rfl, Zei, ggA_r, vals_gsG (hs := gs) _ (fun j hj => ggA_l hj)]
theorem Zcy {X : Nat} {inp : List Int} (hX : inp.length = X) {gs : List G3} {g : G3} {z : Int} (h : 0 ≤ z ∧ z < (X : Int) + gs.length) : wv inp (gs ++ [g]) z = wv inp gs z := by
 unfold wv; rw [vals_app, Zbt (by rw [Zdd, hX]; omega)]
theorem Zbg {X : Nat} {inp : List Int} (hX : inp.length = X) {gs : List G3} {g : G3} {z : Int} (h : z = (X : Int) + gs.length) : wv inp (gs ++ [g]) z = gval g (vals gs inp gs.length) := by
 unfold wv; rw [vals_app, h, show ((X : Int) + (gs.length : Nat)).toNat = X + gs.length by omega, gi_lastG (by rw [Zdd, hX])]
theorem wv_nil (inp : List Int) (z : Int) : wv inp [] z = gi inp z.toNat := rfl
theorem Zee (inp : List Int) (gs : List G3) (a b : Int) : gval ⟨0, a, b⟩ (vals gs inp gs.length) = bxor (wv inp gs a) (wv inp gs b) := rfl
theorem gval_a (inp : List Int) (gs : List G3) (a b : Int) : gval ⟨1, a, b⟩ (vals gs inp gs.length) = band (wv inp gs a) (wv inp gs b) := rfl
theorem gval_n (inp : List Int) (gs : List G3) (a b : Int) : gval ⟨2, a, b⟩ (vals gs inp gs.length) = 1 - wv inp gs a := rfl
def Bt (v : Int) : Prop := 0 ≤ v ∧ v ≤ 1
structure Kp (X : Nat) (inp : List Int) (gs hs : List G3) : Prop where
 len : gs.length ≤ hs.length
 v : ∀ z : Int, 0 ≤ z ∧ z < (X : Int) + gs.length → wv inp hs z = wv inp gs z
theorem Kp.refl (X : Nat) (inp : List Int) (gs : List G3) : Kp X inp gs gs := ⟨Nat.le_refl _, fun _ _ => rfl⟩
theorem Kp.trans {X : Nat} {inp : List Int} {a b c : List G3} (h : Kp X inp a b) (k : Kp X inp b c) : Kp X inp a c :=
 ⟨Nat.le_trans h.len k.len, fun z hz => (k.v z (by have := h.len; omega)).trans (h.v z hz)⟩
theorem Kp.snoc {X : Nat} {inp : List Int} (hX : inp.length = X) {a b : List G3} (h : Kp X inp a b) (g : G3) : Kp X inp a (b ++ [g]) :=
 ⟨by rw [List.length_append]; exact Nat.le_trans h.len (Nat.le_add_right _ _), fun z hz => (Zcy hX (by have := h.len; omega)).trans (h.v z hz)⟩
def nb (f : Nat → Int) : Nat → Int
 | 0 => 0
 | i + 1 => nb f i + f i * 2 ^ i
theorem Zfc {f g : Nat → Int} : ∀ i, (∀ j, j < i → f j = g j) → nb f i = nb g i
 | 0, _ => rfl
 | i + 1, h => by rw [nb, nb, Zfc i (fun j hj => h j (by omega)), h i (by omega)]
theorem numN_nb (l : List Int) : ∀ i, i ≤ l.length → numN (l.take i) = nb (gi l) i := by
 intro i
 induction i with
 | zero => intro _; rfl
 | succ i ih => intro h; rw [Zbj (by omega), numN_snoc, ih (by omega), nb, List.length_take, Nat.min_eq_left (by omega)]
theorem numN_nb' (l : List Int) : numN l = nb (gi l) l.length := by rw [← numN_nb l l.length lR, List.take_length]
theorem nb_bd {f : Nat → Int} : ∀ i, (∀ j, j < i → Bt (f j)) → 0 ≤ nb f i ∧ nb f i < 2 ^ i
 | 0, _ => by simp [nb]
 | i + 1, h => by
  have h1 := nb_bd i (fun j hj => h j (by omega))
  have h2 := h i (by omega)
  rw [nb, Int.pow_succ]
  rcases (show f i = 0 ∨ f i = 1 by unfold Bt at h2; omega) with e | e <;> rw [e] <;> omega
theorem nb_inj {f g : Nat → Int} : ∀ i, (∀ j, j < i → Bt (f j)) → (∀ j, j < i → Bt (g j)) → nb f i = nb g i → ∀ j, j < i → f j = g j := by
 intro i
 induction i with
 | zero => intro _ _ _ j hj; omega
 | succ i ih =>
  intro hf hg he j hj
  have h1 := nb_bd i (fun j hj => hf j (by omega))
  have h2 := nb_bd i (fun j hj => hg j (by omega))
  have h3 := hf i (by omega)
  have h4 := hg i (by omega)
  rw [nb, nb] at he
  have hi : f i = g i := by
   rcases (show f i = 0 ∨ f i = 1 by unfold Bt at h3; omega) with e | e <;> rcases (show g i = 0 ∨ g i = 1 by unfold Bt at h4; omega) with e' | e' <;> rw [e, e'] at he <;> rw [e, e'] <;> omega
  rcases Nat.lt_or_ge j i with h | h
  ·exact ih (fun j hj => hf j (by omega)) (fun j hj => hg j (by omega)) (by rw [hi] at he; omega) j h
  ·obtain rfl : j = i := by omega
   exact hi
theorem numN_bits (n k : Nat) : numN (bitsN n k) = ((n % 2 ^ k : Nat) : Int) := by
 induction k with
 | zero => simp [bitsN, tab, numN, Nat.mod_one]
 | succ k ih =>
  rw [Zes, numN_snoc, ih, Zax, Nat.mod_pow_succ]
  simp only [Int.natCast_add, Int.natCast_mul, Int.natCast_pow]
  rw [Int.mul_comm]; rfl
theorem bx {a b : Int} (ha : Bt a) (hb : Bt b) : bxor a b = (a + b) % 2 := bxor_bit ha hb
theorem ba {a b : Int} (ha : Bt a) (hb : Bt b) : band a b = a * b := band_bit ha hb
theorem bt01 {a : Int} (h : Bt a) : a = 0 ∨ a = 1 := by unfold Bt at h; omega
section
variable {X : Nat} {inp : List Int} (hX : inp.length = X)
include hX
theorem add5 {g : List G3} {a b c : Int} (ha : 0 ≤ a ∧ a < (X : Int) + g.length) (hb : 0 ≤ b ∧ b < (X : Int) + g.length) (hc : 0 ≤ c ∧ c < (X : Int) + g.length) (va : Bt (wv inp g a)) (vb : Bt (wv inp g b)) (vc : Bt (wv inp g c)) (n : Int) (hn : n = (X : Int) + g.length) :
 Kp X inp g (g ++ [⟨0, a, c⟩] ++ [⟨0, b, c⟩] ++ [⟨0, n, b⟩] ++ [⟨1, n, n + 1⟩] ++ [⟨0, n + 3, c⟩]) ∧
 wv inp (g ++ [⟨0, a, c⟩] ++ [⟨0, b, c⟩] ++ [⟨0, n, b⟩] ++ [⟨1, n, n + 1⟩] ++ [⟨0, n + 3, c⟩]) (n + 2) = (wv inp g a + wv inp g b + wv inp g c) % 2 ∧
 wv inp (g ++ [⟨0, a, c⟩] ++ [⟨0, b, c⟩] ++ [⟨0, n, b⟩] ++ [⟨1, n, n + 1⟩] ++ [⟨0, n + 3, c⟩]) (n + 4) = (wv inp g a + wv inp g b + wv inp g c) / 2 := by
 have k1 := (Kp.refl X inp g).snoc hX ⟨0, a, c⟩
 have l1 : (g ++ [(⟨0, a, c⟩ : G3)]).length = g.length + 1 := by simp
 have e1 : wv inp (g ++ [⟨0, a, c⟩]) n = (wv inp g a + wv inp g c) % 2 := by rw [Zbg hX hn, Zee, bx va vc]
 generalize g ++ [(⟨0, a, c⟩ : G3)] = g1 at *
 have k2 := k1.snoc hX ⟨0, b, c⟩
 have l2 : (g1 ++ [(⟨0, b, c⟩ : G3)]).length = g.length + 2 := by simp [l1]
 have e2 : wv inp (g1 ++ [⟨0, b, c⟩]) (n + 1) = (wv inp g b + wv inp g c) % 2 := by
  rw [Zbg hX (by rw [l1]; omega), Zee, k1.v b hb, k1.v c hc, bx vb vc]
 have f2 : wv inp (g1 ++ [⟨0, b, c⟩]) n = (wv inp g a + wv inp g c) % 2 := by rw [Zcy hX (by rw [l1]; omega), e1]
 generalize g1 ++ [(⟨0, b, c⟩ : G3)] = g2 at *
 have k3 := k2.snoc hX ⟨0, n, b⟩
 have l3 : (g2 ++ [(⟨0, n, b⟩ : G3)]).length = g.length + 3 := by simp [l2]
 have e3 : wv inp (g2 ++ [⟨0, n, b⟩]) (n + 2) = (wv inp g a + wv inp g b + wv inp g c) % 2 := by
  rw [Zbg hX (by rw [l2]; omega), Zee, f2, k2.v b hb, bx (by unfold Bt; omega) vb]; omega
 have f3 : wv inp (g2 ++ [⟨0, n, b⟩]) n = (wv inp g a + wv inp g c) % 2 := by rw [Zcy hX (by rw [l2]; omega), f2]
 have h3 : wv inp (g2 ++ [⟨0, n, b⟩]) (n + 1) = (wv inp g b + wv inp g c) % 2 := by rw [Zcy hX (by rw [l2]; omega), e2]
 generalize g2 ++ [(⟨0, n, b⟩ : G3)] = g3 at *
 have k4 := k3.snoc hX ⟨1, n, n + 1⟩
 have l4 : (g3 ++ [(⟨1, n, n + 1⟩ : G3)]).length = g.length + 4 := by simp [l3]
 have e4 : wv inp (g3 ++ [⟨1, n, n + 1⟩]) (n + 3) = ((wv inp g a + wv inp g c) % 2) * ((wv inp g b + wv inp g c) % 2) := by
  rw [Zbg hX (by rw [l3]; omega), gval_a, f3, h3, ba (by unfold Bt; omega) (by unfold Bt; omega)]
 have f4 : wv inp (g3 ++ [⟨1, n, n + 1⟩]) (n + 2) = (wv inp g a + wv inp g b + wv inp g c) % 2 := by rw [Zcy hX (by rw [l3]; omega), e3]
 generalize g3 ++ [(⟨1, n, n + 1⟩ : G3)] = g4 at *
 refine ⟨k4.snoc hX _, ?_, ?_⟩
 ·rw [Zcy hX (by rw [l4]; omega), f4]
 ·rw [Zbg hX (by rw [l4]; omega), Zee, e4, k4.v c hc]
  rcases bt01 va with h1 | h1 <;> rcases bt01 vb with h2 | h2 <;> rcases bt01 vc with h3 | h3 <;> rw [h1, h2, h3] <;> decide
theorem add2 {g : List G3} {a b : Int} (ha : 0 ≤ a ∧ a < (X : Int) + g.length) (hb : 0 ≤ b ∧ b < (X : Int) + g.length) (va : Bt (wv inp g a)) (vb : Bt (wv inp g b)) (n : Int) (hn : n = (X : Int) + g.length) :
 Kp X inp g (g ++ [⟨0, a, b⟩] ++ [⟨1, a, b⟩]) ∧ wv inp (g ++ [⟨0, a, b⟩] ++ [⟨1, a, b⟩]) n = (wv inp g a + wv inp g b) % 2 ∧ wv inp (g ++ [⟨0, a, b⟩] ++ [⟨1, a, b⟩]) (n + 1) = (wv inp g a + wv inp g b) / 2 := by
 have k1 := (Kp.refl X inp g).snoc hX ⟨0, a, b⟩
 have l1 : (g ++ [(⟨0, a, b⟩ : G3)]).length = g.length + 1 := by simp
 refine ⟨k1.snoc hX _, ?_, ?_⟩
 ·rw [Zcy hX (by rw [l1]; omega), Zbg hX hn, Zee, bx va vb]
 ·rw [Zbg hX (by rw [l1]; omega), gval_a, k1.v a ha, k1.v b hb, ba va vb]
  rcases bt01 va with h1 | h1 <;> rcases bt01 vb with h2 | h2 <;> rw [h1, h2] <;> decide
theorem sub6 {g : List G3} {a b c : Int} (ha : 0 ≤ a ∧ a < (X : Int) + g.length) (hb : 0 ≤ b ∧ b < (X : Int) + g.length) (hc : 0 ≤ c ∧ c < (X : Int) + g.length) (va : Bt (wv inp g a)) (vb : Bt (wv inp g b)) (vc : Bt (wv inp g c)) (n : Int) (hn : n = (X : Int) + g.length) :
 Kp X inp g (g ++ [⟨0, a, c⟩] ++ [⟨0, b, c⟩] ++ [⟨0, n, b⟩] ++ [⟨2, n, 0⟩] ++ [⟨1, n + 3, n + 1⟩] ++ [⟨0, n + 4, c⟩]) ∧
 Bt (wv inp (g ++ [⟨0, a, c⟩] ++ [⟨0, b, c⟩] ++ [⟨0, n, b⟩] ++ [⟨2, n, 0⟩] ++ [⟨1, n + 3, n + 1⟩] ++ [⟨0, n + 4, c⟩]) (n + 2)) ∧
 Bt (wv inp (g ++ [⟨0, a, c⟩] ++ [⟨0, b, c⟩] ++ [⟨0, n, b⟩] ++ [⟨2, n, 0⟩] ++ [⟨1, n + 3, n + 1⟩] ++ [⟨0, n + 4, c⟩]) (n + 5)) ∧
 wv inp (g ++ [⟨0, a, c⟩] ++ [⟨0, b, c⟩] ++ [⟨0, n, b⟩] ++ [⟨2, n, 0⟩] ++ [⟨1, n + 3, n + 1⟩] ++ [⟨0, n + 4, c⟩]) (n + 2) - 2 * wv inp (g ++ [⟨0, a, c⟩] ++ [⟨0, b, c⟩] ++ [⟨0, n, b⟩] ++ [⟨2, n, 0⟩] ++ [⟨1, n + 3, n + 1⟩] ++ [⟨0, n + 4, c⟩]) (n + 5) = wv inp g a - wv inp g b - wv inp g c := by
 have k1 := (Kp.refl X inp g).snoc hX ⟨0, a, c⟩
 have l1 : (g ++ [(⟨0, a, c⟩ : G3)]).length = g.length + 1 := by simp
 have e1 : wv inp (g ++ [⟨0, a, c⟩]) n = (wv inp g a + wv inp g c) % 2 := by rw [Zbg hX hn, Zee, bx va vc]
 generalize g ++ [(⟨0, a, c⟩ : G3)] = g1 at *
 have k2 := k1.snoc hX ⟨0, b, c⟩
 have l2 : (g1 ++ [(⟨0, b, c⟩ : G3)]).length = g.length + 2 := by simp [l1]
 have e2 : wv inp (g1 ++ [⟨0, b, c⟩]) (n + 1) = (wv inp g b + wv inp g c) % 2 := by
  rw [Zbg hX (by rw [l1]; omega), Zee, k1.v b hb, k1.v c hc, bx vb vc]
 have f2 : wv inp (g1 ++ [⟨0, b, c⟩]) n = (wv inp g a + wv inp g c) % 2 := by rw [Zcy hX (by rw [l1]; omega), e1]
 generalize g1 ++ [(⟨0, b, c⟩ : G3)] = g2 at *
 have k3 := k2.snoc hX ⟨0, n, b⟩
 have l3 : (g2 ++ [(⟨0, n, b⟩ : G3)]).length = g.length + 3 := by simp [l2]
 have e3 : wv inp (g2 ++ [⟨0, n, b⟩]) (n + 2) = (wv inp g a + wv inp g b + wv inp g c) % 2 := by
  rw [Zbg hX (by rw [l2]; omega), Zee, f2, k2.v b hb, bx (by unfold Bt; omega) vb]; omega
 have f3 : wv inp (g2 ++ [⟨0, n, b⟩]) n = (wv inp g a + wv inp g c) % 2 := by rw [Zcy hX (by rw [l2]; omega), f2]
 have h3 : wv inp (g2 ++ [⟨0, n, b⟩]) (n + 1) = (wv inp g b + wv inp g c) % 2 := by rw [Zcy hX (by rw [l2]; omega), e2]
 generalize g2 ++ [(⟨0, n, b⟩ : G3)] = g3 at *
 have k4 := k3.snoc hX ⟨2, n, 0⟩
 have l4 : (g3 ++ [(⟨2, n, 0⟩ : G3)]).length = g.length + 4 := by simp [l3]
 have e4 : wv inp (g3 ++ [⟨2, n, 0⟩]) (n + 3) = 1 - (wv inp g a + wv inp g c) % 2 := by rw [Zbg hX (by rw [l3]; omega), gval_n, f3]
 have f4 : wv inp (g3 ++ [⟨2, n, 0⟩]) (n + 2) = (wv inp g a + wv inp g b + wv inp g c) % 2 := by rw [Zcy hX (by rw [l3]; omega), e3]
 have h4 : wv inp (g3 ++ [⟨2, n, 0⟩]) (n + 1) = (wv inp g b + wv inp g c) % 2 := by rw [Zcy hX (by rw [l3]; omega), h3]
 generalize g3 ++ [(⟨2, n, 0⟩ : G3)] = g4 at *
 have k5 := k4.snoc hX ⟨1, n + 3, n + 1⟩
 have l5 : (g4 ++ [(⟨1, n + 3, n + 1⟩ : G3)]).length = g.length + 5 := by simp [l4]
 have e5 : wv inp (g4 ++ [⟨1, n + 3, n + 1⟩]) (n + 4) = (1 - (wv inp g a + wv inp g c) % 2) * ((wv inp g b + wv inp g c) % 2) := by
  rw [Zbg hX (by rw [l4]; omega), gval_a, e4, h4, ba (by unfold Bt; omega) (by unfold Bt; omega)]
 have f5 : wv inp (g4 ++ [⟨1, n + 3, n + 1⟩]) (n + 2) = (wv inp g a + wv inp g b + wv inp g c) % 2 := by rw [Zcy hX (by rw [l4]; omega), f4]
 generalize g4 ++ [(⟨1, n + 3, n + 1⟩ : G3)] = g5 at *
 have e6 : wv inp (g5 ++ [⟨0, n + 4, c⟩]) (n + 2) = (wv inp g a + wv inp g b + wv inp g c) % 2 := by rw [Zcy hX (by rw [l5]; omega), f5]
 have f6 : wv inp (g5 ++ [⟨0, n + 4, c⟩]) (n + 5) = bxor ((1 - (wv inp g a + wv inp g c) % 2) * ((wv inp g b + wv inp g c) % 2)) (wv inp g c) := by
  rw [Zbg hX (by rw [l5]; omega), Zee, e5, k5.v c hc]
 refine ⟨k5.snoc hX _, ?_, ?_, ?_⟩
 ·rw [e6]; unfold Bt; omega
 ·rw [f6]; unfold Bt
  rcases bt01 va with h1 | h1 <;> rcases bt01 vb with h2 | h2 <;> rcases bt01 vc with h3 | h3 <;> rw [h1, h2, h3] <;> decide
 ·rw [e6, f6]
  rcases bt01 va with h1 | h1 <;> rcases bt01 vb with h2 | h2 <;> rcases bt01 vc with h3 | h3 <;> rw [h1, h2, h3] <;> decide
theorem sub3 {g : List G3} {a b : Int} (ha : 0 ≤ a ∧ a < (X : Int) + g.length) (hb : 0 ≤ b ∧ b < (X : Int) + g.length) (va : Bt (wv inp g a)) (vb : Bt (wv inp g b)) (n : Int) (hn : n = (X : Int) + g.length) :
 Kp X inp g (g ++ [⟨0, a, b⟩] ++ [⟨2, a, 0⟩] ++ [⟨1, n + 1, b⟩]) ∧ Bt (wv inp (g ++ [⟨0, a, b⟩] ++ [⟨2, a, 0⟩] ++ [⟨1, n + 1, b⟩]) n) ∧ Bt (wv inp (g ++ [⟨0, a, b⟩] ++ [⟨2, a, 0⟩] ++ [⟨1, n + 1, b⟩]) (n + 2)) ∧
 wv inp (g ++ [⟨0, a, b⟩] ++ [⟨2, a, 0⟩] ++ [⟨1, n + 1, b⟩]) n - 2 * wv inp (g ++ [⟨0, a, b⟩] ++ [⟨2, a, 0⟩] ++ [⟨1, n + 1, b⟩]) (n + 2) = wv inp g a - wv inp g b := by
 have k1 := (Kp.refl X inp g).snoc hX ⟨0, a, b⟩
 have l1 : (g ++ [(⟨0, a, b⟩ : G3)]).length = g.length + 1 := by simp
 have e1 : wv inp (g ++ [⟨0, a, b⟩]) n = (wv inp g a + wv inp g b) % 2 := by rw [Zbg hX hn, Zee, bx va vb]
 generalize g ++ [(⟨0, a, b⟩ : G3)] = g1 at *
 have k2 := k1.snoc hX ⟨2, a, 0⟩
 have l2 : (g1 ++ [(⟨2, a, 0⟩ : G3)]).length = g.length + 2 := by simp [l1]
 have e2 : wv inp (g1 ++ [⟨2, a, 0⟩]) (n + 1) = 1 - wv inp g a := by rw [Zbg hX (by rw [l1]; omega), gval_n, k1.v a ha]
 have f2 : wv inp (g1 ++ [⟨2, a, 0⟩]) n = (wv inp g a + wv inp g b) % 2 := by rw [Zcy hX (by rw [l1]; omega), e1]
 generalize g1 ++ [(⟨2, a, 0⟩ : G3)] = g2 at *
 have e3 : wv inp (g2 ++ [⟨1, n + 1, b⟩]) n = (wv inp g a + wv inp g b) % 2 := by rw [Zcy hX (by rw [l2]; omega), f2]
 have f3 : wv inp (g2 ++ [⟨1, n + 1, b⟩]) (n + 2) = (1 - wv inp g a) * wv inp g b := by
  rw [Zbg hX (by rw [l2]; omega), gval_a, e2, k2.v b hb, ba (by unfold Bt at *; omega) vb]
 refine ⟨k2.snoc hX _, ?_, ?_, ?_⟩
 ·rw [e3]; unfold Bt; omega
 ·rw [f3]; unfold Bt
  rcases bt01 va with h1 | h1 <;> rcases bt01 vb with h2 | h2 <;> rw [h1, h2] <;> decide
 ·rw [e3, f3]
  rcases bt01 va with h1 | h1 <;> rcases bt01 vb with h2 | h2 <;> rw [h1, h2] <;> decide
end
structure Rw_ (X : Nat) (inp : List Int) (g0 : List G3) (us : List Int) (w : Nat) : Prop where
 lt : ∀ j, j < w → 0 ≤ gi us j ∧ gi us j < (X : Int) + g0.length
 bt : ∀ j, j < w → Bt (wv inp g0 (gi us j))
structure AdOk (X : Nat) (inp : List Int) (g0 : List G3) (s : Ad) (i : Nat) : Prop where
 kp : Kp X inp g0 s.g
 ol : ∀ j, j < i → 0 ≤ gi s.o j ∧ gi s.o j < (X : Int) + s.g.length
 ob : ∀ j, j < i → Bt (wv inp s.g (gi s.o j))
 cl : 0 < i → 0 ≤ s.c ∧ s.c < (X : Int) + s.g.length
 cb : 0 < i → Bt (wv inp s.g s.c)
theorem AdOk.next {X : Nat} {inp : List Int} {g0 : List G3} {s : Ad} {i : Nat} (h : AdOk X inp g0 s i) (hl : s.o.length = i) {g' : List G3} {z c : Int} (k : Kp X inp s.g g') (hz : 0 ≤ z ∧ z < (X : Int) + g'.length) (hc : 0 ≤ c ∧ c < (X : Int) + g'.length) (bz : Bt (wv inp g' z)) (bc : Bt (wv inp g' c)) :
 AdOk X inp g0 ⟨g', s.o ++ [z], c⟩ (i + 1) ∧ nb (fun j => wv inp g' (gi (s.o ++ [z]) j)) (i + 1) = nb (fun j => wv inp s.g (gi s.o j)) i + wv inp g' z * 2 ^ i := by
 have hk := k.len
 have ha : ∀ j, j < i → gi (s.o ++ [z]) j = gi s.o j := fun j hj => Zbt (by omega)
 have hb : gi (s.o ++ [z]) i = z := gi_lastG hl
 have hv : ∀ j, j < i → wv inp g' (gi s.o j) = wv inp s.g (gi s.o j) := fun j hj => k.v _ (h.ol j hj)
 refine ⟨⟨h.kp.trans k, fun j hj => ?_, fun j hj => ?_, fun _ => hc, fun _ => bc⟩, ?_⟩
 ·rcases Nat.lt_or_ge j i with h1 | h1
  ·dsimp only; rw [ha j h1]; have := h.ol j h1; omega
  ·obtain rfl : j = i := by omega
   dsimp only; rw [hb]; exact hz
 ·rcases Nat.lt_or_ge j i with h1 | h1
  ·dsimp only; rw [ha j h1, hv j h1]; exact h.ob j h1
  ·obtain rfl : j = i := by omega
   dsimp only; rw [hb]; exact bz
 ·rw [nb, hb, Zfc i (g := fun j => wv inp s.g (gi s.o j)) (fun j hj => by rw [ha j hj, hv j hj])]
theorem addS_v {X : Nat} {inp : List Int} (hX : inp.length = X) {g0 : List G3} {us vs : List Int} {w : Nat} (hu : Rw_ X inp g0 us w) (hv : Rw_ X inp g0 vs w) :
 ∀ i, i ≤ w → AdOk X inp g0 (addS X g0 us vs i) i ∧ (0 < i → nb (fun j => wv inp (addS X g0 us vs i).g (gi (addS X g0 us vs i).o j)) i + wv inp (addS X g0 us vs i).g (addS X g0 us vs i).c * 2 ^ i = nb (fun j => wv inp g0 (gi us j)) i + nb (fun j => wv inp g0 (gi vs j)) i) := by
 intro i
 induction i with
 | zero => intro _; exact ⟨⟨Kp.refl _ _ _, fun j hj => by omega, fun j hj => by omega, fun h => by omega, fun h => by omega⟩, fun h => by omega⟩
 | succ i ih =>
  intro hi
  obtain ⟨h1, h2⟩ := ih (by omega)
  have hl := addS_o X g0 us vs i
  have hk := h1.kp.len
  have la := hu.lt i (by omega)
  have lb := hv.lt i (by omega)
  have ea := h1.kp.v _ la
  have eb := h1.kp.v _ lb
  have ba' := hu.bt i (by omega)
  have bb' := hv.bt i (by omega)
  rw [addS]
  generalize addS X g0 us vs i = s at *
  unfold addStep
  by_cases h0 : i = 0
  ·subst h0
   rw [if_pos rfl]
   obtain ⟨k, e1, e2⟩ := add2 hX (g := s.g) (a := gi us 0) (b := gi vs 0) (by omega) (by omega) (by rw [ea]; exact ba') (by rw [eb]; exact bb') _ rfl
   rw [ea, eb] at e1 e2
   have hl2 : (s.g ++ [(⟨0, gi us 0, gi vs 0⟩ : G3)] ++ [(⟨1, gi us 0, gi vs 0⟩ : G3)]).length = s.g.length + 2 := by simp
   obtain ⟨a1, a2⟩ := h1.next hl k (z := (X : Int) + s.g.length) (c := (X : Int) + s.g.length + 1) (by omega) (by omega) (by rw [e1]; unfold Bt; omega) (by rw [e2]; unfold Bt at *; omega)
   refine ⟨a1, fun _ => ?_⟩
   dsimp only
   rw [a2, e1, e2]
   simp only [nb]
   unfold Bt at ba' bb'
   omega
  ·rw [if_neg h0]
   have hc := h1.cl (by omega)
   have bc := h1.cb (by omega)
   obtain ⟨k, e1, e2⟩ := add5 hX (g := s.g) (a := gi us i) (b := gi vs i) (c := s.c) (by omega) (by omega) (by omega) (by rw [ea]; exact ba') (by rw [eb]; exact bb') bc _ rfl
   rw [ea, eb] at e1 e2
   generalize hg' : s.g ++ [(⟨0, gi us i, s.c⟩ : G3)] ++ [(⟨0, gi vs i, s.c⟩ : G3)] ++ [(⟨0, (X : Int) + s.g.length, gi vs i⟩ : G3)] ++ [(⟨1, (X : Int) + s.g.length, (X : Int) + s.g.length + 1⟩ : G3)] ++ [(⟨0, (X : Int) + s.g.length + 3, s.c⟩ : G3)] = g' at *
   have hl2 : g'.length = s.g.length + 5 := by rw [← hg']; simp
   obtain ⟨a1, a2⟩ := h1.next hl k (z := (X : Int) + s.g.length + 2) (c := (X : Int) + s.g.length + 4) (by omega) (by omega) (by rw [e1]; unfold Bt; omega) (by rw [e2]; unfold Bt at *; omega)
   refine ⟨a1, fun _ => ?_⟩
   dsimp only
   have h3 := h2 (by omega)
   rw [a2, e1, e2, nb, nb, Int.pow_succ]
   unfold Bt at ba' bb' bc
   generalize wv inp g0 (gi us i) = a at *
   generalize wv inp g0 (gi vs i) = b at *
   generalize wv inp s.g s.c = c at *
   generalize (2 : Int) ^ i = P at *
   have h4 : ((a + b + c) % 2 + (a + b + c) / 2 * 2) * P = (a + b + c) * P := by rw [show (a + b + c) % 2 + (a + b + c) / 2 * 2 = a + b + c by omega]
   rw [Int.add_mul, Int.add_mul, Int.add_mul, Int.mul_assoc] at h4
   rw [Int.mul_comm P 2]
   omega
theorem subS_v {X : Nat} {inp : List Int} (hX : inp.length = X) {g0 : List G3} {us vs : List Int} {w : Nat} (hu : Rw_ X inp g0 us w) (hv : Rw_ X inp g0 vs w) :
 ∀ i, i ≤ w → AdOk X inp g0 (subS X g0 us vs i) i ∧ (0 < i → nb (fun j => wv inp (subS X g0 us vs i).g (gi (subS X g0 us vs i).o j)) i - wv inp (subS X g0 us vs i).g (subS X g0 us vs i).c * 2 ^ i = nb (fun j => wv inp g0 (gi us j)) i - nb (fun j => wv inp g0 (gi vs j)) i) := by
 intro i
 induction i with
 | zero => intro _; exact ⟨⟨Kp.refl _ _ _, fun j hj => by omega, fun j hj => by omega, fun h => by omega, fun h => by omega⟩, fun h => by omega⟩
 | succ i ih =>
  intro hi
  obtain ⟨h1, h2⟩ := ih (by omega)
  have hl := subS_o X g0 us vs i
  have hk := h1.kp.len
  have la := hu.lt i (by omega)
  have lb := hv.lt i (by omega)
  have ea := h1.kp.v _ la
  have eb := h1.kp.v _ lb
  have ba' := hu.bt i (by omega)
  have bb' := hv.bt i (by omega)
  rw [subS]
  generalize subS X g0 us vs i = s at *
  unfold subStep
  by_cases h0 : i = 0
  ·subst h0
   rw [if_pos rfl]
   obtain ⟨k, e0, e1, e2⟩ := sub3 hX (g := s.g) (a := gi us 0) (b := gi vs 0) (by omega) (by omega) (by rw [ea]; exact ba') (by rw [eb]; exact bb') _ rfl
   rw [ea, eb] at e2
   have hl2 : (s.g ++ [(⟨0, gi us 0, gi vs 0⟩ : G3)] ++ [(⟨2, gi us 0, 0⟩ : G3)] ++ [(⟨1, (X : Int) + s.g.length + 1, gi vs 0⟩ : G3)]).length = s.g.length + 3 := by simp
   obtain ⟨a1, a2⟩ := h1.next hl k (z := (X : Int) + s.g.length) (c := (X : Int) + s.g.length + 2) (by omega) (by omega) e0 e1
   refine ⟨a1, fun _ => ?_⟩
   dsimp only
   rw [a2]
   simp only [nb]
   omega
  ·rw [if_neg h0]
   have hc := h1.cl (by omega)
   have bc := h1.cb (by omega)
   obtain ⟨k, e0, e1, e2⟩ := sub6 hX (g := s.g) (a := gi us i) (b := gi vs i) (c := s.c) (by omega) (by omega) (by omega) (by rw [ea]; exact ba') (by rw [eb]; exact bb') bc _ rfl
   rw [ea, eb] at e2
   generalize hg' : s.g ++ [(⟨0, gi us i, s.c⟩ : G3)] ++ [(⟨0, gi vs i, s.c⟩ : G3)] ++ [(⟨0, (X : Int) + s.g.length, gi vs i⟩ : G3)] ++ [(⟨2, (X : Int) + s.g.length, 0⟩ : G3)] ++ [(⟨1, (X : Int) + s.g.length + 3, (X : Int) + s.g.length + 1⟩ : G3)] ++ [(⟨0, (X : Int) + s.g.length + 4, s.c⟩ : G3)] = g' at *
   have hl2 : g'.length = s.g.length + 6 := by rw [← hg']; simp
   obtain ⟨a1, a2⟩ := h1.next hl k (z := (X : Int) + s.g.length + 2) (c := (X : Int) + s.g.length + 5) (by omega) (by omega) e0 e1
   refine ⟨a1, fun _ => ?_⟩
   dsimp only
   have h3 := h2 (by omega)
   rw [a2, nb, nb, Int.pow_succ]
   generalize wv inp g0 (gi us i) = a at *
   generalize wv inp g0 (gi vs i) = b at *
   generalize wv inp s.g s.c = c at *
   generalize wv inp g' ((X : Int) + s.g.length + 2) = d at *
   generalize wv inp g' ((X : Int) + s.g.length + 5) = r at *
   generalize (2 : Int) ^ i = P at *
   have h4 : d * P = (2 * r + (a - b - c)) * P := by rw [show d = 2 * r + (a - b - c) by omega]
   rw [Int.add_mul, Int.sub_mul, Int.sub_mul, Int.mul_assoc] at h4
   rw [Int.mul_comm P 2, Int.mul_left_comm]
   omega
theorem eqs_v {X : Nat} {inp : List Int} (hX : inp.length = X) {g0 : List G3} {us vs : List Int} {w : Nat} (hu : Rw_ X inp g0 us w) (hv : Rw_ X inp g0 vs w) :
 ∀ i, i ≤ w → Kp X inp g0 (eqs X g0 us vs i).g ∧ ∀ j, j < i → (0 ≤ gi (eqs X g0 us vs i).o j ∧ gi (eqs X g0 us vs i).o j < (X : Int) + (eqs X g0 us vs i).g.length) ∧ wv inp (eqs X g0 us vs i).g (gi (eqs X g0 us vs i).o j) = 1 - (wv inp g0 (gi us j) + wv inp g0 (gi vs j)) % 2 := by
 intro i
 induction i with
 | zero => intro _; exact ⟨Kp.refl _ _ _, fun j hj => by omega⟩
 | succ i ih =>
  intro hi
  obtain ⟨h1, h2⟩ := ih (by omega)
  have hl := eqs_o X g0 us vs i
  have hk := h1.len
  have la := hu.lt i (by omega)
  have lb := hv.lt i (by omega)
  have ea := h1.v _ la
  have eb := h1.v _ lb
  have ba' := hu.bt i (by omega)
  have bb' := hv.bt i (by omega)
  rw [eqs]
  generalize eqs X g0 us vs i = s at *
  dsimp only
  have k1 := (Kp.refl X inp s.g).snoc hX ⟨0, gi us i, gi vs i⟩
  have l1 : (s.g ++ [(⟨0, gi us i, gi vs i⟩ : G3)]).length = s.g.length + 1 := by simp
  have e1 : wv inp (s.g ++ [⟨0, gi us i, gi vs i⟩]) ((X : Int) + s.g.length) = (wv inp g0 (gi us i) + wv inp g0 (gi vs i)) % 2 := by
   rw [Zbg hX rfl, Zee, ea, eb, bx ba' bb']
  generalize s.g ++ [(⟨0, gi us i, gi vs i⟩ : G3)] = g1 at *
  have k2 := k1.snoc hX ⟨2, (X : Int) + s.g.length, 0⟩
  have l2 : (g1 ++ [(⟨2, (X : Int) + s.g.length, 0⟩ : G3)]).length = s.g.length + 2 := by simp [l1]
  have e2 : wv inp (g1 ++ [⟨2, (X : Int) + s.g.length, 0⟩]) ((X : Int) + s.g.length + 1) = 1 - (wv inp g0 (gi us i) + wv inp g0 (gi vs i)) % 2 := by
   rw [Zbg hX (by rw [l1]; omega), gval_n, e1]
  generalize g1 ++ [(⟨2, (X : Int) + s.g.length, 0⟩ : G3)] = g2 at *
  refine ⟨h1.trans k2, fun j hj => ?_⟩
  rcases Nat.lt_or_ge j i with h | h
  ·rw [Zbt (by omega)]
   have h3 := h2 j h
   exact ⟨by omega, by rw [k2.v _ h3.1]; exact h3.2⟩
  ·obtain rfl : j = i := by omega
   rw [gi_lastG hl]
   exact ⟨by omega, e2⟩
theorem ands_v {X : Nat} {inp : List Int} (hX : inp.length = X) {g0 : List G3} {es : List Int} {w : Nat} (he : Rw_ X inp g0 es w) :
 ∀ i, i < w → Kp X inp g0 (ands X es g0 i).1 ∧ (0 ≤ (ands X es g0 i).2 ∧ (ands X es g0 i).2 < (X : Int) + (ands X es g0 i).1.length) ∧ Bt (wv inp (ands X es g0 i).1 (ands X es g0 i).2) ∧ (wv inp (ands X es g0 i).1 (ands X es g0 i).2 = 1 ↔ ∀ j, j ≤ i → wv inp g0 (gi es j) = 1) := by
 intro i
 induction i with
 | zero =>
  intro h
  refine ⟨Kp.refl _ _ _, he.lt 0 h, he.bt 0 h, ?_⟩
  show wv inp g0 (gi es 0) = 1 ↔ _
  constructor
  ·intro h1 j hj; obtain rfl : j = 0 := by omega
   exact h1
  ·intro h1; exact h1 0 lR
 | succ i ih =>
  intro hi
  obtain ⟨h1, h2, h3, h4⟩ := ih (by omega)
  have hk := h1.len
  have la := he.lt (i + 1) hi
  have ea := h1.v _ la
  have ba' := he.bt (i + 1) hi
  rw [ands]
  generalize ands X es g0 i = s at *
  dsimp only
  have k1 := (Kp.refl X inp s.1).snoc hX ⟨1, s.2, gi es (i + 1)⟩
  have l1 : (s.1 ++ [(⟨1, s.2, gi es (i + 1)⟩ : G3)]).length = s.1.length + 1 := by simp
  have e1 : wv inp (s.1 ++ [⟨1, s.2, gi es (i + 1)⟩]) ((X : Int) + s.1.length) = wv inp s.1 s.2 * wv inp g0 (gi es (i + 1)) := by
   rw [Zbg hX rfl, gval_a, ea, ba h3 ba']
  refine ⟨h1.trans k1, by omega, ?_, ?_⟩
  ·rw [e1]; rcases bt01 h3 with a | a <;> rcases bt01 ba' with b | b <;> rw [a, b] <;> unfold Bt <;> decide
  ·rw [e1]
   constructor
   ·intro h j hj
    rcases bt01 h3 with a | a <;> rcases bt01 ba' with b | b <;> rw [a, b] at h <;> try (exact absurd h (by decide))
    rcases Nat.lt_or_ge j (i + 1) with h5 | h5
    ·exact h4.1 a j (by omega)
    ·obtain rfl : j = i + 1 := by omega
     exact b
   ·intro h
    rw [h4.2 (fun j hj => h j (by omega)), h (i + 1) lR]; rfl
theorem chs_v {X : Nat} {inp : List Int} (hX : inp.length = X) {g0 : List G3} {us vs : List Int} {s : Int} {w : Nat} (hs : 0 ≤ s ∧ s < (X : Int) + g0.length) (bs : Bt (wv inp g0 s)) (hu : Rw_ X inp g0 us w) (hv : Rw_ X inp g0 vs w) :
 ∀ i, i ≤ w → Kp X inp g0 (chs X g0 s us vs i).g ∧ ∀ j, j < i → (0 ≤ gi (chs X g0 s us vs i).o j ∧ gi (chs X g0 s us vs i).o j < (X : Int) + (chs X g0 s us vs i).g.length) ∧ wv inp (chs X g0 s us vs i).g (gi (chs X g0 s us vs i).o j) = if wv inp g0 s = 1 then wv inp g0 (gi us j) else wv inp g0 (gi vs j) := by
 intro i
 induction i with
 | zero => intro _; exact ⟨Kp.refl _ _ _, fun j hj => by omega⟩
 | succ i ih =>
  intro hi
  obtain ⟨h1, h2⟩ := ih (by omega)
  have hl := chs_o X g0 s us vs i
  have hk := h1.len
  have la := hu.lt i (by omega)
  have lb := hv.lt i (by omega)
  have ea := h1.v _ la
  have eb := h1.v _ lb
  have es := h1.v _ hs
  have ba' := hu.bt i (by omega)
  have bb' := hv.bt i (by omega)
  rw [chs]
  generalize chs X g0 s us vs i = t at *
  dsimp only
  have k1 := (Kp.refl X inp t.g).snoc hX ⟨0, gi us i, gi vs i⟩
  have l1 : (t.g ++ [(⟨0, gi us i, gi vs i⟩ : G3)]).length = t.g.length + 1 := by simp
  have e1 : wv inp (t.g ++ [⟨0, gi us i, gi vs i⟩]) ((X : Int) + t.g.length) = (wv inp g0 (gi us i) + wv inp g0 (gi vs i)) % 2 := by
   rw [Zbg hX rfl, Zee, ea, eb, bx ba' bb']
  generalize t.g ++ [(⟨0, gi us i, gi vs i⟩ : G3)] = g1 at *
  have k2 := k1.snoc hX ⟨1, s, (X : Int) + t.g.length⟩
  have l2 : (g1 ++ [(⟨1, s, (X : Int) + t.g.length⟩ : G3)]).length = t.g.length + 2 := by simp [l1]
  have e2 : wv inp (g1 ++ [⟨1, s, (X : Int) + t.g.length⟩]) ((X : Int) + t.g.length + 1) = wv inp g0 s * ((wv inp g0 (gi us i) + wv inp g0 (gi vs i)) % 2) := by
   rw [Zbg hX (by rw [l1]; omega), gval_a, e1, k1.v s (by omega), es, ba bs (by unfold Bt; omega)]
  generalize g1 ++ [(⟨1, s, (X : Int) + t.g.length⟩ : G3)] = g2 at *
  have k3 := k2.snoc hX ⟨0, (X : Int) + t.g.length + 1, gi vs i⟩
  have l3 : (g2 ++ [(⟨0, (X : Int) + t.g.length + 1, gi vs i⟩ : G3)]).length = t.g.length + 3 := by simp [l2]
  have e3 : wv inp (g2 ++ [⟨0, (X : Int) + t.g.length + 1, gi vs i⟩]) ((X : Int) + t.g.length + 2) = if wv inp g0 s = 1 then wv inp g0 (gi us i) else wv inp g0 (gi vs i) := by
   rw [Zbg hX (by rw [l2]; omega), Zee, e2, k2.v _ (by omega), eb]
   rcases bt01 bs with a | a <;> rcases bt01 ba' with b | b <;> rcases bt01 bb' with c | c <;> rw [a, b, c] <;> decide
  generalize g2 ++ [(⟨0, (X : Int) + t.g.length + 1, gi vs i⟩ : G3)] = g3 at *
  refine ⟨h1.trans k3, fun j hj => ?_⟩
  rcases Nat.lt_or_ge j i with h | h
  ·rw [Zbt (by omega)]
   have h3 := h2 j h
   exact ⟨by omega, by rw [k3.v _ h3.1]; exact h3.2⟩
  ·obtain rfl : j = i := by omega
   rw [gi_lastG hl]
   exact ⟨by omega, e3⟩
theorem gi_spn' (a : Int) {n j : Nat} (h : j < n) : gi (spn a n) j = a + j := by unfold spn gi; simp [h]
theorem bitsN_consG (n k : Nat) : bitsN n (k + 1) = ((n % 2 : Nat) : Int) :: bitsN (n / 2) k := by
 unfold bitsN tab
 rw [List.range_succ_eq_map, List.map_cons, List.map_map]
 congr 1
 ·simp
 ·refine List.map_congr_left fun i _ => ?_
  show ((n / 2 ^ (i + 1) % 2 : Nat) : Int) = ((n / 2 / 2 ^ i % 2 : Nat) : Int)
  rw [Nat.div_div_eq_div_mul, Nat.pow_succ, Nat.mul_comm]
theorem bitsN_app (u v w k : Nat) (hu : u < 2 ^ w) : bitsN (u + v * 2 ^ w) (w + k) = bitsN u w ++ bitsN v k := by
 induction w generalizing u with
 | zero => obtain rfl : u = 0 := by simpa using hu
           simp [bitsN, tab]
 | succ w ih =>
  rw [show w + 1 + k = (w + k) + 1 by omega, bitsN_consG, bitsN_consG, List.cons_append]
  have e1 : (u + v * 2 ^ (w + 1)) % 2 = u % 2 := by rw [Nat.pow_succ, ← Nat.mul_assoc]; omega
  have e2 : (u + v * 2 ^ (w + 1)) / 2 = u / 2 + v * 2 ^ w := by rw [Nat.pow_succ, ← Nat.mul_assoc]; omega
  rw [e1, e2, ih (u / 2) (by rw [Nat.pow_succ] at hu; omega)]
theorem Zec (xs ys : List Int) : numN (xs ++ ys) = numN xs + numN ys * 2 ^ xs.length := by
 induction xs with
 | nil => simp [numN]
 | cons a l ih =>
  rw [List.cons_append, numN, numN, ih, List.length_cons, Int.pow_succ]
  have : 2 * (numN ys * 2 ^ l.length) = numN ys * (2 ^ l.length * 2) := by rw [Int.mul_comm 2, Int.mul_assoc]
  omega
def pv (inp : List Int) (g : List G3) (o : List Int) : List Int := o.map (wv inp g)
theorem pv_len (inp : List Int) (g : List G3) (o : List Int) : (pv inp g o).length = o.length := by simp [pv]
theorem pv_app (inp : List Int) (g : List G3) (a b : List Int) : pv inp g (a ++ b) = pv inp g a ++ pv inp g b := by simp [pv]
theorem pv_nb (inp : List Int) (g : List G3) (o : List Int) : numN (pv inp g o) = nb (fun j => wv inp g (gi o j)) o.length := by
 rw [numN_nb', pv_len]
 exact Zfc _ fun j hj => by unfold pv; rw [gi_map hj]
def Wl (X : Nat) (inp : List Int) (g : List G3) (o : List Int) : Prop := ∀ z ∈ o, (0 ≤ z ∧ z < (X : Int) + g.length) ∧ Bt (wv inp g z)
theorem Wl.kp {X : Nat} {inp : List Int} {g h : List G3} {o : List Int} (hw : Wl X inp g o) (k : Kp X inp g h) : Wl X inp h o ∧ pv inp h o = pv inp g o := by
 refine ⟨fun z hz => ?_, List.map_congr_left fun z hz => k.v z (hw z hz).1⟩
 have h1 := hw z hz
 exact ⟨by have := k.len; omega, by rw [k.v z h1.1]; exact h1.2⟩
theorem Wl.app {X : Nat} {inp : List Int} {g : List G3} {a b : List Int} (h1 : Wl X inp g a) (h2 : Wl X inp g b) : Wl X inp g (a ++ b) := fun z hz => (List.mem_append.1 hz).elim (h1 z) (h2 z)
theorem Wl.rw_ {X : Nat} {inp : List Int} {g : List G3} {o : List Int} {w : Nat} (h : Wl X inp g o) (hl : o.length = w) : Rw_ X inp g o w :=
 ⟨fun j hj => (h _ (Zbo (by omega))).1, fun j hj => (h _ (Zbo (by omega))).2⟩
theorem Wl.of {X : Nat} {inp : List Int} {g : List G3} {o : List Int} {w : Nat} (h : Rw_ X inp g o w) (hl : o.length = w) : Wl X inp g o := fun z hz => by
 obtain ⟨j, hj, rfl⟩ := List.getElem_of_mem hz
 have h1 := h.lt j (by omega)
 have h2 := h.bt j (by omega)
 rw [gi_lt hj] at h1 h2
 exact ⟨h1, h2⟩
theorem rowG_v {X : Nat} {inp : List Int} (hX : inp.length = X) {g0 : List G3} {us : List Int} {v : Int} {w : Nat} (hv : 0 ≤ v ∧ v < (X : Int) + g0.length) (bv : Bt (wv inp g0 v)) (hu : Rw_ X inp g0 us w) :
 ∀ i, i ≤ w → Kp X inp g0 (rowG X v us g0 i).g ∧ ∀ j, j < i → (0 ≤ gi (rowG X v us g0 i).o j ∧ gi (rowG X v us g0 i).o j < (X : Int) + (rowG X v us g0 i).g.length) ∧ wv inp (rowG X v us g0 i).g (gi (rowG X v us g0 i).o j) = wv inp g0 (gi us j) * wv inp g0 v := by
 intro i
 induction i with
 | zero => intro _; exact ⟨Kp.refl _ _ _, fun j hj => by omega⟩
 | succ i ih =>
  intro hi
  obtain ⟨h1, h2⟩ := ih (by omega)
  have hl := row_o X v us g0 i
  have hk := h1.len
  have la := hu.lt i (by omega)
  have ea := h1.v _ la
  have ev := h1.v _ hv
  have ba' := hu.bt i (by omega)
  rw [rowG]
  generalize rowG X v us g0 i = s at *
  dsimp only
  have k1 := (Kp.refl X inp s.g).snoc hX ⟨1, gi us i, v⟩
  have l1 : (s.g ++ [(⟨1, gi us i, v⟩ : G3)]).length = s.g.length + 1 := by simp
  have e1 : wv inp (s.g ++ [⟨1, gi us i, v⟩]) ((X : Int) + s.g.length) = wv inp g0 (gi us i) * wv inp g0 v := by
   rw [Zbg hX rfl, gval_a, ea, ev, ba ba' bv]
  generalize s.g ++ [(⟨1, gi us i, v⟩ : G3)] = g1 at *
  refine ⟨h1.trans k1, fun j hj => ?_⟩
  rcases Nat.lt_or_ge j i with h | h
  ·rw [Zbt (by omega)]
   have h3 := h2 j h
   exact ⟨by omega, by rw [k1.v _ h3.1]; exact h3.2⟩
  ·obtain rfl : j = i := by omega
   rw [gi_lastG hl]
   exact ⟨by omega, e1⟩
theorem nb_mul (f : Nat → Int) (c : Int) : ∀ i, nb (fun j => f j * c) i = nb f i * c
 | 0 => by simp [nb]
 | i + 1 => by
  rw [nb, nb, nb_mul f c i, Int.add_mul]
  have : f i * c * 2 ^ i = f i * 2 ^ i * c := by rw [Int.mul_assoc, Int.mul_comm c, ← Int.mul_assoc]
  omega
theorem row_all {X : Nat} {inp : List Int} (hX : inp.length = X) {g0 : List G3} {us : List Int} {v : Int} {w : Nat} (hv : 0 ≤ v ∧ v < (X : Int) + g0.length) (bv : Bt (wv inp g0 v)) (hu : Rw_ X inp g0 us w) :
 Kp X inp g0 (rowG X v us g0 w).g ∧ Wl X inp (rowG X v us g0 w).g (rowG X v us g0 w).o ∧ numN (pv inp (rowG X v us g0 w).g (rowG X v us g0 w).o) = nb (fun j => wv inp g0 (gi us j)) w * wv inp g0 v := by
 obtain ⟨h1, h2⟩ := rowG_v hX hv bv hu w lR
 have hl := row_o X v us g0 w
 refine ⟨h1, Wl.of (w := w) ⟨fun j hj => (h2 j hj).1, fun j hj => ?_⟩ hl, ?_⟩
 ·rw [(h2 j hj).2]
  rcases bt01 (hu.bt j hj) with a | a <;> rcases bt01 bv with b | b <;> rw [a, b] <;> unfold Bt <;> decide
 ·rw [pv_nb, hl, Zfc w (fun j hj => (h2 j hj).2), nb_mul]
structure PrOk (X : Nat) (inp : List Int) (g0 : List G3) (s : Go2) (T : Int) : Prop where
 kp : Kp X inp g0 s.g
 wl : Wl X inp s.g s.o
 n : numN (pv inp s.g s.o) = T
theorem prod_v {X : Nat} {inp : List Int} (hX : inp.length = X) {g0 : List G3} {us vs : List Int} {w : Nat} (hw : 1 ≤ w) (hu : Rw_ X inp g0 us w) (hv : Rw_ X inp g0 vs w) :
 ∀ i, i < w → PrOk X inp g0 (prodS X g0 us vs w (i + 1)) (nb (fun j => wv inp g0 (gi us j)) w * nb (fun j => wv inp g0 (gi vs j)) (i + 1)) := by
 intro i
 induction i with
 | zero =>
  intro _
  rw [prodS, prodStep, if_pos rfl]
  obtain ⟨h1, h2, h3⟩ := row_all hX (v := gi vs 0) (hv.lt 0 (by omega)) (hv.bt 0 (by omega)) hu
  refine ⟨h1, h2, ?_⟩
  show numN (pv inp (rowG X (gi vs 0) us g0 w).g (rowG X (gi vs 0) us g0 w).o) = _
  rw [h3]; simp [nb]
 | succ i ih =>
  intro hi
  obtain ⟨s1, s2, s3⟩ := ih (by omega)
  have hol := prodS_o X g0 us vs w hw i
  rw [prodS]
  generalize prodS X g0 us vs w (i + 1) = s at *
  rw [prodStep, if_neg (by omega)]
  have hrl : (prodRest X (i + 1) s).length = w := prodRest_len (n := w) (by omega) (by omega) (by rw [hol]; split <;> rename_i h <;> first | (rw [if_pos (by omega)]) | (rw [if_neg (by omega)]; omega))
  -- the gates ahead of the row, and what is added to
  have hG : Kp X inp s.g (prodG1 X (i + 1) s) ∧ Wl X inp (prodG1 X (i + 1) s) (prodRest X (i + 1) s) ∧ numN (pv inp (prodG1 X (i + 1) s) (prodRest X (i + 1) s)) = numN (pv inp s.g (s.o.drop (i + 1))) := by
   have hd : Wl X inp s.g (s.o.drop (i + 1)) := fun z hz => s2 z (List.mem_of_mem_drop hz)
   unfold prodG1 prodRest
   by_cases h1 : i + 1 = 1
   ·rw [if_pos h1, if_pos h1, h1]
    rw [h1] at hd
    have k1 := (Kp.refl X inp s.g).snoc hX ⟨3, 0, 0⟩
    have l1 : (s.g ++ [(⟨3, 0, 0⟩ : G3)]).length = s.g.length + 1 := by simp
    have e1 : wv inp (s.g ++ [⟨3, 0, 0⟩]) ((X : Int) + s.g.length) = 1 := by rw [Zbg hX rfl]; rfl
    generalize s.g ++ [(⟨3, 0, 0⟩ : G3)] = g1 at *
    have k2 := k1.snoc hX ⟨2, (X : Int) + s.g.length, 0⟩
    have l2 : (g1 ++ [(⟨2, (X : Int) + s.g.length, 0⟩ : G3)]).length = s.g.length + 2 := by simp [l1]
    have e2 : wv inp (g1 ++ [⟨2, (X : Int) + s.g.length, 0⟩]) ((X : Int) + s.g.length + 1) = 0 := by rw [Zbg hX (by rw [l1]; omega), gval_n, e1]; rfl
    generalize g1 ++ [(⟨2, (X : Int) + s.g.length, 0⟩ : G3)] = g2 at *
    obtain ⟨d1, d2⟩ := hd.kp k2
    refine ⟨k2, d1.app fun z hz => ?_, ?_⟩
    ·simp only [List.mem_singleton] at hz
     subst hz
     exact ⟨by omega, by rw [e2]; unfold Bt; decide⟩
    ·rw [pv_app, Zec, d2, show pv inp g2 [(X : Int) + s.g.length + 1] = [0] by simp [pv, e2]]
     simp [numN]
   ·rw [if_neg h1, if_neg h1]
    exact ⟨Kp.refl _ _ _, hd, rfl⟩
  obtain ⟨q1, q2, q3⟩ := hG
  generalize hg1 : prodG1 X (i + 1) s = g1 at *
  generalize prodRest X (i + 1) s = rest at *
  have kz := s1.trans q1
  have la := hv.lt (i + 1) (by omega)
  have ea := kz.v _ la
  have hu1 : Rw_ X inp g1 us w := ⟨fun j hj => by have := hu.lt j hj; have := kz.len; omega, fun j hj => by rw [kz.v _ (hu.lt j hj)]; exact hu.bt j hj⟩
  obtain ⟨r1, r2, r3⟩ := row_all hX (v := gi vs (i + 1)) (g0 := g1) (by have := kz.len; omega) (by rw [ea]; exact hv.bt (i + 1) (by omega)) hu1
  have hrl2 := row_o X (gi vs (i + 1)) us g1 w
  generalize rowG X (gi vs (i + 1)) us g1 w = t at *
  obtain ⟨d1, d2⟩ := q2.kp r1
  obtain ⟨a1, a2⟩ := addS_v hX (d1.rw_ hrl) (r2.rw_ hrl2) w lR
  have ha := a2 (by omega)
  have hao := addS_o X t.g rest t.o w
  generalize addS X t.g rest t.o w = A at *
  have kA := (kz.trans r1).trans a1.kp
  have wA : Wl X inp A.g A.o := Wl.of (w := w) ⟨a1.ol, a1.ob⟩ hao
  have hT : Wl X inp s.g (s.o.take (i + 1)) := fun z hz => s2 z (List.mem_of_mem_take hz)
  obtain ⟨t1, t2⟩ := hT.kp ((q1.trans r1).trans a1.kp)
  have htl : (s.o.take (i + 1)).length = i + 1 := by rw [List.length_take, hol]; split <;> omega
  refine ⟨kA, (t1.app wA).app (fun z hz => ?_), ?_⟩
  ·simp only [List.mem_singleton] at hz
   subst hz
   exact ⟨a1.cl (by omega), a1.cb (by omega)⟩
  ·show numN (pv inp A.g (s.o.take (i + 1) ++ A.o ++ [A.c])) = _
   rw [pv_app, pv_app, List.append_assoc, Zec, Zec, pv_len, pv_len, htl, hao, t2]
   have e4 : numN (pv inp A.g A.o) + numN (pv inp A.g [A.c]) * 2 ^ w = numN (pv inp g1 rest) + numN (pv inp t.g t.o) := by
    rw [pv_nb, hao, show numN (pv inp A.g [A.c]) = wv inp A.g A.c by simp [pv, numN], ha]
    rw [← d2, pv_nb inp t.g rest, hrl, pv_nb inp t.g t.o, hrl2]
   rw [e4, q3, r3, ea, Zfc w (g := fun j => wv inp g0 (gi us j)) (fun j hj => kz.v _ (hu.lt j hj))]
   have e5 : numN (pv inp s.g s.o) = numN (pv inp s.g (s.o.take (i + 1))) + numN (pv inp s.g (s.o.drop (i + 1))) * 2 ^ (i + 1) := by
    have h9 := Zec (pv inp s.g (s.o.take (i + 1))) (pv inp s.g (s.o.drop (i + 1)))
    rw [← pv_app, List.take_append_drop, pv_len, htl] at h9
    exact h9
   rw [s3] at e5
   rw [show nb (fun j => wv inp g0 (gi vs j)) (i + 1 + 1) = nb (fun j => wv inp g0 (gi vs j)) (i + 1) + wv inp g0 (gi vs (i + 1)) * 2 ^ (i + 1) from rfl]
   rw [Int.mul_add, e5, Int.add_mul]
   have e6 : nb (fun j => wv inp g0 (gi us j)) w * wv inp g0 (gi vs (i + 1)) * 2 ^ (i + 1) = nb (fun j => wv inp g0 (gi us j)) w * (wv inp g0 (gi vs (i + 1)) * 2 ^ (i + 1)) := Int.mul_assoc _ _ _
   omega
end Go.Proofs.YtenknpcbbcbciaaGreat
