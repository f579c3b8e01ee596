/- Contracts: lists in order; steps applied to a list. Twelve lines at most. -/
import Derived.Test.YtjeojnfpeppclaaQR09
namespace Go.Proofs.Ytjeojnfpeppclaa
open Go.RowKit
set_option linter.unusedVariables false
set_option linter.unusedSimpArgs false
theorem ggA_l {xs ys : List G3} {j : Nat} (h : j < xs.length) : gg (xs ++ ys) j = gg xs j := by
 unfold gg; rw [List.getD_eq_getElem?_getD, List.getD_eq_getElem?_getD, List.getElem?_append_left h]
theorem ggA_r (xs : List G3) (v : G3) : gg (xs ++ [v]) xs.length = v := by unfold gg; simp
theorem gi_lastG {xs : List Int} {v : Int} {n : Nat} (h : xs.length = n) : gi (xs ++ [v]) n = v := by subst h; exact gi_append_at
theorem vals_gsG {gs hs : List G3} {inp : List Int} : ∀ k, (∀ j, j < k → gg gs j = gg hs j) → vals gs inp k = vals hs inp k := by
 intro k
 induction k with
 | zero => intro _; rfl
 | succ k ih => intro h; rw [vals_succ, vals_succ, ih (fun j hj => h j (by omega)), h k (by omega)]
def wv (inp : List Int) (gs : List G3) (z : Int) : Int := gi (vals gs inp gs.length) z.toNat
theorem vals_app (gs : List G3) (g : G3) (inp : List Int) : vals (gs ++ [g]) inp (gs ++ [g]).length = vals gs inp gs.length ++ [gval g (vals gs inp gs.length)] := by
 rw [List.length_append, show ([g] : List G3).length = 1 from rfl, vals_succ, ggA_r, vals_gsG (hs := gs) _ (fun j hj => ggA_l hj)]
theorem wv_old {X : Nat} {inp : List Int} (hX : inp.length = X) {gs : List G3} {g : G3} {z : Int} (h : 0 ≤ z ∧ z < (X : Int) + gs.length) : wv inp (gs ++ [g]) z = wv inp gs z := by
 unfold wv; rw [vals_app, Zbp (by rw [Zbz, hX]; omega)]
theorem wv_new {X : Nat} {inp : List Int} (hX : inp.length = X) {gs : List G3} {g : G3} {z : Int} (h : z = (X : Int) + gs.length) : wv inp (gs ++ [g]) z = gval g (vals gs inp gs.length) := by
 unfold wv; rw [vals_app, h, show ((X : Int) + (gs.length : Nat)).toNat = X + gs.length by omega, gi_lastG (by rw [Zbz, hX])]
theorem wv_nil (inp : List Int) (z : Int) : wv inp [] z = gi inp z.toNat := rfl
theorem gval_x (inp : List Int) (gs : List G3) (a b : Int) : gval ⟨0, a, b⟩ (vals gs inp gs.length) = bxor (wv inp gs a) (wv inp gs b) := rfl
theorem gval_a (inp : List Int) (gs : List G3) (a b : Int) : gval ⟨1, a, b⟩ (vals gs inp gs.length) = band (wv inp gs a) (wv inp gs b) := rfl
theorem gval_n (inp : List Int) (gs : List G3) (a b : Int) : gval ⟨2, a, b⟩ (vals gs inp gs.length) = 1 - wv inp gs a := rfl
def Bt (v : Int) : Prop := 0 ≤ v ∧ v ≤ 1
structure Kp (X : Nat) (inp : List Int) (gs hs : List G3) : Prop where
 len : gs.length ≤ hs.length
 v : ∀ z : Int, 0 ≤ z ∧ z < (X : Int) + gs.length → wv inp hs z = wv inp gs z
theorem Kp.refl (X : Nat) (inp : List Int) (gs : List G3) : Kp X inp gs gs := ⟨Nat.le_refl _, fun _ _ => rfl⟩
theorem Kp.trans {X : Nat} {inp : List Int} {a b c : List G3} (h : Kp X inp a b) (k : Kp X inp b c) : Kp X inp a c :=
 ⟨Nat.le_trans h.len k.len, fun z hz => (k.v z (by have := h.len; omega)).trans (h.v z hz)⟩
theorem Kp.snoc {X : Nat} {inp : List Int} (hX : inp.length = X) {a b : List G3} (h : Kp X inp a b) (g : G3) : Kp X inp a (b ++ [g]) :=
 ⟨by rw [List.length_append]; exact Nat.le_trans h.len (Nat.le_add_right _ _), fun z hz => (wv_old hX (by have := h.len; omega)).trans (h.v z hz)⟩
def nb (f : Nat → Int) : Nat → Int
 | 0 => 0
 | i + 1 => nb f i + f i * 2 ^ i
theorem Zbn {f g : Nat → Int} : ∀ i, (∀ j, j < i → f j = g j) → nb f i = nb g i
 | 0, _ => rfl
 | i + 1, h => by rw [nb, nb, Zbn i (fun j hj => h j (by omega)), h i (by omega)]
theorem numN_nb (l : List Int) : ∀ i, i ≤ l.length → numN (l.take i) = nb (gi l) i := by
 intro i
 induction i with
 | zero => intro _; rfl
 | succ i ih => intro h; rw [Zbo (by omega), numN_snoc, ih (by omega), nb, List.length_take, Nat.min_eq_left (by omega)]
theorem numN_nb' (l : List Int) : numN l = nb (gi l) l.length := by rw [← numN_nb l l.length lR, List.take_length]
theorem nb_bd {f : Nat → Int} : ∀ i, (∀ j, j < i → Bt (f j)) → 0 ≤ nb f i ∧ nb f i < 2 ^ i
 | 0, _ => by simp [nb]
 | i + 1, h => by
  have h1 := nb_bd i (fun j hj => h j (by omega))
  have h2 := h i (by omega)
  rw [nb, Int.pow_succ]
  rcases (show f i = 0 ∨ f i = 1 by unfold Bt at h2; omega) with e | e <;> rw [e] <;> omega
theorem numN_bits (n k : Nat) : numN (bitsN n k) = ((n % 2 ^ k : Nat) : Int) := by
 induction k with
 | zero => simp [bitsN, tab, numN, Nat.mod_one]
 | succ k ih =>
  rw [bitsN_snoc, numN_snoc, ih, Zat, Nat.mod_pow_succ]
  simp only [Int.natCast_add, Int.natCast_mul, Int.natCast_pow]
  rw [Int.mul_comm]; rfl
theorem numN_bits' {n k : Nat} (h : n < 2 ^ k) : numN (bitsN n k) = n := by rw [numN_bits, Nat.mod_eq_of_lt h]
theorem bx {a b : Int} (ha : Bt a) (hb : Bt b) : bxor a b = (a + b) % 2 := bxor_bit ha hb
theorem ba {a b : Int} (ha : Bt a) (hb : Bt b) : band a b = a * b := band_bit ha hb
theorem bt01 {a : Int} (h : Bt a) : a = 0 ∨ a = 1 := by unfold Bt at h; omega
section
variable {X : Nat} {inp : List Int} (hX : inp.length = X)
include hX
theorem sub6 {g : List G3} {a b c : Int} (ha : 0 ≤ a ∧ a < (X : Int) + g.length) (hb : 0 ≤ b ∧ b < (X : Int) + g.length) (hc : 0 ≤ c ∧ c < (X : Int) + g.length) (va : Bt (wv inp g a)) (vb : Bt (wv inp g b)) (vc : Bt (wv inp g c)) (n : Int) (hn : n = (X : Int) + g.length) :
 Kp X inp g (g ++ [⟨0, a, c⟩] ++ [⟨0, b, c⟩] ++ [⟨0, n, b⟩] ++ [⟨2, n, 0⟩] ++ [⟨1, n + 3, n + 1⟩] ++ [⟨0, n + 4, c⟩]) ∧
 Bt (wv inp (g ++ [⟨0, a, c⟩] ++ [⟨0, b, c⟩] ++ [⟨0, n, b⟩] ++ [⟨2, n, 0⟩] ++ [⟨1, n + 3, n + 1⟩] ++ [⟨0, n + 4, c⟩]) (n + 2)) ∧
 Bt (wv inp (g ++ [⟨0, a, c⟩] ++ [⟨0, b, c⟩] ++ [⟨0, n, b⟩] ++ [⟨2, n, 0⟩] ++ [⟨1, n + 3, n + 1⟩] ++ [⟨0, n + 4, c⟩]) (n + 5)) ∧
 wv inp (g ++ [⟨0, a, c⟩] ++ [⟨0, b, c⟩] ++ [⟨0, n, b⟩] ++ [⟨2, n, 0⟩] ++ [⟨1, n + 3, n + 1⟩] ++ [⟨0, n + 4, c⟩]) (n + 2) - 2 * wv inp (g ++ [⟨0, a, c⟩] ++ [⟨0, b, c⟩] ++ [⟨0, n, b⟩] ++ [⟨2, n, 0⟩] ++ [⟨1, n + 3, n + 1⟩] ++ [⟨0, n + 4, c⟩]) (n + 5) = wv inp g a - wv inp g b - wv inp g c := by
 have k1 := (Kp.refl X inp g).snoc hX ⟨0, a, c⟩
 have l1 : (g ++ [(⟨0, a, c⟩ : G3)]).length = g.length + 1 := by simp
 have e1 : wv inp (g ++ [⟨0, a, c⟩]) n = (wv inp g a + wv inp g c) % 2 := by rw [wv_new hX hn, gval_x, bx va vc]
 generalize g ++ [(⟨0, a, c⟩ : G3)] = g1 at *
 have k2 := k1.snoc hX ⟨0, b, c⟩
 have l2 : (g1 ++ [(⟨0, b, c⟩ : G3)]).length = g.length + 2 := by simp [l1]
 have e2 : wv inp (g1 ++ [⟨0, b, c⟩]) (n + 1) = (wv inp g b + wv inp g c) % 2 := by
  rw [wv_new hX (by rw [l1]; omega), gval_x, k1.v b hb, k1.v c hc, bx vb vc]
 have f2 : wv inp (g1 ++ [⟨0, b, c⟩]) n = (wv inp g a + wv inp g c) % 2 := by rw [wv_old hX (by rw [l1]; omega), e1]
 generalize g1 ++ [(⟨0, b, c⟩ : G3)] = g2 at *
 have k3 := k2.snoc hX ⟨0, n, b⟩
 have l3 : (g2 ++ [(⟨0, n, b⟩ : G3)]).length = g.length + 3 := by simp [l2]
 have e3 : wv inp (g2 ++ [⟨0, n, b⟩]) (n + 2) = (wv inp g a + wv inp g b + wv inp g c) % 2 := by
  rw [wv_new hX (by rw [l2]; omega), gval_x, f2, k2.v b hb, bx (by unfold Bt; omega) vb]; omega
 have f3 : wv inp (g2 ++ [⟨0, n, b⟩]) n = (wv inp g a + wv inp g c) % 2 := by rw [wv_old hX (by rw [l2]; omega), f2]
 have h3 : wv inp (g2 ++ [⟨0, n, b⟩]) (n + 1) = (wv inp g b + wv inp g c) % 2 := by rw [wv_old hX (by rw [l2]; omega), e2]
 generalize g2 ++ [(⟨0, n, b⟩ : G3)] = g3 at *
 have k4 := k3.snoc hX ⟨2, n, 0⟩
 have l4 : (g3 ++ [(⟨2, n, 0⟩ : G3)]).length = g.length + 4 := by simp [l3]
 have e4 : wv inp (g3 ++ [⟨2, n, 0⟩]) (n + 3) = 1 - (wv inp g a + wv inp g c) % 2 := by rw [wv_new hX (by rw [l3]; omega), gval_n, f3]
 have f4 : wv inp (g3 ++ [⟨2, n, 0⟩]) (n + 2) = (wv inp g a + wv inp g b + wv inp g c) % 2 := by rw [wv_old hX (by rw [l3]; omega), e3]
 have h4 : wv inp (g3 ++ [⟨2, n, 0⟩]) (n + 1) = (wv inp g b + wv inp g c) % 2 := by rw [wv_old hX (by rw [l3]; omega), h3]
 generalize g3 ++ [(⟨2, n, 0⟩ : G3)] = g4 at *
 have k5 := k4.snoc hX ⟨1, n + 3, n + 1⟩
 have l5 : (g4 ++ [(⟨1, n + 3, n + 1⟩ : G3)]).length = g.length + 5 := by simp [l4]
 have e5 : wv inp (g4 ++ [⟨1, n + 3, n + 1⟩]) (n + 4) = (1 - (wv inp g a + wv inp g c) % 2) * ((wv inp g b + wv inp g c) % 2) := by
  rw [wv_new hX (by rw [l4]; omega), gval_a, e4, h4, ba (by unfold Bt; omega) (by unfold Bt; omega)]
 have f5 : wv inp (g4 ++ [⟨1, n + 3, n + 1⟩]) (n + 2) = (wv inp g a + wv inp g b + wv inp g c) % 2 := by rw [wv_old hX (by rw [l4]; omega), f4]
 generalize g4 ++ [(⟨1, n + 3, n + 1⟩ : G3)] = g5 at *
 have e6 : wv inp (g5 ++ [⟨0, n + 4, c⟩]) (n + 2) = (wv inp g a + wv inp g b + wv inp g c) % 2 := by rw [wv_old hX (by rw [l5]; omega), f5]
 have f6 : wv inp (g5 ++ [⟨0, n + 4, c⟩]) (n + 5) = bxor ((1 - (wv inp g a + wv inp g c) % 2) * ((wv inp g b + wv inp g c) % 2)) (wv inp g c) := by
  rw [wv_new hX (by rw [l5]; omega), gval_x, e5, k5.v c hc]
 refine ⟨k5.snoc hX _, ?_, ?_, ?_⟩
 ·rw [e6]; unfold Bt; omega
 ·rw [f6]; unfold Bt
  rcases bt01 va with h1 | h1 <;> rcases bt01 vb with h2 | h2 <;> rcases bt01 vc with h3 | h3 <;> rw [h1, h2, h3] <;> decide
 ·rw [e6, f6]
  rcases bt01 va with h1 | h1 <;> rcases bt01 vb with h2 | h2 <;> rcases bt01 vc with h3 | h3 <;> rw [h1, h2, h3] <;> decide
theorem sub3 {g : List G3} {a b : Int} (ha : 0 ≤ a ∧ a < (X : Int) + g.length) (hb : 0 ≤ b ∧ b < (X : Int) + g.length) (va : Bt (wv inp g a)) (vb : Bt (wv inp g b)) (n : Int) (hn : n = (X : Int) + g.length) :
 Kp X inp g (g ++ [⟨0, a, b⟩] ++ [⟨2, a, 0⟩] ++ [⟨1, n + 1, b⟩]) ∧ Bt (wv inp (g ++ [⟨0, a, b⟩] ++ [⟨2, a, 0⟩] ++ [⟨1, n + 1, b⟩]) n) ∧ Bt (wv inp (g ++ [⟨0, a, b⟩] ++ [⟨2, a, 0⟩] ++ [⟨1, n + 1, b⟩]) (n + 2)) ∧
 wv inp (g ++ [⟨0, a, b⟩] ++ [⟨2, a, 0⟩] ++ [⟨1, n + 1, b⟩]) n - 2 * wv inp (g ++ [⟨0, a, b⟩] ++ [⟨2, a, 0⟩] ++ [⟨1, n + 1, b⟩]) (n + 2) = wv inp g a - wv inp g b := by
 have k1 := (Kp.refl X inp g).snoc hX ⟨0, a, b⟩
 have l1 : (g ++ [(⟨0, a, b⟩ : G3)]).length = g.length + 1 := by simp
 have e1 : wv inp (g ++ [⟨0, a, b⟩]) n = (wv inp g a + wv inp g b) % 2 := by rw [wv_new hX hn, gval_x, bx va vb]
 generalize g ++ [(⟨0, a, b⟩ : G3)] = g1 at *
 have k2 := k1.snoc hX ⟨2, a, 0⟩
 have l2 : (g1 ++ [(⟨2, a, 0⟩ : G3)]).length = g.length + 2 := by simp [l1]
 have e2 : wv inp (g1 ++ [⟨2, a, 0⟩]) (n + 1) = 1 - wv inp g a := by rw [wv_new hX (by rw [l1]; omega), gval_n, k1.v a ha]
 have f2 : wv inp (g1 ++ [⟨2, a, 0⟩]) n = (wv inp g a + wv inp g b) % 2 := by rw [wv_old hX (by rw [l1]; omega), e1]
 generalize g1 ++ [(⟨2, a, 0⟩ : G3)] = g2 at *
 have e3 : wv inp (g2 ++ [⟨1, n + 1, b⟩]) n = (wv inp g a + wv inp g b) % 2 := by rw [wv_old hX (by rw [l2]; omega), f2]
 have f3 : wv inp (g2 ++ [⟨1, n + 1, b⟩]) (n + 2) = (1 - wv inp g a) * wv inp g b := by
  rw [wv_new hX (by rw [l2]; omega), gval_a, e2, k2.v b hb, ba (by unfold Bt at *; omega) vb]
 refine ⟨k2.snoc hX _, ?_, ?_, ?_⟩
 ·rw [e3]; unfold Bt; omega
 ·rw [f3]; unfold Bt
  rcases bt01 va with h1 | h1 <;> rcases bt01 vb with h2 | h2 <;> rw [h1, h2] <;> decide
 ·rw [e3, f3]
  rcases bt01 va with h1 | h1 <;> rcases bt01 vb with h2 | h2 <;> rw [h1, h2] <;> decide
end
structure Rw_ (X : Nat) (inp : List Int) (g0 : List G3) (us : List Int) (w : Nat) : Prop where
 lt : ∀ j, j < w → 0 ≤ gi us j ∧ gi us j < (X : Int) + g0.length
 bt : ∀ j, j < w → Bt (wv inp g0 (gi us j))
structure AdOk (X : Nat) (inp : List Int) (g0 : List G3) (s : Ad) (i : Nat) : Prop where
 kp : Kp X inp g0 s.g
 ol : ∀ j, j < i → 0 ≤ gi s.o j ∧ gi s.o j < (X : Int) + s.g.length
 ob : ∀ j, j < i → Bt (wv inp s.g (gi s.o j))
 cl : 0 < i → 0 ≤ s.c ∧ s.c < (X : Int) + s.g.length
 cb : 0 < i → Bt (wv inp s.g s.c)
theorem AdOk.next {X : Nat} {inp : List Int} {g0 : List G3} {s : Ad} {i : Nat} (h : AdOk X inp g0 s i) (hl : s.o.length = i) {g' : List G3} {z c : Int} (k : Kp X inp s.g g') (hz : 0 ≤ z ∧ z < (X : Int) + g'.length) (hc : 0 ≤ c ∧ c < (X : Int) + g'.length) (bz : Bt (wv inp g' z)) (bc : Bt (wv inp g' c)) :
 AdOk X inp g0 ⟨g', s.o ++ [z], c⟩ (i + 1) ∧ nb (fun j => wv inp g' (gi (s.o ++ [z]) j)) (i + 1) = nb (fun j => wv inp s.g (gi s.o j)) i + wv inp g' z * 2 ^ i := by
 have hk := k.len
 have ha : ∀ j, j < i → gi (s.o ++ [z]) j = gi s.o j := fun j hj => Zbp (by omega)
 have hb : gi (s.o ++ [z]) i = z := gi_lastG hl
 have hv : ∀ j, j < i → wv inp g' (gi s.o j) = wv inp s.g (gi s.o j) := fun j hj => k.v _ (h.ol j hj)
 refine ⟨⟨h.kp.trans k, fun j hj => ?_, fun j hj => ?_, fun _ => hc, fun _ => bc⟩, ?_⟩
 ·rcases Nat.lt_or_ge j i with h1 | h1
  ·dsimp only; rw [ha j h1]; have := h.ol j h1; omega
  ·obtain rfl : j = i := by omega
   dsimp only; rw [hb]; exact hz
 ·rcases Nat.lt_or_ge j i with h1 | h1
  ·dsimp only; rw [ha j h1, hv j h1]; exact h.ob j h1
  ·obtain rfl : j = i := by omega
   dsimp only; rw [hb]; exact bz
 ·rw [nb, hb, Zbn i (g := fun j => wv inp s.g (gi s.o j)) (fun j hj => by rw [ha j hj, hv j hj])]
theorem subS_v {X : Nat} {inp : List Int} (hX : inp.length = X) {g0 : List G3} {us vs : List Int} {w : Nat} (hu : Rw_ X inp g0 us w) (hv : Rw_ X inp g0 vs w) :
 ∀ i, i ≤ w → AdOk X inp g0 (subS X g0 us vs i) i ∧ (0 < i → nb (fun j => wv inp (subS X g0 us vs i).g (gi (subS X g0 us vs i).o j)) i - wv inp (subS X g0 us vs i).g (subS X g0 us vs i).c * 2 ^ i = nb (fun j => wv inp g0 (gi us j)) i - nb (fun j => wv inp g0 (gi vs j)) i) := by
 intro i
 induction i with
 | zero => intro _; exact ⟨⟨Kp.refl _ _ _, fun j hj => by omega, fun j hj => by omega, fun h => by omega, fun h => by omega⟩, fun h => by omega⟩
 | succ i ih =>
  intro hi
  obtain ⟨h1, h2⟩ := ih (by omega)
  have hl := subS_o X g0 us vs i
  have hk := h1.kp.len
  have la := hu.lt i (by omega)
  have lb := hv.lt i (by omega)
  have ea := h1.kp.v _ la
  have eb := h1.kp.v _ lb
  have ba' := hu.bt i (by omega)
  have bb' := hv.bt i (by omega)
  rw [subS]
  generalize subS X g0 us vs i = s at *
  unfold subStep
  by_cases h0 : i = 0
  ·subst h0
   rw [if_pos rfl]
   obtain ⟨k, e0, e1, e2⟩ := sub3 hX (g := s.g) (a := gi us 0) (b := gi vs 0) (by omega) (by omega) (by rw [ea]; exact ba') (by rw [eb]; exact bb') _ rfl
   rw [ea, eb] at e2
   have hl2 : (s.g ++ [(⟨0, gi us 0, gi vs 0⟩ : G3)] ++ [(⟨2, gi us 0, 0⟩ : G3)] ++ [(⟨1, (X : Int) + s.g.length + 1, gi vs 0⟩ : G3)]).length = s.g.length + 3 := by simp
   obtain ⟨a1, a2⟩ := h1.next hl k (z := (X : Int) + s.g.length) (c := (X : Int) + s.g.length + 2) (by omega) (by omega) e0 e1
   refine ⟨a1, fun _ => ?_⟩
   dsimp only
   rw [a2]
   simp only [nb]
   omega
  ·rw [if_neg h0]
   have hc := h1.cl (by omega)
   have bc := h1.cb (by omega)
   obtain ⟨k, e0, e1, e2⟩ := sub6 hX (g := s.g) (a := gi us i) (b := gi vs i) (c := s.c) (by omega) (by omega) (by omega) (by rw [ea]; exact ba') (by rw [eb]; exact bb') bc _ rfl
   rw [ea, eb] at e2
   generalize hg' : s.g ++ [(⟨0, gi us i, s.c⟩ : G3)] ++ [(⟨0, gi vs i, s.c⟩ : G3)] ++ [(⟨0, (X : Int) + s.g.length, gi vs i⟩ : G3)] ++ [(⟨2, (X : Int) + s.g.length, 0⟩ : G3)] ++ [(⟨1, (X : Int) + s.g.length + 3, (X : Int) + s.g.length + 1⟩ : G3)] ++ [(⟨0, (X : Int) + s.g.length + 4, s.c⟩ : G3)] = g' at *
   have hl2 : g'.length = s.g.length + 6 := by rw [← hg']; simp
   obtain ⟨a1, a2⟩ := h1.next hl k (z := (X : Int) + s.g.length + 2) (c := (X : Int) + s.g.length + 5) (by omega) (by omega) e0 e1
   refine ⟨a1, fun _ => ?_⟩
   dsimp only
   have h3 := h2 (by omega)
   rw [a2, nb, nb, Int.pow_succ]
   generalize wv inp g0 (gi us i) = a at *
   generalize wv inp g0 (gi vs i) = b at *
   generalize wv inp s.g s.c = c at *
   generalize wv inp g' ((X : Int) + s.g.length + 2) = d at *
   generalize wv inp g' ((X : Int) + s.g.length + 5) = r at *
   generalize (2 : Int) ^ i = P at *
   have h4 : d * P = (2 * r + (a - b - c)) * P := by rw [show d = 2 * r + (a - b - c) by omega]
   rw [Int.add_mul, Int.sub_mul, Int.sub_mul, Int.mul_assoc] at h4
   rw [Int.mul_comm P 2, Int.mul_left_comm]
   omega
theorem chs_v {X : Nat} {inp : List Int} (hX : inp.length = X) {g0 : List G3} {us vs : List Int} {s : Int} {w : Nat} (hs : 0 ≤ s ∧ s < (X : Int) + g0.length) (bs : Bt (wv inp g0 s)) (hu : Rw_ X inp g0 us w) (hv : Rw_ X inp g0 vs w) :
 ∀ i, i ≤ w → Kp X inp g0 (chs X g0 s us vs i).g ∧ ∀ j, j < i → (0 ≤ gi (chs X g0 s us vs i).o j ∧ gi (chs X g0 s us vs i).o j < (X : Int) + (chs X g0 s us vs i).g.length) ∧ wv inp (chs X g0 s us vs i).g (gi (chs X g0 s us vs i).o j) = if wv inp g0 s = 1 then wv inp g0 (gi us j) else wv inp g0 (gi vs j) := by
 intro i
 induction i with
 | zero => intro _; exact ⟨Kp.refl _ _ _, fun j hj => by omega⟩
 | succ i ih =>
  intro hi
  obtain ⟨h1, h2⟩ := ih (by omega)
  have hl := chs_o X g0 s us vs i
  have hk := h1.len
  have la := hu.lt i (by omega)
  have lb := hv.lt i (by omega)
  have ea := h1.v _ la
  have eb := h1.v _ lb
  have es := h1.v _ hs
  have ba' := hu.bt i (by omega)
  have bb' := hv.bt i (by omega)
  rw [chs]
  generalize chs X g0 s us vs i = t at *
  dsimp only
  have k1 := (Kp.refl X inp t.g).snoc hX ⟨0, gi us i, gi vs i⟩
  have l1 : (t.g ++ [(⟨0, gi us i, gi vs i⟩ : G3)]).length = t.g.length + 1 := by simp
  have e1 : wv inp (t.g ++ [⟨0, gi us i, gi vs i⟩]) ((X : Int) + t.g.length) = (wv inp g0 (gi us i) + wv inp g0 (gi vs i)) % 2 := by
   rw [wv_new hX rfl, gval_x, ea, eb, bx ba' bb']
  generalize t.g ++ [(⟨0, gi us i, gi vs i⟩ : G3)] = g1 at *
  have k2 := k1.snoc hX ⟨1, s, (X : Int) + t.g.length⟩
  have l2 : (g1 ++ [(⟨1, s, (X : Int) + t.g.length⟩ : G3)]).length = t.g.length + 2 := by simp [l1]
  have e2 : wv inp (g1 ++ [⟨1, s, (X : Int) + t.g.length⟩]) ((X : Int) + t.g.length + 1) = wv inp g0 s * ((wv inp g0 (gi us i) + wv inp g0 (gi vs i)) % 2) := by
   rw [wv_new hX (by rw [l1]; omega), gval_a, e1, k1.v s (by omega), es, ba bs (by unfold Bt; omega)]
  generalize g1 ++ [(⟨1, s, (X : Int) + t.g.length⟩ : G3)] = g2 at *
  have k3 := k2.snoc hX ⟨0, (X : Int) + t.g.length + 1, gi vs i⟩
  have l3 : (g2 ++ [(⟨0, (X : Int) + t.g.length + 1, gi vs i⟩ : G3)]).length = t.g.length + 3 := by simp [l2]
  have e3 : wv inp (g2 ++ [⟨0, (X : Int) + t.g.length + 1, gi vs i⟩]) ((X : Int) + t.g.length + 2) = if wv inp g0 s = 1 then wv inp g0 (gi us i) else wv inp g0 (gi vs i) := by
   rw [wv_new hX (by rw [l2]; omega), gval_x, e2, k2.v _ (by omega), eb]
   rcases bt01 bs with a | a <;> rcases bt01 ba' with b | b <;> rcases bt01 bb' with c | c <;> rw [a, b, c] <;> decide
  generalize g2 ++ [(⟨0, (X : Int) + t.g.length + 1, gi vs i⟩ : G3)] = g3 at *
  refine ⟨h1.trans k3, fun j hj => ?_⟩
  rcases Nat.lt_or_ge j i with h | h
  ·rw [Zbp (by omega)]
   have h3 := h2 j h
   exact ⟨by omega, by rw [k3.v _ h3.1]; exact h3.2⟩
  ·obtain rfl : j = i := by omega
   rw [gi_lastG hl]
   exact ⟨by omega, e3⟩
theorem gi_spn' (a : Int) {n j : Nat} (h : j < n) : gi (spn a n) j = a + j := by unfold spn gi; simp [h]
theorem Rw_.up {X : Nat} {inp : List Int} {g g' : List G3} {us : List Int} {w : Nat} (h : Rw_ X inp g us w) (k : Kp X inp g g') : Rw_ X inp g' us w :=
 ⟨fun j hj => by have := h.lt j hj; have := k.len; omega, fun j hj => by rw [k.v _ (h.lt j hj)]; exact h.bt j hj⟩
theorem Rw_.upn {X : Nat} {inp : List Int} {g g' : List G3} {us : List Int} {w : Nat} (h : Rw_ X inp g us w) (k : Kp X inp g g') : nb (fun j => wv inp g' (gi us j)) w = nb (fun j => wv inp g (gi us j)) w :=
 Zbn w fun j hj => k.v _ (h.lt j hj)
theorem sel_v {X : Nat} {inp : List Int} (hX : inp.length = X) {g0 : List G3} {us vs : List Int} {w : Nat} (hw : 1 ≤ w) (hu : Rw_ X inp g0 us w) (hv : Rw_ X inp g0 vs w) (S : Ad) (hS : subS X g0 us vs w = S) (C : Go2) (hC : chs X S.g S.c us vs w = C) (D : Go2) (hD : chs X C.g S.c vs us w = D) :
 Kp X inp g0 D.g ∧ Rw_ X inp D.g C.o w ∧ Rw_ X inp D.g D.o w ∧
 nb (fun j => wv inp D.g (gi C.o j)) w = min (nb (fun j => wv inp g0 (gi us j)) w) (nb (fun j => wv inp g0 (gi vs j)) w) ∧
 nb (fun j => wv inp D.g (gi D.o j)) w = max (nb (fun j => wv inp g0 (gi us j)) w) (nb (fun j => wv inp g0 (gi vs j)) w) := by
 obtain ⟨h1, h2⟩ := subS_v hX hu hv w lR
 rw [hS] at h1 h2
 have h2 := h2 (by omega)
 have ha := nb_bd w (fun j hj => hu.bt j hj)
 have hb := nb_bd w (fun j hj => hv.bt j hj)
 have hd := nb_bd w (fun j hj => h1.ob j hj)
 have hc := h1.cl (by omega)
 have bc := h1.cb (by omega)
 have uu := hu.up h1.kp
 have uv := hv.up h1.kp
 have nu := hu.upn h1.kp
 have nv := hv.upn h1.kp
 obtain ⟨kC, eC⟩ := chs_v hX hc bc uu uv w lR
 rw [hC] at kC eC
 have rC : Rw_ X inp C.g C.o w := ⟨fun j hj => (eC j hj).1, fun j hj => by rw [(eC j hj).2]; split; exact uu.bt j hj; exact uv.bt j hj⟩
 have hc2 : 0 ≤ S.c ∧ S.c < (X : Int) + C.g.length := by have := kC.len; omega
 have vc2 := kC.v _ hc
 have bc2 : Bt (wv inp C.g S.c) := by rw [vc2]; exact bc
 obtain ⟨kD, eD⟩ := chs_v hX hc2 bc2 (uv.up kC) (uu.up kC) w lR
 rw [hD] at kD eD
 have rD : Rw_ X inp D.g D.o w := ⟨fun j hj => (eD j hj).1, fun j hj => by rw [(eD j hj).2]; split; exact (uv.up kC).bt j hj; exact (uu.up kC).bt j hj⟩
 refine ⟨(h1.kp.trans kC).trans kD, rC.up kD, rD, ?_, ?_⟩
 ·rw [rC.upn kD, Zbn w (fun j hj => (eC j hj).2)]
  rcases bt01 bc with e | e
  ·rw [e] at h2
   simp only [e, show ¬ ((0 : Int) = 1) by decide, if_false]
   rw [nv]; omega
  ·rw [e] at h2
   simp only [e, if_true]
   rw [nu]; omega
 ·rw [Zbn w (fun j hj => (eD j hj).2)]
  rcases bt01 bc with e | e
  ·rw [e] at h2
   simp only [vc2, e, show ¬ ((0 : Int) = 1) by decide, if_false]
   rw [uu.upn kC, nu]; omega
  ·rw [e] at h2
   simp only [vc2, e, if_true]
   rw [uv.upn kC, nv]; omega
structure NtV (X : Nat) (inp : List Int) (N W : Nat) (s : List G3 × List (List Int)) (x : List Int) : Prop where
 kp : Kp X inp [] s.1
 len : s.2.length = N
 xl : x.length = N
 row : ∀ j, j < N → Rw_ X inp s.1 (gl s.2 j) W ∧ nb (fun i => wv inp s.1 (gi (gl s.2 j) i)) W = gi x j
theorem stepN_v {X : Nat} {inp : List Int} (hX : inp.length = X) {N W : Nat} (hW : 1 ≤ W) {s : List G3 × List (List Int)} {x : List Int} {p : Sp} (h : NtV X inp N W s x) (h0 : 0 ≤ p.l) (h1 : p.l < p.h) (h2 : p.h < N) : NtV X inp N W (stepN X W s p) (swp p x) := by
 obtain ⟨rl, nl⟩ := h.row p.l.toNat (by omega)
 obtain ⟨rh, nh⟩ := h.row p.h.toNat (by omega)
 obtain ⟨k, r1, r2, n1, n2⟩ := sel_v hX hW rl rh _ rfl _ rfl _ rfl
 have hl := h.len
 have hx := h.xl
 refine ⟨h.kp.trans k, ?_, by rw [swp_len]; exact hx, fun j hj => ?_⟩
 ·show ((s.2.set _ _).set _ _).length = N
  simp [hl]
 ·show Rw_ X inp _ (gl ((s.2.set _ _).set _ _) j) W ∧ nb (fun i => wv inp _ (gi (gl ((s.2.set _ _).set _ _) j) i)) W = gi (swp p x) j
  rw [gi_swp h0 h1 (by omega), gl_set _ (by simp; omega), gl_set _ (by omega)]
  by_cases e2 : p.h.toNat = j
  ·rw [if_pos e2, if_neg (by omega), if_pos e2.symm]
   exact ⟨r2, n2.trans (by rw [nl, nh])⟩
  ·rw [if_neg e2]
   by_cases e1 : p.l.toNat = j
   ·rw [if_pos e1, if_pos e1.symm]
    exact ⟨r1, n1.trans (by rw [nl, nh])⟩
   ·rw [if_neg e1, if_neg (fun e => e1 e.symm), if_neg (fun e => e2 e.symm)]
    obtain ⟨rj, nj⟩ := h.row j hj
    exact ⟨rj.up k, (rj.upn k).trans nj⟩
theorem netN_v {X : Nat} {inp : List Int} (hX : inp.length = X) {N W : Nat} (hW : 1 ≤ W) {L : List (List Int)} {ls : List Sp} {x : List Int} (h : NtV X inp N W ([], L) x) (hb : anyBad N ls = false) : ∀ k, k ≤ ls.length → NtV X inp N W (netN X W L ls k) (srt ls x k) := by
 intro k
 induction k with
 | zero => intro _; exact h
 | succ k ih =>
  intro hk
  have ho := ok_at hb (j := k) (by omega)
  exact stepN_v hX hW (ih (by omega)) ho.1 ho.2.1 ho.2.2
theorem linesN_v {N W X : Nat} {inp x : List Int} (hX : inp.length = X) (hXe : X = N * W) (hb : ∀ i, i < X → Bt (gi inp i)) (hx : x.length = N) (hv : ∀ j, j < N → nb (fun i => gi inp (j * W + i)) W = gi x j) : NtV X inp N W ([], linesN N W) x := by
 refine ⟨Kp.refl _ _ _, Zbv _ _, hx, fun j hj => ?_⟩
 have hg : gl (linesN N W) j = spn ((j : Int) * W) W := by unfold gl linesN; simp [hj]
 rw [hg]
 have hm : j * W + W ≤ N * W := by rw [← Nat.succ_mul]; exact Nat.mul_le_mul_right _ hj
 have hs : ∀ i, i < W → gi (spn ((j : Int) * W) W) i = ((j * W + i : Nat) : Int) := fun i hi => by rw [gi_spn' _ hi]; simp
 have hw : ∀ i, i < W → wv inp [] (gi (spn ((j : Int) * W) W) i) = gi inp (j * W + i) := fun i hi => by rw [hs i hi, wv_nil, Int.toNat_natCast]
 refine ⟨⟨fun i hi => by rw [hs i hi]; simp only [List.length_nil]; omega, fun i hi => by rw [hw i hi]; exact hb _ (by omega)⟩, ?_⟩
 rw [Zbn W (fun i hi => hw i hi), hv j hj]
theorem flat_at {W : Nat} : ∀ {L : List (List Int)} (hr : ∀ j, j < L.length → (gl L j).length = W) {j i : Nat} (hj : j < L.length) (hi : i < W), gi L.flatten (j * W + i) = gi (gl L j) i := by
 intro L
 induction L with
 | nil => intro _ j i hj; simp at hj
 | cons u L ih =>
  intro hr j i hj hi
  have hu : u.length = W := hr 0 (by simp)
  rw [List.flatten_cons]
  cases j with
  | zero =>
   rw [Nat.zero_mul, Nat.zero_add, Zbp (by omega)]; rfl
  | succ j =>
   have := ih (fun q hq => hr (q + 1) (by simpa using hq)) (j := j) (i := i) (by simpa using hj) hi
   rw [show (j + 1) * W + i = u.length + (j * W + i) by rw [hu, Nat.succ_mul]; omega]
   unfold gi at this ⊢
   rw [List.getD_eq_getElem?_getD, List.getElem?_append_right (by omega), Nat.add_sub_cancel_left, ← List.getD_eq_getElem?_getD]
   exact this
theorem net_law {q : Int} {ls : List Sp} {wd : Int} {c : Ci} (h : netF q ls wd = some c) : ∃ N W : Nat, q = N ∧ wd = W ∧ 1 ≤ N ∧ N ≤ 12 ∧ 1 ≤ W ∧ W ≤ 4 ∧ N * W ≤ 20 ∧ netB q ls = true ∧ c.i0 = ((N * W : Nat) : Int) ∧ c.i1 = 0 ∧ circB c.i0 c.i1 c.gs c.os = true ∧ c.os.length = N * W ∧
 ∀ inp x : List Int, inp.length = N * W → (∀ i, i < N * W → Bt (gi inp i)) → x.length = N → (∀ j, j < N → nb (fun i => gi inp (j * W + i)) W = gi x j) →
  ∀ j, j < N → numN (((pick (vals c.gs inp c.gs.length) c.os).drop (j * W)).take W) = gi (srt ls x ls.length) j := by
 unfold netF at h
 split at h
 ·rename_i h1
  split at h
  ·rename_i h2
   injection h with h
   rw [Bool.and_eq_true, Bool.and_eq_true] at h1
   obtain ⟨hn, hw, hp⟩ := h1
   have hn' := hn
   unfold netB at hn'
   rw [Bool.and_eq_true, Bool.and_eq_true] at hn'
   obtain ⟨hq, hl, hbad⟩ := hn'
   have hq := inB_iff.1 hq
   have hw := inB_iff.1 hw
   have hp := of_decide_eq_true hp
   obtain ⟨N, rfl⟩ := Int.eq_ofNat_of_zero_le (show 0 ≤ q by omega)
   obtain ⟨W, rfl⟩ := Int.eq_ofNat_of_zero_le (show 0 ≤ wd by omega)
   have hbad : anyBad N ls = false := by simpa using hbad
   simp only [Int.toNat_natCast] at h h2
   have hX : ((N : Int) * W + 0) = ((N * W : Nat) : Int) := by simp
   rw [hX] at h h2
   have hok := netN_ok (X := ((N * W : Nat) : Int)) (W := W) (Zbv N W) (fun j hj => linesN_row hj) hbad ls.length lR
   have hfl : ∀ L : List (List Int), (∀ j, j < L.length → (gl L j).length = W) → L.flatten.length = L.length * W := by
    intro L
    induction L with
    | nil => intro _; simp
    | cons u L ih =>
     intro hr
     have hu : u.length = W := hr 0 (by simp)
     rw [List.flatten_cons, List.length_append, ih (fun q hq => hr (q + 1) (by simpa using hq)), hu, List.length_cons, Nat.succ_mul]; omega
   have hol : (netN ((N * W : Nat) : Int) W (linesN N W) ls ls.length).2.flatten.length = N * W := by
    rw [hfl _ (fun j hj => hok.row j (by rw [hok.len] at hj; exact hj)), hok.len]
   subst h
   refine ⟨N, W, rfl, rfl, by omega, by omega, by omega, by omega, by exact_mod_cast hp, hn, by simp, rfl, h2, hol, fun inp x hi hb hx hv j hj => ?_⟩
   have hV := netN_v hi (by omega) (linesN_v hi rfl hb hx hv) hbad ls.length lR
   obtain ⟨rj, nj⟩ := hV.row j hj
   rw [← nj]
   generalize netN ((N * W : Nat) : Int) W (linesN N W) ls ls.length = s at *
   dsimp only
   have hm : j * W + W ≤ N * W := by rw [← Nat.succ_mul]; exact Nat.mul_le_mul_right _ hj
   have hlen : (((pick (vals s.1 inp s.1.length) s.2.flatten).drop (j * W)).take W).length = W := by
    rw [List.length_take, List.length_drop, pick_len]; omega
   rw [numN_nb', hlen]
   refine Zbn W fun i hi2 => ?_
   have hfa := flat_at (W := W) (L := s.2) (fun q hq => hok.row q (by rw [hok.len] at hq; exact hq)) (j := j) (i := i) (by rw [hok.len]; exact hj) hi2
   have hgi : gi (((pick (vals s.1 inp s.1.length) s.2.flatten).drop (j * W)).take W) i = gi (pick (vals s.1 inp s.1.length) s.2.flatten) (j * W + i) := by
    unfold gi
    rw [List.getD_eq_getElem?_getD, List.getD_eq_getElem?_getD, List.getElem?_take_of_lt hi2, List.getElem?_drop]
   rw [hgi]
   show gi (pick (vals s.1 inp s.1.length) s.2.flatten) (j * W + i) = wv inp s.1 (gi (gl s.2 j) i)
   rw [← hfa]
   unfold pick wv
   rw [gi_mapS _ (by omega)]
  ·cases h
 ·cases h
def anyK (n : Nat) (ls : List Sp) (k j : Nat) : Bool := (List.range k).any fun q => didB ls (bitsN q n) j
theorem anyK_zero (n : Nat) (ls : List Sp) (j : Nat) : anyK n ls 0 j = false := rfl
theorem anyK_succ (n : Nat) (ls : List Sp) (k j : Nat) : anyK n ls (k + 1) j = (anyK n ls k j || didB ls (bitsN k n) j) := by simp [anyK, List.range_succ]
theorem anyK_all (n : Nat) (ls : List Sp) (j : Nat) : anyK n ls (2 ^ n) j = usedB n ls j := rfl
theorem srt_yes {ls : List Sp} {x : List Int} {k : Nat} (h : didB ls x k = true) : srt ls x (k + 1) = ((srt ls x k).set (ss ls k).l.toNat (gi (srt ls x k) (ss ls k).h.toNat)).set (ss ls k).h.toNat (gi (srt ls x k) (ss ls k).l.toNat) := by
 unfold didB at h
 have h := of_decide_eq_true h
 rw [srt, swp, if_pos h]
theorem srt_no {ls : List Sp} {x : List Int} {k : Nat} (h : didB ls x k = false) : srt ls x (k + 1) = srt ls x k := by
 unfold didB at h
 have h := of_decide_eq_false h
 rw [srt, swp, if_neg h]
theorem idles_mem (f : Nat → Bool) : ∀ n k : Nat, (k : Int) ∈ idles f n ↔ k < n ∧ f k = false := by
 intro n
 induction n with
 | zero => intro k; simp [idles]
 | succ n ih =>
  intro k
  rw [idles]
  cases hf : f n with
  | true =>
   rw [if_pos rfl, ih]
   constructor
   ·rintro ⟨h1, h2⟩; exact ⟨by omega, h2⟩
   ·rintro ⟨h1, h2⟩
    rcases Nat.lt_or_ge k n with h3 | h3
    ·exact ⟨h3, h2⟩
    ·obtain rfl : k = n := by omega
     rw [hf] at h2; cases h2
  | false =>
   rw [if_neg (by simp), List.mem_append, ih]
   simp only [List.mem_cons, List.not_mem_nil, or_false]
   constructor
   ·rintro (⟨h1, h2⟩ | h1)
    ·exact ⟨by omega, h2⟩
    ·obtain rfl : k = n := by omega
     exact ⟨by omega, hf⟩
   ·rintro ⟨h1, h2⟩
    rcases Nat.lt_or_ge k n with h3 | h3
    ·exact .inl ⟨h3, h2⟩
    ·exact .inr (by omega)
theorem idles_len (f : Nat → Bool) (n : Nat) : (idles f n).length ≤ n := by
 induction n with
 | zero => exact Nat.le_refl _
 | succ n ih =>
  rw [idles]
  split
  ·omega
  ·rw [List.length_append, show ([(n : Int)] : List Int).length = 1 from rfl]; omega
theorem kept_len (ls : List Sp) (f : Nat → Bool) (n : Nat) : (kept ls f n).length ≤ n := by have := kept_idles ls f n; omega
def allK (n : Nat) (ls : List Sp) (k : Nat) : Bool := (List.range k).all fun q => upB (srt ls (bitsN q n) ls.length)
theorem allK_succ (n : Nat) (ls : List Sp) (k : Nat) : allK n ls (k + 1) = (allK n ls k && upB (srt ls (bitsN k n) ls.length)) := by simp [allK, List.range_succ]
theorem allK_all {n : Nat} {ls : List Sp} (h : ∀ k, k < 2 ^ n → upB (srt ls (bitsN k n) ls.length) = true) : allK n ls (2 ^ n) = true := by
 unfold allK
 rw [List.all_eq_true]
 exact fun q hq => h q (List.mem_range.1 hq)
theorem up_all {x : List Int} (h : ∀ j, 0 < j → j < x.length → gi x (j - 1) ≤ gi x j) : upB x = true := upB_iff.2 fun j hj => by
 have := h (j + 1) (by omega) hj
 simpa using this
theorem up_not {x : List Int} {j : Nat} (h0 : 0 < j) (hj : j < x.length) (h : gi x j < gi x (j - 1)) : upB x = false := by
 cases hu : upB x with
 | false => rfl
 | true =>
  exfalso
  have := upB_iff.1 hu (j - 1) (by omega)
  rw [Nat.sub_add_cancel h0] at this
  omega
def inpK (vs : List Nat) (W : Nat) : List Int := (vs.map fun v => bitsN v W).flatten
theorem inpK_snoc (vs : List Nat) (v W : Nat) : inpK (vs ++ [v]) W = inpK vs W ++ bitsN v W := by simp [inpK]
theorem inpK_len (vs : List Nat) (W : Nat) : (inpK vs W).length = vs.length * W := by
 induction vs with
 | nil => simp [inpK]
 | cons v vs ih =>
  have : inpK (v :: vs) W = bitsN v W ++ inpK vs W := rfl
  rw [this, List.length_append, Zat, ih, List.length_cons, Nat.succ_mul]; omega
theorem inpK_bd (vs : List Nat) (W : Nat) : allB 0 1 (inpK vs W) = true := by
 refine allB_iff.2 fun z hz => ?_
 unfold inpK at hz
 rw [List.mem_flatten] at hz
 obtain ⟨l, hl, hz⟩ := hz
 obtain ⟨v, _, rfl⟩ := List.mem_map.1 hl
 exact allB_iff.1 (bitsN_bd v W) z hz
theorem inpK_law {vs : List Nat} {W : Nat} (hv : ∀ v ∈ vs, v < 2 ^ W) : (∀ i, i < vs.length * W → Bt (gi (inpK vs W) i)) ∧ ∀ j, j < vs.length → nb (fun i => gi (inpK vs W) (j * W + i)) W = gi (vs.map Int.ofNat) j := by
 refine ⟨fun i hi => Zbk (inpK_bd vs W) (by rw [inpK_len]; exact hi), fun j hj => ?_⟩
 have hg : ∀ q, (hq : q < vs.length) → gl (vs.map fun v => bitsN v W) q = bitsN vs[q] W := fun q hq => by unfold gl; simp [List.getD_eq_getElem?_getD, hq]
 have hf : ∀ i, i < W → gi (inpK vs W) (j * W + i) = gi (bitsN vs[j] W) i := fun i hi => by
  unfold inpK
  rw [flat_at (W := W) (fun q hq => by rw [hg q (by simpa using hq), Zat]) (by simpa using hj) hi, hg j hj]
 rw [Zbn W hf]
 have h1 := numN_nb' (bitsN vs[j] W)
 rw [Zat, numN_bits' (hv _ (List.getElem_mem hj))] at h1
 rw [← h1]
 unfold gi
 simp [List.getD_eq_getElem?_getD, hj]
attribute [local go_sem] sepAt sepUpon pureAt pureUpon
theorem isNaN_any (x : Int) (w : World) : Calls Try.prog 95 #[.int .i64 x] w fun e w' => e = .returned (.bool false) ∧ w = w' := by
 have h : (x != x) = false := by simp
 go_enter Try.func95, Try.ntmps95
 go_wp2
 go_ret
 exact ⟨rfl, rfl⟩
theorem Less_any (x y : Int) (w : World) : Calls Try.prog 81 #[.int .i64 x, .int .i64 y] w fun e w' => e = .returned (.bool (decide (x < y))) ∧ w = w' := by
 go_enter Try.func81, Try.ntmps81
 go_wp2_with fail
 refine (isNaN_any x _).mono ?_
 rintro e w1 ⟨rfl, rfl⟩
 go_wp2
 go_ret
 exact ⟨rfl, rfl⟩
set_option maxHeartbeats 1600000 in
theorem IsSorted_any (A : Option Addr) (n c : Nat) (xs : List Int) (w : World) (ha : RI w A n xs) (hn : n ≤ 2097152) :
 Calls Try.prog 58 #[.slice A n c] w fun e w' => e = .returned (.bool (upB xs)) ∧ Below w.heap.size w w' := by
 have hl := ha.len
 have hw0 : IntKind.i64.wrap ((n : Int) - 1) = (n : Int) - 1 := by rw [IntKind.wrap_i64] <;> omega
 go_enter Try.func58, Try.ntmps58
 go_wp2
 go_loopw [3] (fun v wr => ∃ k : Nat, k ≤ n ∧ v = .int .i64 ((k : Int) - 1) ∧ Hid (∀ j, k ≤ j → 0 < j → j < n → gi xs (j - 1) ≤ gi xs j) ∧ Below w.heap.size w wr) (fun v _ => (intOf v + 1).toNat)
 case atStart => exact ⟨n, Nat.le_refl _, rfl, zH (fun j h1 _ h2 => by omega), Below.refl _ _⟩
 case round =>
  obtain ⟨k, hk, rfl, hno, hb⟩ := hrel
  clear hw0
  generalize wr = W0 at *
  by_cases hlt : 1 < k
  ·have hki : (0 : Int) < (k : Int) - 1 := by omega
   have hb0 := (ha.below hb lR)
   obtain ⟨q, o, hA, hq, hc⟩ := hb0.2 (by omega)
   have e1 := hc (k - 1) (by omega)
   have e2 := hc (k - 2) (by omega)
   have i1 : ((k : Int) - 1) = ((k - 1 : Nat) : Int) := by omega
   have i2 : IntKind.i64.wrap (((k - 1 : Nat) : Int) - 1) = ((k - 2 : Nat) : Int) := by rw [IntKind.wrap_i64] <;> omega
   have hx : Hid (gi xs (k - 1) < gi xs (k - 1 - 1) ∨ gi xs (k - 1 - 1) ≤ gi xs (k - 1)) := zH (by omega)
   have hkk : k - 1 - 1 = k - 2 := by omega
   rw [hkk] at hx
   have hup : gi xs (k - 1) < gi xs (k - 2) → upB xs = false := fun h => up_not (x := xs) (j := k - 1) (by omega) (by omega) (by rw [hkk]; exact h)
   obtain ⟨a, haa⟩ := lT (gi xs (k - 1))
   obtain ⟨b, hbb⟩ := lT (gi xs (k - 2))
   rw [haa.out] at e1 hx hup
   rw [hbb.out] at e2 hx hup
   obtain ⟨K, hK⟩ := lT (k - 1)
   obtain ⟨J, hJ⟩ := lT (k - 2)
   rw [hK.out] at e1 i1 i2
   rw [hJ.out] at e2 i2
   rw [i1] at hki
   rw [i1]
   have hKn : K < n := by have := hK.out; omega
   have hJn : J < n := by have := hJ.out; omega
   have hKi : (K : Int) < (n : Int) := by omega
   have hJi : (J : Int) < (n : Int) := by omega
   have hK0 : (0 : Int) ≤ (K : Int) := by omega
   have hJ0 : (0 : Int) ≤ (J : Int) := by omega
   have hup := zH hup
   subst hA
   clear i1 hkk hc hb0 ha
   go_wp2_with fail
   go_wp2_with fail
   refine Zau (10) [(⟨q, o + K, none⟩, .int .i64 a), (⟨q, o + J, none⟩, .int .i64 b)] [(9, [], [])] [9] [(9, Res.plain (.bool (decide (a < b))))] (by kernel_rfl) (by kernel_rfl) (by kernel_rfl) (by simp only [cD, cC, and_true]; repeat (any_goals (apply And.intro)); all_goals (first | assumption | go_simp)) ?_
   simp only [List.take_succ_cons, List.take_zero, List.drop_succ_cons, List.drop_zero, List.take_nil, List.drop_nil, List.take, List.drop]
   repeat (first
    | ((first
     | ((with_reducible refine Zam ?_ ?_ ?_)
        ·exact rfl
        ·exact rfl)
     | ((with_reducible refine Zar ?_ ?_ ?_)
        ·exact rfl
        ·exact Zab rfl rfl rfl rfl))
       intro K hK
       apply Exists.intro
       refine ⟨fun w3 hw3 => ?_, ?_⟩
       ·have hcs := hw3
        simp only [cD, cC, and_true] at hcs
        clear hw3
        go_simp
        first | done | exact ⟨rfl, rfl⟩ | rfl
       refine hK _ ?_
       clear hK K
       try simp only [pA, pB, sA, sB, sC])
    | ((with_reducible refine Zaq ?_ ?_ ?_)
       ·exact rfl
       ·exact Zah rfl rfl rfl rfl
       simp only [pA, pB, sA, sB, sC]))
   focus
    (with_reducible refine mem_plain (.bool (decide (a < b))) ?_ ?_ ?_ ?_ (hw := ?_))
    ·exact rfl
    ·exact rfl
    ·intro w3 hw3 hc3 hp3
     have hcs := hc3
     simp only [cD, cC, and_true] at hcs
     (go_simp; refine (Less_any a b _).mono ?_; rintro e w4 ⟨rfl, rfl⟩; exact retPost.mk_ (postPlain.mk_ (Below.refl _ _)))
    rotate_left
    ·first | exact Zaj rfl | exact Zab rfl rfl rfl rfl
    try simp only [pA, pB, sA, sB, sC]
   repeat (first
    | ((first
     | ((with_reducible refine Zam ?_ ?_ ?_)
        ·exact rfl
        ·exact rfl)
     | ((with_reducible refine Zar ?_ ?_ ?_)
        ·exact rfl
        ·exact Zab rfl rfl rfl rfl))
       intro K hK
       apply Exists.intro
       refine ⟨fun w3 hw3 => ?_, ?_⟩
       ·have hcs := hw3
        simp only [cD, cC, and_true] at hcs
        clear hw3
        go_simp
        first | done | exact ⟨rfl, rfl⟩ | rfl
       refine hK _ ?_
       clear hK K
       try simp only [pA, pB, sA, sB, sC])
    | ((with_reducible refine Zaq ?_ ?_ ?_)
       ·exact rfl
       ·exact Zah rfl rfl rfl rfl
       simp only [pA, pB, sA, sB, sC]))
   refine Zbj ?_
   intro wy hwy hcy hfin hap
   have bwy := Zbh hwy
   have hby := hb.trans (bwy.mono hb.size)
   clear hfin hap hcy hwy bwy e1 e2 hb
   rcases hx.out with h | h
   ·have hd : decide (a < b) = true := decide_eq_true h
    have HU := zH (hup.out h)
    clear hup hx
    go_wp2
    go_ret
    exact ⟨by rw [HU.out]; rfl, hby⟩
   ·have hd : decide (a < b) = false := decide_eq_false (by omega)
    have hno2 : Hid (∀ j, K ≤ j → 0 < j → j < n → gi xs (j - 1) ≤ gi xs j) := zH (fun j h1 h2 h3 => by
     have := hK.out
     rcases Nat.lt_or_ge j k with h4 | h4
     ·obtain rfl : j = k - 1 := by omega
      rw [show k - 1 - 1 = k - 2 by omega, haa.out, hbb.out]; exact h
     ·exact hno.out j h4 h2 h3)
    have hw1 : IntKind.i64.wrap ((K : Int) - 1) = (K : Int) - 1 := by rw [IntKind.wrap_i64] <;> omega
    have hnl : ¬ a < b := by omega
    clear hup hx h i2
    go_wp2
    go_roundw
    case rel => exact ⟨K, by omega, rfl, hno2, hby⟩
    case measure => simp [intOf] <;> omega
  ·have hki : ¬ (0 : Int) < (k : Int) - 1 := by omega
   have HU : Hid (upB xs = true) := zH (up_all (fun j h1 h2 => hno.out j (by omega) h1 (by omega)))
   go_wp2
   go_ret
   exact ⟨by rw [HU.out]; rfl, hb⟩
end Go.Proofs.Ytjeojnfpeppclaa
