/- The product's gates and outs; slices of rows; rows beside makers. No program in sight. -/
import Derived.Test.YtgmcedfpnnmkeaaGd
namespace Go.Proofs.Ytgmcedfpnnmkeaa
open Go.RowKit
set_option linter.unusedVariables false
set_option linter.unusedSimpArgs false

/-- What is added at place i of a product: the rest of the sum so far. -/
def prodRest (X : Int) (i : Nat) (s : Go2) : List Int := if i = 1 then s.o.drop 1 ++ [X + s.g.length + 1] else s.o.drop i
def prodG1 (X : Int) (i : Nat) (s : Go2) : List G3 := if i = 1 then s.g ++ [⟨3, 0, 0⟩] ++ [⟨2, X + s.g.length, 0⟩] else s.g
/-- One place of a product of n bits. -/
def prodStep (X : Int) (us vs : List Int) (n i : Nat) (s : Go2) : Go2 :=
  if i = 0 then rowG X (gi vs i) us s.g n
  else ⟨(addS X (rowG X (gi vs i) us (prodG1 X i s) n).g (prodRest X i s) (rowG X (gi vs i) us (prodG1 X i s) n).o n).g,
    s.o.take i ++ (addS X (rowG X (gi vs i) us (prodG1 X i s) n).g (prodRest X i s) (rowG X (gi vs i) us (prodG1 X i s) n).o n).o ++ [(addS X (rowG X (gi vs i) us (prodG1 X i s) n).g (prodRest X i s) (rowG X (gi vs i) us (prodG1 X i s) n).o n).c]⟩
def prodS (X : Int) (g0 : List G3) (us vs : List Int) (n : Nat) : Nat → Go2
  | 0 => ⟨g0, []⟩
  | i + 1 => prodStep X us vs n i (prodS X g0 us vs n i)
theorem prodStep_g (X : Int) (us vs : List Int) (n i : Nat) (s : Go2) : (prodStep X us vs n i s).g.length ≤ s.g.length + 6 * n + 2 := by
  unfold prodStep
  split
  · rw [row_g]; omega
  · have h1 := addS_g X (rowG X (gi vs i) us (prodG1 X i s) n).g (prodRest X i s) (rowG X (gi vs i) us (prodG1 X i s) n).o n
    have h2 := row_g X (gi vs i) us (prodG1 X i s) n
    have h3 : (prodG1 X i s).length ≤ s.g.length + 2 := by unfold prodG1; split <;> simp
    dsimp only; omega
theorem prodS_g (X : Int) (g0 : List G3) (us vs : List Int) (n : Nat) (hn : n ≤ 8) (i : Nat) : (prodS X g0 us vs n i).g.length ≤ g0.length + 50 * i := by
  induction i with
  | zero => simp [prodS]
  | succ i ih => have := prodStep_g X us vs n i (prodS X g0 us vs n i); simp only [prodS]; omega
theorem prodS_o (X : Int) (g0 : List G3) (us vs : List Int) (n : Nat) (hn : 1 ≤ n) (i : Nat) : (prodS X g0 us vs n (i + 1)).o.length = if i = 0 then n else i + n + 1 := by
  induction i with
  | zero => simp [prodS, prodStep, row_o]
  | succ i ih =>
    rw [prodS, prodStep, if_neg (by omega), if_neg (by omega)]
    simp only [List.length_append, List.length_take, addS_o, List.length_cons, List.length_nil]
    rw [ih]; split <;> omega
theorem prodRest_len {X : Int} {i n : Nat} {s : Go2} (hi : 1 ≤ i) (hn : i < n) (h : s.o.length = if i = 1 then n else i - 1 + n + 1) : (prodRest X i s).length = n := by
  unfold prodRest
  split
  · rename_i h1; rw [if_pos h1] at h; simp [h]; omega
  · rename_i h1; rw [if_neg h1] at h; simp [h]; omega
def prodG (w : Nat) : Go2 := prodS (w + w) [] (spn 0 w) (spn w w) w w
theorem prodG_ok : ∀ w : Nat, 1 ≤ w → w ≤ 5 → circB (w : Nat) (w : Nat) (prodG w).g (prodG w).o = true := by
  intro w h1 h2
  rcases (show w = 1 ∨ w = 2 ∨ w = 3 ∨ w = 4 ∨ w = 5 by omega) with rfl | rfl | rfl | rfl | rfl <;> kernel_rfl

theorem RI.drop_ {w : World} {g o n k : Nat} {xs : List Int} (h : RI w (some ⟨g, o, none⟩) n xs) (hk : k ≤ n) : RI w (some ⟨g, o + k, none⟩) (n - k) (xs.drop k) := by
  refine ⟨by simp [h.len], fun hn => ?_⟩
  obtain ⟨b, q, hA, hlt, hc⟩ := h.2 (by omega)
  simp only [Option.some.injEq, Addr.mk.injEq, and_true] at hA
  obtain ⟨rfl, rfl⟩ := hA
  refine ⟨g, o + k, rfl, hlt, fun j hj => ?_⟩
  rw [show o + k + j = o + (k + j) by omega, hc (k + j) (by omega)]
  simp [gi]
theorem RI.take_ {w : World} {A : Option Addr} {n k : Nat} {xs : List Int} (h : RI w A n xs) (hk : k ≤ n) : RI w A k (xs.take k) := by
  refine ⟨by simp [h.len]; omega, fun hn => ?_⟩
  obtain ⟨b, q, hA, hlt, hc⟩ := h.2 (by omega)
  refine ⟨b, q, hA, hlt, fun j hj => ?_⟩
  rw [hc j (by omega)]
  simp [gi, List.getElem?_take, hj]
theorem OM.ofOwn {w w' : World} {lo' b lo n : Nat} {x y : Int} {gs : List G3} {G : Option Nat} {v : Value} {xs : List Int} (hm : Mk w lo' b x y gs G) (h : Own w' lo w'.heap.size v n xs) (hl : w.heap.size ≤ lo) : OM w' b G lo v n xs :=
  ⟨h, fun g hg => ⟨by have := hm.1; have := h.lt g hg; omega, fun hc => by have := hm.lt g hc; have := h.lt g hg; omega⟩⟩
/-- As OM; the row lies below hi. -/
def OH (w : World) (b : Nat) (G : Option Nat) (lo hi : Nat) (v : Value) (n : Nat) (xs : List Int) : Prop := Own w lo hi v n xs ∧ ∀ g, v.ownBlock = some g → g ≠ b ∧ G ≠ some g
theorem OM.toOH {w : World} {b lo n : Nat} {G : Option Nat} {v : Value} {xs : List Int} (h : OM w b G lo v n xs) : OH w b G lo w.heap.size v n xs := h
theorem OH.toOM {w : World} {b lo hi n : Nat} {G : Option Nat} {v : Value} {xs : List Int} (h : OH w b G lo hi v n xs) : OM w b G lo v n xs := ⟨h.1.now, h.2⟩
theorem OH.mv {w w' : World} {b lo hi n : Nat} {G G' : Option Nat} {v : Value} {xs : List Int} (h : OH w b G lo hi v n xs) (k : Mv b G G' w w') : OH w' b G' lo hi v n xs :=
  ⟨⟨((OH.toOM h).mv k).1.1, h.1.2⟩, ((OH.toOM h).mv k).2⟩
theorem OH.below_ {w w' : World} {b lo hi n B : Nat} {G : Option Nat} {v : Value} {xs : List Int} (h : OH w b G lo hi v n xs) (k : Below B w w') (hB : w.heap.size ≤ B) : OH w' b G lo hi v n xs := ⟨h.1.below k (.inl hB), h.2⟩
theorem OH.alloc_ {w : World} {b lo hi n : Nat} {G : Option Nat} {v : Value} {xs : List Int} (h : OH w b G lo hi v n xs) (o : Obj) : OH (w.alloc o) b G lo hi v n xs := h.below_ ((Below.refl _ _).alloc (Nat.le_refl _) o) (Nat.le_refl _)
theorem OH.hi_ {w : World} {b lo hi hi' n : Nat} {G : Option Nat} {v : Value} {xs : List Int} (h : OH w b G lo hi v n xs) (hl : hi ≤ hi') : OH w b G lo hi' v n xs := ⟨h.1.hi_ hl, h.2⟩
theorem OH.app {w w' : World} {b lo hi n lo' m c : Nat} {G : Option Nat} {v : Value} {xs ys : List Int} {A : Option Addr} (h : OH w b G lo hi v n xs) (ho : OM w b G lo' (.slice A m c) m ys) (hg : w.grownBy w' (Value.slice A m c).ownBlock) (hl : hi ≤ lo') : OH w' b G lo hi v n xs := by
  refine ⟨h.1.grown hg ?_, h.2⟩
  cases hv : v.ownBlock with
  | none => exact .inl rfl
  | some g => exact .inr (fun he => by have := h.1.lt g hv; have := ho.1.lt g he.symm; omega)

theorem with_0 (A : Option Addr) (n c : Nat) (xs : List Int) (w : World) (ha : RI w A n xs) (hn : n ≤ 2097152) :
    Calls Try.prog 88 #[.slice A n c, .slice none 0 0] w fun e w' => ∃ A' c', e = .returned (.slice A' n c') ∧ Own w' w.heap.size w'.heap.size (.slice A' n c') n xs ∧ Below w.heap.size w w' :=
  (with_any A none n c 0 0 xs [] w ha ⟨rfl, fun h => absurd h (by omega)⟩ hn (by omega)).mono fun e w' ⟨A', c', h1, h2, h3⟩ => ⟨A', c', by simpa using h1, by simpa using h2, h3⟩

theorem maker_zero_v (lo b : Nat) (x y : Int) (gs : List G3) (G : Option Nat) (v : Int) (w : World) (hm : Mk w lo b x y gs G) (hx : 0 ≤ x ∧ x ≤ 20) (hy : 0 ≤ y ∧ y ≤ 20) (hn : gs.length ≤ 90000) (hlo : lo ≤ w.heap.size) (hv : x + y + (gs.length : Int) = v) :
    Calls Try.prog 179 #[.pointer (some ⟨b, 0, none⟩)] w (RetW lo b x y (gs ++ [⟨3, 0, 0⟩] ++ [⟨2, v, 0⟩]) G (v + 1) w) := by
  subst hv
  go_enter Try.func179, Try.ntmps179
  go_wp2_with fail
  refine (maker_gate_any lo b x y gs G 3 0 0 w hm hx hy (by omega) hlo).mono ?_
  rintro e w1 ⟨G1, rfl, hm1, hv1⟩
  go_wp2_with fail
  refine (maker_not_v lo b x y (gs ++ [⟨3, 0, 0⟩]) G1 (x + y + gs.length) (x + y + gs.length + 1) _ hm1 hx hy (by simp; omega) (Nat.le_trans hlo hv1.size) (by simp; omega)).mono ?_
  rintro e w2 ⟨G2, rfl, hm2, hv2⟩
  go_wp2
  go_ret
  exact ⟨G2, rfl, hm2, hv1.trans_ hv2⟩

end Go.Proofs.Ytgmcedfpnnmkeaa
