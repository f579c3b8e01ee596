/- Plain functions: the values of a circuit's wires, of an arithmetic circuit's wires, places of a list; carrying what is read from world to world. No condition. -/
import Derived.Test.YtgenehiiakdadaaQCirc
import Derived.Test.YtgenehiiakdadaaQArith
import Derived.Test.YtgenehiiakdadaaQTab
import Derived.Test.YtgenehiiakdadaaQApp2
namespace Go.Proofs.Ytgenehiiakdadaa
open Go.RowKit
set_option linter.unusedVariables false
set_option linter.unusedSimpArgs false

theorem cell_on {w w' : World} {B : Nat} {p : Addr} {v : Value} (hb : Below B w w') (h : w.cell? p = some v) (hB : w.heap.size ≤ B) : w'.cell? p = some v :=
  (hb.cell (Nat.lt_of_lt_of_le (World.block_lt_of_cell? w _ h) hB)).trans h
theorem cell_below {w w' : World} {p : Addr} {v : Value} (h : w.cell? p = some v) (hb : Below w.heap.size w w') : w'.cell? p = some v := cell_on hb h (Nat.le_refl _)
theorem RI_one (w : World) (x : Int) (t : TypeId) (g : Nat) (hg : w.heap.size = g) : RI (w.alloc (.cells #[.int .i64 x] t)) (some ⟨g, 0, none⟩) 1 [x] := by
  subst hg; exact RI_new1 w x t
theorem gi_append_lt {xs ys : List Int} {j : Nat} (h : j < xs.length) : gi (xs ++ ys) j = gi xs j := by
  unfold gi; rw [List.getD_eq_getElem?_getD, List.getD_eq_getElem?_getD, List.getElem?_append_left h]
theorem gi_append_at {xs : List Int} {x : Int} : gi (xs ++ [x]) xs.length = x := by
  unfold gi; rw [List.getD_eq_getElem?_getD, List.getElem?_append_right (Nat.le_refl _)]; simp
theorem allB_append {lo hi : Int} {xs ys : List Int} : allB lo hi (xs ++ ys) = (allB lo hi xs && allB lo hi ys) := by simp [allB]
theorem allB_snoc {lo hi x : Int} {xs : List Int} (h : allB lo hi xs = true) (hx : lo ≤ x ∧ x ≤ hi) : allB lo hi (xs ++ [x]) = true := by
  rw [allB_append, h]; simp [allB, inB_t hx]

/-- The and of Go's ints. -/
def band (a b : Int) : Int := bits .and .i64 a b
theorem band_bit {a b : Int} (ha : 0 ≤ a ∧ a ≤ 1) (hb : 0 ≤ b ∧ b ≤ 1) : band a b = a * b := by
  rcases (show a = 0 ∨ a = 1 by omega) with rfl | rfl <;> rcases (show b = 0 ∨ b = 1 by omega) with rfl | rfl <;> decide
theorem band_bd {a b : Int} (ha : 0 ≤ a ∧ a ≤ 1) (hb : 0 ≤ b ∧ b ≤ 1) : 0 ≤ band a b ∧ band a b ≤ 1 := by
  rcases (show a = 0 ∨ a = 1 by omega) with rfl | rfl <;> rcases (show b = 0 ∨ b = 1 by omega) with rfl | rfl <;> decide

/-- What a gate of a valid circuit refers to. -/
inductive GateIs (g : G3) (n : Int) : Prop where
  | xor_ : g.k = 0 → 0 ≤ g.a → g.a < n → 0 ≤ g.b → g.b < n → GateIs g n
  | and_ : g.k = 1 → 0 ≤ g.a → g.a < n → 0 ≤ g.b → g.b < n → GateIs g n
  | not_ : g.k = 2 → 0 ≤ g.a → g.a < n → g.b = 0 → GateIs g n
  | one_ : g.k = 3 → g.a = 0 → g.b = 0 → GateIs g n
theorem gateB_is {g : G3} {n : Int} (h : gateB g n = true) : GateIs g n := by
  unfold gateB at h
  split at h
  · rename_i hk
    simp only [Bool.and_eq_true, inB_iff] at h
    rcases hk with hk | hk
    · exact .xor_ hk (by omega) (by omega) (by omega) (by omega)
    · exact .and_ hk (by omega) (by omega) (by omega) (by omega)
  · split at h
    · rename_i hk
      simp only [Bool.and_eq_true, inB_iff, decide_eq_true_eq] at h
      exact .not_ hk (by omega) (by omega) h.2
    · simp only [Bool.and_eq_true, decide_eq_true_eq] at h
      exact .one_ h.1 h.2.1 h.2.2
theorem gatesB_at {n : Int} {gs : List G3} {k m : Nat} (h : gatesB n gs m = true) (hk : k < m) : GateIs (gg gs k) (n + k) :=
  gateB_is (List.all_eq_true.1 h k (List.mem_range.2 hk))
theorem circB_bd {x y : Int} {gs : List G3} {os : List Int} (h : circB x y gs os = true) :
    (0 ≤ x ∧ x ≤ 20) ∧ (0 ≤ y ∧ y ≤ 20) ∧ gs.length ≤ 300 ∧ os.length ≤ 40 ∧ gatesB (x + y) gs gs.length = true ∧ allB 0 (x + y + gs.length - 1) os = true := by
  simp only [circB, Bool.and_eq_true, inB_iff, decide_eq_true_eq] at h
  exact ⟨h.1, h.2.1, h.2.2.1, h.2.2.2.1, h.2.2.2.2.1, h.2.2.2.2.2⟩

/-- The value of a gate behind the wires' values. -/
def gval (g : G3) (out : List Int) : Int :=
  if g.k = 0 then bxor (gi out g.a.toNat) (gi out g.b.toNat) else if g.k = 1 then band (gi out g.a.toNat) (gi out g.b.toNat) else if g.k = 2 then 1 - gi out g.a.toNat else 1
/-- The values of the wires behind k gates. -/
def vals (gs : List G3) (inp : List Int) : Nat → List Int
  | 0 => inp
  | k + 1 => vals gs inp k ++ [gval (gg gs k) (vals gs inp k)]
theorem vals_len (gs : List G3) (inp : List Int) (k : Nat) : (vals gs inp k).length = inp.length + k := by
  induction k with
  | zero => rfl
  | succ k ih => simp [vals, ih]; omega
theorem vals_succ (gs : List G3) (inp : List Int) (k : Nat) : vals gs inp (k + 1) = vals gs inp k ++ [gval (gg gs k) (vals gs inp k)] := rfl
theorem gval_bd {g : G3} {n : Nat} {out : List Int} (h : GateIs g n) (hn : out.length = n) (ho : allB 0 1 out = true) : 0 ≤ gval g out ∧ gval g out ≤ 1 := by
  cases h with
  | xor_ hk a1 a2 b1 b2 =>
    rw [gval, if_pos hk]
    exact bxor_bd (allB_gi ho (by omega)) (allB_gi ho (by omega))
  | and_ hk a1 a2 b1 b2 =>
    rw [gval, if_neg (by omega), if_pos hk]
    exact band_bd (allB_gi ho (by omega)) (allB_gi ho (by omega))
  | not_ hk a1 a2 b1 =>
    rw [gval, if_neg (by omega), if_neg (by omega), if_pos hk]
    have := allB_gi ho (j := g.a.toNat) (by omega)
    omega
  | one_ hk a1 b1 =>
    rw [gval, if_neg (by omega), if_neg (by omega), if_neg (by omega)]
    omega
theorem vals_bd {gs : List G3} {inp : List Int} {n : Int} (hn : (inp.length : Int) = n) (hi : allB 0 1 inp = true) : ∀ k m, k ≤ m → gatesB n gs m = true → allB 0 1 (vals gs inp k) = true := by
  intro k
  induction k with
  | zero => intro m _ _; exact hi
  | succ k ih =>
    intro m hk hg
    have h1 := ih m (by omega) hg
    rw [vals_succ]
    refine allB_snoc h1 (gval_bd (n := inp.length + k) ?_ (vals_len _ _ _) h1)
    have := gatesB_at hg (k := k) (by omega)
    rwa [← hn, show ((inp.length : Int) + k) = ((inp.length + k : Nat) : Int) from by omega] at this

/-- The elements of a list at places. -/
def pick (l os : List Int) : List Int := os.map fun o => gi l o.toNat
theorem pick_len (l os : List Int) : (pick l os).length = os.length := by simp [pick]
theorem gi_map {os : List Int} {f : Int → Int} {k : Nat} (h : k < os.length) : gi (os.map f) k = f (gi os k) := by simp [gi, h]
theorem pick_tab {l os : List Int} {n : Nat} (h : os.length = n) : pick l os = tab n fun i => gi l (gi os i).toNat := by
  subst h
  exact gi_eq (by simp [pick, tab_len]) fun j hj => by
    have hj' : j < os.length := by simpa [pick] using hj
    rw [pick, gi_map hj', gi_tab hj']

/-- What a gate of a valid arithmetic circuit refers to. -/
inductive AGateIs (p : Int) (g : G3) (n : Int) : Prop where
  | add_ : g.k = 0 → 0 ≤ g.a → g.a < n → 0 ≤ g.b → g.b < n → AGateIs p g n
  | mul_ : g.k = 1 → 0 ≤ g.a → g.a < n → 0 ≤ g.b → g.b < n → AGateIs p g n
  | scale_ : g.k = 2 → 0 ≤ g.a → g.a < n → 0 ≤ g.b → g.b < p → AGateIs p g n
  | const_ : g.k = 3 → 0 ≤ g.a → g.a < p → g.b = 0 → AGateIs p g n
theorem agateB_is {p : Int} {g : G3} {n : Int} (h : agateB p g n = true) : AGateIs p g n := by
  unfold agateB at h
  split at h
  · rename_i hk
    simp only [Bool.and_eq_true, inB_iff] at h
    rcases hk with hk | hk
    · exact .add_ hk (by omega) (by omega) (by omega) (by omega)
    · exact .mul_ hk (by omega) (by omega) (by omega) (by omega)
  · split at h
    · rename_i hk
      simp only [Bool.and_eq_true, inB_iff] at h
      exact .scale_ hk (by omega) (by omega) (by omega) (by omega)
    · simp only [Bool.and_eq_true, decide_eq_true_eq, inB_iff] at h
      exact .const_ h.1 (by omega) (by omega) h.2.2
theorem agatesB_at {p n : Int} {gs : List G3} {k m : Nat} (h : agatesB p n gs m = true) (hk : k < m) : AGateIs p (gg gs k) (n + k) :=
  agateB_is (List.all_eq_true.1 h k (List.mem_range.2 hk))
theorem arB_bd {p x y : Int} {gs : List G3} {os : List Int} (h : arB p x y gs os = true) :
    primeB p = true ∧ (0 ≤ x ∧ x ≤ 8) ∧ (0 ≤ y ∧ y ≤ 8) ∧ gs.length ≤ 100 ∧ os.length ≤ 20 ∧ agatesB p (x + y) gs gs.length = true ∧ allB 0 (x + y + gs.length - 1) os = true := by
  simp only [arB, Bool.and_eq_true, inB_iff, decide_eq_true_eq] at h
  exact ⟨h.1, h.2.1, h.2.2.1, h.2.2.2.1, h.2.2.2.2.1, h.2.2.2.2.2.1, h.2.2.2.2.2.2⟩
/-- The value of an arithmetic gate behind the wires' values, not reduced. -/
def aval (g : G3) (out : List Int) : Int :=
  if g.k = 0 then gi out g.a.toNat + gi out g.b.toNat else if g.k = 1 then gi out g.a.toNat * gi out g.b.toNat else if g.k = 2 then gi out g.a.toNat * g.b else g.a
/-- The values of the wires behind k arithmetic gates. -/
def avals (p : Int) (gs : List G3) (inp : List Int) : Nat → List Int
  | 0 => inp
  | k + 1 => avals p gs inp k ++ [aval (gg gs k) (avals p gs inp k) % p]
theorem avals_len (p : Int) (gs : List G3) (inp : List Int) (k : Nat) : (avals p gs inp k).length = inp.length + k := by
  induction k with
  | zero => rfl
  | succ k ih => simp [avals, ih]; omega
theorem avals_succ (p : Int) (gs : List G3) (inp : List Int) (k : Nat) : avals p gs inp (k + 1) = avals p gs inp k ++ [aval (gg gs k) (avals p gs inp k) % p] := rfl
theorem avals_bd {p : Int} {gs : List G3} {inp : List Int} (hp : 2 ≤ p) (hi : allB 0 (p - 1) inp = true) : ∀ k, allB 0 (p - 1) (avals p gs inp k) = true := by
  intro k
  induction k with
  | zero => exact hi
  | succ k ih =>
    rw [avals_succ]
    have h1 := Int.emod_nonneg (aval (gg gs k) (avals p gs inp k)) (show p ≠ 0 by omega)
    have h2 := Int.emod_lt_of_pos (aval (gg gs k) (avals p gs inp k)) (show 0 < p by omega)
    exact allB_snoc ih (by omega)

end Go.Proofs.Ytgenehiiakdadaa
