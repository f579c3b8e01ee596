/- Contracts of the values of a circuit's wires, of an arithmetic circuit's wires, and of the elements of a list at places. -/
import Derived.Test.YtjeojnfpeppclaaQR03
import Derived.StillTailTactics
namespace Go.Proofs.Ytjeojnfpeppclaa
open Go.RowKit
set_option linter.unusedVariables false
set_option linter.unusedSimpArgs false
set_option maxHeartbeats 800000 in
theorem Zbs (lo b : Nat) (x y : Int) (gs : List G3) (G : Option Nat) (k p q : Int) (w : World) (hm : Mk w lo b x y gs G) (hx : 0 ≤ x ∧ x ≤ 20) (hy : 0 ≤ y ∧ y ≤ 20) (hn : gs.length ≤ 100000) (hlo : lo ≤ w.heap.size) :
 Calls Try.prog 83 #[.pointer (some ⟨b, 0, none⟩), .int .i64 k, .int .i64 p, .int .i64 q] w (RetW lo b x y (gs ++ [⟨k, p, q⟩]) G (x + y + gs.length) w) := by
 obtain ⟨h1, h2, hf, Ag, cg, hbx, hown, rfl⟩ := hm
 have hal : Below w.heap.size w (w.alloc (.cells #[.int .i64 k, .int .i64 p, .int .i64 q] 89)) := bA
 have hownA := hown.alloc (.cells #[.int .i64 k, .int .i64 p, .int .i64 q] 89)
 have hbxA := hbx.below hal
 have hbb : b < (w.alloc (.cells #[.int .i64 k, .int .i64 p, .int .i64 q] 89)).heap.size := by simp; omega
 have hfA : ∀ r : Nat, (w.alloc (.cells #[.int .i64 k, .int .i64 p, .int .i64 q] 89)).frozen? ⟨b, r, none⟩ = false := fun r => (hal.frozen (p := ⟨b, r, none⟩) h1).trans (hf r)
 have hq := hbx; obtain ⟨k0, k1, k2, k3⟩ := hq
 go_enter Try.func83, Try.ntmps83
 go_wp2_with (at_builtin; refine wpList_appG _ rfl _ _ rfl rfl hownA rfl (RG_new1 _ _ _ _ _) (by omega) (by simp; omega) ?_; intro A5 c5 w5 hown5 hg5 hat5 hk5; obtain ⟨hmk, hmv⟩ := Mk.made hbb h2 hfA hbxA hown5 hg5 hat5; have hq5 := hbxA.grown hg5 h2; obtain ⟨j0, j1, j2, j3⟩ := hq5; have hq6 := hmk; obtain ⟨_, _, hf6, A6, c6, hx6, _, _⟩ := hq6; have hf5 : w5.frozen? ⟨b, 2, none⟩ = false := (World.frozen?_setCell _ _ _ _).symm.trans (hf6 2); obtain ⟨i0, i1, i2, i3⟩ := hx6)
 have q1 : x + y + ((gs.length : Int) + 1) - 1 = x + y + gs.length := by omega
 clear j0 j1 j2 j3 i0 i1 i2 i3
 refine (Zby x y A6 (gs.length + 1) c6 none 0 0 _ hx hy (by omega)).mono ?_
 rintro e w6 ⟨rfl, hb6⟩
 go_wp2
 go_ret
 exact ⟨_, by rw [← q1]; rfl, hmk.below_ hb6 lR, (((Mv.refl_ b _ w).alloc_ _).trans_ hmv).below_ hb6 lR⟩
set_option maxHeartbeats 800000 in
theorem Zbi (lo b : Nat) (x y : Int) (gs : List G3) (G : Option Nat) (k p q : Int) (w : World) (hm : Mk w lo b x y gs G) (hx : 0 ≤ x ∧ x ≤ 20) (hy : 0 ≤ y ∧ y ≤ 20) (hn : gs.length ≤ 100000) (hlo : lo ≤ w.heap.size) :
 Calls Try.prog 96 #[.pointer (some ⟨b, 0, none⟩), .int .i64 k, .int .i64 p, .int .i64 q] w (RetW lo b x y (gs ++ [⟨k, p, q⟩]) G (x + y + gs.length) w) := by
 obtain ⟨h1, h2, hf, Ag, cg, hbx, hown, rfl⟩ := hm
 have hal : Below w.heap.size w (w.alloc (.cells #[.int .i64 k, .int .i64 p, .int .i64 q] 89)) := bA
 have hownA := hown.alloc (.cells #[.int .i64 k, .int .i64 p, .int .i64 q] 89)
 have hbxA := hbx.below hal
 have hbb : b < (w.alloc (.cells #[.int .i64 k, .int .i64 p, .int .i64 q] 89)).heap.size := by simp; omega
 have hfA : ∀ r : Nat, (w.alloc (.cells #[.int .i64 k, .int .i64 p, .int .i64 q] 89)).frozen? ⟨b, r, none⟩ = false := fun r => (hal.frozen (p := ⟨b, r, none⟩) h1).trans (hf r)
 have hq := hbx; obtain ⟨k0, k1, k2, k3⟩ := hq
 go_enter Try.func96, Try.ntmps96
 go_wp2_with (at_builtin; refine wpList_appG _ rfl _ _ rfl rfl hownA rfl (RG_new1 _ _ _ _ _) (by omega) (by simp; omega) ?_; intro A5 c5 w5 hown5 hg5 hat5 hk5; obtain ⟨hmk, hmv⟩ := Mk.made hbb h2 hfA hbxA hown5 hg5 hat5; have hq5 := hbxA.grown hg5 h2; obtain ⟨j0, j1, j2, j3⟩ := hq5; have hq6 := hmk; obtain ⟨_, _, hf6, A6, c6, hx6, _, _⟩ := hq6; have hf5 : w5.frozen? ⟨b, 2, none⟩ = false := (World.frozen?_setCell _ _ _ _).symm.trans (hf6 2); obtain ⟨i0, i1, i2, i3⟩ := hx6)
 have q1 : x + y + ((gs.length : Int) + 1) - 1 = x + y + gs.length := by omega
 clear j0 j1 j2 j3 i0 i1 i2 i3
 refine (ciWires_any x y A6 (gs.length + 1) c6 none 0 0 _ hx hy (by omega)).mono ?_
 rintro e w6 ⟨rfl, hb6⟩
 go_wp2
 go_ret
 exact ⟨_, by rw [← q1]; rfl, hmk.below_ hb6 lR, (((Mv.refl_ b _ w).alloc_ _).trans_ hmv).below_ hb6 lR⟩
theorem maker_xor_any (lo b : Nat) (x y : Int) (gs : List G3) (G : Option Nat) (p q : Int) (w : World) (hm : Mk w lo b x y gs G) (hx : 0 ≤ x ∧ x ≤ 20) (hy : 0 ≤ y ∧ y ≤ 20) (hn : gs.length ≤ 100000) (hlo : lo ≤ w.heap.size) :
 Calls Try.prog 67 #[.pointer (some ⟨b, 0, none⟩), .int .i64 p, .int .i64 q] w (RetW lo b x y (gs ++ [⟨0, p, q⟩]) G (x + y + gs.length) w) := by
 go_enter Try.func67, Try.ntmps67
 go_wp2_with fail
 refine (Zbs lo b x y gs G 0 p q w hm hx hy hn hlo).mono ?_
 rintro e w1 ⟨G1, rfl, hm1, hv1⟩
 go_wp2
 go_ret
 exact ⟨G1, rfl, hm1, hv1⟩
theorem maker_and_any (lo b : Nat) (x y : Int) (gs : List G3) (G : Option Nat) (p q : Int) (w : World) (hm : Mk w lo b x y gs G) (hx : 0 ≤ x ∧ x ≤ 20) (hy : 0 ≤ y ∧ y ≤ 20) (hn : gs.length ≤ 100000) (hlo : lo ≤ w.heap.size) :
 Calls Try.prog 68 #[.pointer (some ⟨b, 0, none⟩), .int .i64 p, .int .i64 q] w (RetW lo b x y (gs ++ [⟨1, p, q⟩]) G (x + y + gs.length) w) := by
 go_enter Try.func68, Try.ntmps68
 go_wp2_with fail
 refine (Zbs lo b x y gs G 1 p q w hm hx hy hn hlo).mono ?_
 rintro e w1 ⟨G1, rfl, hm1, hv1⟩
 go_wp2
 go_ret
 exact ⟨G1, rfl, hm1, hv1⟩
theorem ciMaker_xor_any (lo b : Nat) (x y : Int) (gs : List G3) (G : Option Nat) (p q : Int) (w : World) (hm : Mk w lo b x y gs G) (hx : 0 ≤ x ∧ x ≤ 20) (hy : 0 ≤ y ∧ y ≤ 20) (hn : gs.length ≤ 100000) (hlo : lo ≤ w.heap.size) :
 Calls Try.prog 88 #[.pointer (some ⟨b, 0, none⟩), .int .i64 p, .int .i64 q] w (RetW lo b x y (gs ++ [⟨0, p, q⟩]) G (x + y + gs.length) w) := by
 go_enter Try.func88, Try.ntmps88
 go_wp2_with fail
 refine (Zbi lo b x y gs G 0 p q w hm hx hy hn hlo).mono ?_
 rintro e w1 ⟨G1, rfl, hm1, hv1⟩
 go_wp2
 go_ret
 exact ⟨G1, rfl, hm1, hv1⟩
theorem ciMaker_and_any (lo b : Nat) (x y : Int) (gs : List G3) (G : Option Nat) (p q : Int) (w : World) (hm : Mk w lo b x y gs G) (hx : 0 ≤ x ∧ x ≤ 20) (hy : 0 ≤ y ∧ y ≤ 20) (hn : gs.length ≤ 100000) (hlo : lo ≤ w.heap.size) :
 Calls Try.prog 90 #[.pointer (some ⟨b, 0, none⟩), .int .i64 p, .int .i64 q] w (RetW lo b x y (gs ++ [⟨1, p, q⟩]) G (x + y + gs.length) w) := by
 go_enter Try.func90, Try.ntmps90
 go_wp2_with fail
 refine (Zbi lo b x y gs G 1 p q w hm hx hy hn hlo).mono ?_
 rintro e w1 ⟨G1, rfl, hm1, hv1⟩
 go_wp2
 go_ret
 exact ⟨G1, rfl, hm1, hv1⟩
theorem maker_not_any (lo b : Nat) (x y : Int) (gs : List G3) (G : Option Nat) (p : Int) (w : World) (hm : Mk w lo b x y gs G) (hx : 0 ≤ x ∧ x ≤ 20) (hy : 0 ≤ y ∧ y ≤ 20) (hn : gs.length ≤ 100000) (hlo : lo ≤ w.heap.size) :
 Calls Try.prog 69 #[.pointer (some ⟨b, 0, none⟩), .int .i64 p] w (RetW lo b x y (gs ++ [⟨2, p, 0⟩]) G (x + y + gs.length) w) := by
 go_enter Try.func69, Try.ntmps69
 go_wp2_with fail
 refine (Zbs lo b x y gs G 2 p 0 w hm hx hy hn hlo).mono ?_
 rintro e w1 ⟨G1, rfl, hm1, hv1⟩
 go_wp2
 go_ret
 exact ⟨G1, rfl, hm1, hv1⟩
theorem ciMaker_not_any (lo b : Nat) (x y : Int) (gs : List G3) (G : Option Nat) (p : Int) (w : World) (hm : Mk w lo b x y gs G) (hx : 0 ≤ x ∧ x ≤ 20) (hy : 0 ≤ y ∧ y ≤ 20) (hn : gs.length ≤ 100000) (hlo : lo ≤ w.heap.size) :
 Calls Try.prog 89 #[.pointer (some ⟨b, 0, none⟩), .int .i64 p] w (RetW lo b x y (gs ++ [⟨2, p, 0⟩]) G (x + y + gs.length) w) := by
 go_enter Try.func89, Try.ntmps89
 go_wp2_with fail
 refine (Zbi lo b x y gs G 2 p 0 w hm hx hy hn hlo).mono ?_
 rintro e w1 ⟨G1, rfl, hm1, hv1⟩
 go_wp2
 go_ret
 exact ⟨G1, rfl, hm1, hv1⟩
theorem Zay (lo b : Nat) (x y : Int) (gs : List G3) (G : Option Nat) (p q v : Int) (w : World) (hm : Mk w lo b x y gs G) (hx : 0 ≤ x ∧ x ≤ 20) (hy : 0 ≤ y ∧ y ≤ 20) (hn : gs.length ≤ 100000) (hlo : lo ≤ w.heap.size) (hv : x + y + (gs.length : Int) = v) :
 Calls Try.prog 67 #[.pointer (some ⟨b, 0, none⟩), .int .i64 p, .int .i64 q] w (RetW lo b x y (gs ++ [⟨0, p, q⟩]) G v w) := by
 subst hv; exact maker_xor_any lo b x y gs G p q w hm hx hy hn hlo
theorem maker_and_v (lo b : Nat) (x y : Int) (gs : List G3) (G : Option Nat) (p q v : Int) (w : World) (hm : Mk w lo b x y gs G) (hx : 0 ≤ x ∧ x ≤ 20) (hy : 0 ≤ y ∧ y ≤ 20) (hn : gs.length ≤ 100000) (hlo : lo ≤ w.heap.size) (hv : x + y + (gs.length : Int) = v) :
 Calls Try.prog 68 #[.pointer (some ⟨b, 0, none⟩), .int .i64 p, .int .i64 q] w (RetW lo b x y (gs ++ [⟨1, p, q⟩]) G v w) := by
 subst hv; exact maker_and_any lo b x y gs G p q w hm hx hy hn hlo
theorem Zas (lo b : Nat) (x y : Int) (gs : List G3) (G : Option Nat) (p q v : Int) (w : World) (hm : Mk w lo b x y gs G) (hx : 0 ≤ x ∧ x ≤ 20) (hy : 0 ≤ y ∧ y ≤ 20) (hn : gs.length ≤ 100000) (hlo : lo ≤ w.heap.size) (hv : x + y + (gs.length : Int) = v) :
 Calls Try.prog 88 #[.pointer (some ⟨b, 0, none⟩), .int .i64 p, .int .i64 q] w (RetW lo b x y (gs ++ [⟨0, p, q⟩]) G v w) := by
 subst hv; exact ciMaker_xor_any lo b x y gs G p q w hm hx hy hn hlo
theorem Zca (lo b : Nat) (x y : Int) (gs : List G3) (G : Option Nat) (p q v : Int) (w : World) (hm : Mk w lo b x y gs G) (hx : 0 ≤ x ∧ x ≤ 20) (hy : 0 ≤ y ∧ y ≤ 20) (hn : gs.length ≤ 100000) (hlo : lo ≤ w.heap.size) (hv : x + y + (gs.length : Int) = v) :
 Calls Try.prog 90 #[.pointer (some ⟨b, 0, none⟩), .int .i64 p, .int .i64 q] w (RetW lo b x y (gs ++ [⟨1, p, q⟩]) G v w) := by
 subst hv; exact ciMaker_and_any lo b x y gs G p q w hm hx hy hn hlo
theorem maker_not_v (lo b : Nat) (x y : Int) (gs : List G3) (G : Option Nat) (p v : Int) (w : World) (hm : Mk w lo b x y gs G) (hx : 0 ≤ x ∧ x ≤ 20) (hy : 0 ≤ y ∧ y ≤ 20) (hn : gs.length ≤ 100000) (hlo : lo ≤ w.heap.size) (hv : x + y + (gs.length : Int) = v) :
 Calls Try.prog 69 #[.pointer (some ⟨b, 0, none⟩), .int .i64 p] w (RetW lo b x y (gs ++ [⟨2, p, 0⟩]) G v w) := by
 subst hv; exact maker_not_any lo b x y gs G p w hm hx hy hn hlo
theorem ciMaker_not_v (lo b : Nat) (x y : Int) (gs : List G3) (G : Option Nat) (p v : Int) (w : World) (hm : Mk w lo b x y gs G) (hx : 0 ≤ x ∧ x ≤ 20) (hy : 0 ≤ y ∧ y ≤ 20) (hn : gs.length ≤ 100000) (hlo : lo ≤ w.heap.size) (hv : x + y + (gs.length : Int) = v) :
 Calls Try.prog 89 #[.pointer (some ⟨b, 0, none⟩), .int .i64 p] w (RetW lo b x y (gs ++ [⟨2, p, 0⟩]) G v w) := by
 subst hv; exact ciMaker_not_any lo b x y gs G p w hm hx hy hn hlo
theorem cell_on {w w' : World} {B : Nat} {p : Addr} {v : Value} (hb : Below B w w') (h : w.cell? p = some v) (hB : w.heap.size ≤ B) : w'.cell? p = some v :=
 (hb.cell (Nat.lt_of_lt_of_le (World.block_lt_of_cell? w _ h) hB)).trans h
theorem Zbw {w w' : World} {p : Addr} {v : Value} (h : w.cell? p = some v) (hb : Below w.heap.size w w') : w'.cell? p = some v := cell_on hb h lR
theorem Zbb (w : World) (x : Int) (t : TypeId) (g : Nat) (hg : w.heap.size = g) : RI (w.alloc (.cells #[.int .i64 x] t)) (some ⟨g, 0, none⟩) 1 [x] := by
 subst hg; exact RI_new1 w x t
theorem Zbp {xs ys : List Int} {j : Nat} (h : j < xs.length) : gi (xs ++ ys) j = gi xs j := by
 unfold gi; rw [List.getD_eq_getElem?_getD, List.getD_eq_getElem?_getD, List.getElem?_append_left h]
theorem gi_append_at {xs : List Int} {x : Int} : gi (xs ++ [x]) xs.length = x := by
 unfold gi; rw [List.getD_eq_getElem?_getD, List.getElem?_append_right lR]; simp
theorem allB_append {lo hi : Int} {xs ys : List Int} : allB lo hi (xs ++ ys) = (allB lo hi xs && allB lo hi ys) := by simp [allB]
theorem allB_snoc {lo hi x : Int} {xs : List Int} (h : allB lo hi xs = true) (hx : lo ≤ x ∧ x ≤ hi) : allB lo hi (xs ++ [x]) = true := by
 rw [allB_append, h]; simp [allB, inB_t hx]
def band (a b : Int) : Int := bits .and .i64 a b
theorem band_bit {a b : Int} (ha : 0 ≤ a ∧ a ≤ 1) (hb : 0 ≤ b ∧ b ≤ 1) : band a b = a * b := by
 rcases (show a = 0 ∨ a = 1 by omega) with rfl | rfl <;> rcases (show b = 0 ∨ b = 1 by omega) with rfl | rfl <;> decide
theorem band_bd {a b : Int} (ha : 0 ≤ a ∧ a ≤ 1) (hb : 0 ≤ b ∧ b ≤ 1) : 0 ≤ band a b ∧ band a b ≤ 1 := by
 rcases (show a = 0 ∨ a = 1 by omega) with rfl | rfl <;> rcases (show b = 0 ∨ b = 1 by omega) with rfl | rfl <;> decide
inductive GateIs (g : G3) (n : Int) : Prop where
 | xor_ : g.k = 0 → 0 ≤ g.a → g.a < n → 0 ≤ g.b → g.b < n → GateIs g n
 | and_ : g.k = 1 → 0 ≤ g.a → g.a < n → 0 ≤ g.b → g.b < n → GateIs g n
 | not_ : g.k = 2 → 0 ≤ g.a → g.a < n → g.b = 0 → GateIs g n
 | one_ : g.k = 3 → g.a = 0 → g.b = 0 → GateIs g n
theorem gateB_is {g : G3} {n : Int} (h : gateB g n = true) : GateIs g n := by
 unfold gateB at h
 split at h
 ·rename_i hk
  simp only [Bool.and_eq_true, inB_iff] at h
  rcases hk with hk | hk
  ·exact .xor_ hk (by omega) (by omega) (by omega) (by omega)
  ·exact .and_ hk (by omega) (by omega) (by omega) (by omega)
 ·split at h
  ·rename_i hk
   simp only [Bool.and_eq_true, inB_iff, decide_eq_true_eq] at h
   exact .not_ hk (by omega) (by omega) h.2
  ·simp only [Bool.and_eq_true, decide_eq_true_eq] at h
   exact .one_ h.1 h.2.1 h.2.2
theorem gatesB_at {n : Int} {gs : List G3} {k m : Nat} (h : gatesB n gs m = true) (hk : k < m) : GateIs (gg gs k) (n + k) :=
 gateB_is (List.all_eq_true.1 h k (List.mem_range.2 hk))
theorem circB_bd {x y : Int} {gs : List G3} {os : List Int} (h : circB x y gs os = true) :
 (0 ≤ x ∧ x ≤ 20) ∧ (0 ≤ y ∧ y ≤ 20) ∧ gs.length ≤ 300 ∧ os.length ≤ 40 ∧ gatesB (x + y) gs gs.length = true ∧ allB 0 (x + y + gs.length - 1) os = true := by
 simp only [circB, Bool.and_eq_true, inB_iff, decide_eq_true_eq] at h
 exact ⟨h.1, h.2.1, h.2.2.1, h.2.2.2.1, h.2.2.2.2.1, h.2.2.2.2.2⟩
def gval (g : G3) (out : List Int) : Int :=
 if g.k = 0 then bxor (gi out g.a.toNat) (gi out g.b.toNat) else if g.k = 1 then band (gi out g.a.toNat) (gi out g.b.toNat) else if g.k = 2 then 1 - gi out g.a.toNat else 1
def vals (gs : List G3) (inp : List Int) : Nat → List Int
 | 0 => inp
 | k + 1 => vals gs inp k ++ [gval (gg gs k) (vals gs inp k)]
theorem Zbz (gs : List G3) (inp : List Int) (k : Nat) : (vals gs inp k).length = inp.length + k := by
 induction k with
 | zero => rfl
 | succ k ih => simp [vals, ih]; omega
theorem vals_succ (gs : List G3) (inp : List Int) (k : Nat) : vals gs inp (k + 1) = vals gs inp k ++ [gval (gg gs k) (vals gs inp k)] := rfl
theorem gval_bd {g : G3} {n : Nat} {out : List Int} (h : GateIs g n) (hn : out.length = n) (ho : allB 0 1 out = true) : 0 ≤ gval g out ∧ gval g out ≤ 1 := by
 cases h with
 | xor_ hk a1 a2 b1 b2 =>
  rw [gval, if_pos hk]
  exact bxor_bd (Zbk ho (by omega)) (Zbk ho (by omega))
 | and_ hk a1 a2 b1 b2 =>
  rw [gval, if_neg (by omega), if_pos hk]
  exact band_bd (Zbk ho (by omega)) (Zbk ho (by omega))
 | not_ hk a1 a2 b1 =>
  rw [gval, if_neg (by omega), if_neg (by omega), if_pos hk]
  have := Zbk ho (j := g.a.toNat) (by omega)
  omega
 | one_ hk a1 b1 =>
  rw [gval, if_neg (by omega), if_neg (by omega), if_neg (by omega)]
  omega
theorem vals_bd {gs : List G3} {inp : List Int} {n : Int} (hn : (inp.length : Int) = n) (hi : allB 0 1 inp = true) : ∀ k m, k ≤ m → gatesB n gs m = true → allB 0 1 (vals gs inp k) = true := by
 intro k
 induction k with
 | zero => intro m _ _; exact hi
 | succ k ih =>
  intro m hk hg
  have h1 := ih m (by omega) hg
  rw [vals_succ]
  refine allB_snoc h1 (gval_bd (n := inp.length + k) ?_ (Zbz _ _ _) h1)
  have := gatesB_at hg (k := k) (by omega)
  rwa [← hn, show ((inp.length : Int) + k) = ((inp.length + k : Nat) : Int) from by omega] at this
def pick (l os : List Int) : List Int := os.map fun o => gi l o.toNat
theorem pick_len (l os : List Int) : (pick l os).length = os.length := by simp [pick]
theorem gi_map {os : List Int} {f : Int → Int} {k : Nat} (h : k < os.length) : gi (os.map f) k = f (gi os k) := by simp [gi, h]
theorem pick_tab {l os : List Int} {n : Nat} (h : os.length = n) : pick l os = tab n fun i => gi l (gi os i).toNat := by
 subst h
 exact gi_eq (by simp [pick, tab_len]) fun j hj => by
  have hj' : j < os.length := by simpa [pick] using hj
  rw [pick, gi_map hj', gi_tab hj']
def dstep (a x : Int) : Int := ((25214 * a + x + 17) % 1000003) * (((25214 * a + x + 17) % 1000003) / 64 + 5) % 1000003
def dfold (a : Int) (l : List Int) : Int := l.foldl dstep a
def dg (l : List Int) : Int := dfold (40503 + l.length) (l ++ [8, 1]) % 65536
theorem Clone_any (A : Option Addr) (n c : Nat) (xs : List Int) (w : World) (ha : RI w A n xs) (hn : n ≤ 2097152) :
 Calls Try.prog 63 #[.slice A n c] w fun e w' => ∃ A' c', e = .returned (.slice A' n c') ∧ Own w' w.heap.size w'.heap.size (.slice A' n c') n xs ∧ Below w.heap.size w w' := by
 have hl := ha.len
 rcases A with _ | ad
 ·have h0 : n = 0 := by
   rcases Nat.eq_zero_or_pos n with h | h
   ·exact h
   ·obtain ⟨b, o, h', _⟩ := ha.2 h
    cases h'
  subst h0
  obtain rfl : xs = [] := List.eq_nil_of_length_eq_zero hl
  have he := fun W => Lib.run_eql_slice_nil (P := Try.prog) W (t := 34) (e := 3) none 0 c 0 0 Try.underlying34
  go_enter Try.func63, Try.ntmps63
  go_wp2
  go_ret
  exact ⟨_, _, rfl, Own.none_ _ _ _, Below.refl _ _⟩
 ·have he := fun W => Lib.run_eql_slice_nil (P := Try.prog) W (t := 34) (e := 3) (some ad) n c 0 0 Try.underlying34
  have hB : Below w.heap.size w (w.alloc (.cells #[] 3)) := bA
  have h0 := Zcc w w.heap.size lR
  go_enter Try.func63, Try.ntmps63
  go_wp2_with (at_builtin; refine Zao _ rfl _ _ rfl rfl h0 rfl (ha.alloc _) (by omega) (by simp) ?_; intro A' c' w1 hown hg hat)
  simp only [Nat.zero_add, List.nil_append] at hown
  go_wp2
  go_ret
  exact ⟨_, _, by simp, hown, Zaf hB h0 hg (by simp) lR⟩
theorem l1Own_any (A : Option Addr) (n c : Nat) (xs : List Int) (w : World) (ha : RI w A n xs) (hn : n ≤ 2097152) :
 Calls Try.prog 74 #[.slice A n c] w fun e w' => ∃ A' c', e = .returned (.slice A' n c') ∧ Own w' w.heap.size w'.heap.size (.slice A' n c') n xs ∧ Below w.heap.size w w' := by
 have hl := ha.len
 have hB : Below w.heap.size w (w.alloc (.cells #[] 3)) := bA
 have h0 := Zcc w w.heap.size lR
 go_enter Try.func74, Try.ntmps74
 go_wp2_with (at_builtin; refine Zao _ rfl _ _ rfl rfl h0 rfl (ha.alloc _) (by omega) (by simp) ?_; intro A' c' w1 hown hg hat)
 simp only [Nat.zero_add, List.nil_append] at hown
 go_wp2
 go_ret
 exact ⟨_, _, by simp, hown, Zaf hB h0 hg (by simp) lR⟩
theorem with_any (A B : Option Addr) (n c m d : Nat) (xs ys : List Int) (w : World) (ha : RI w A n xs) (hb : RI w B m ys) (hn : n ≤ 2097152) (hm : m ≤ 2097152) :
 Calls Try.prog 78 #[.slice A n c, .slice B m d] w fun e w' => ∃ A' c', e = .returned (.slice A' (n + m) c') ∧ Own w' w.heap.size w'.heap.size (.slice A' (n + m) c') (n + m) (xs ++ ys) ∧ Below w.heap.size w w' := by
 have hl := ha.len
 go_enter Try.func78, Try.ntmps78
 go_wp2_with fail
 refine (Clone_any _ _ _ _ _ ha hn).mono ?_
 rintro e w1 ⟨A1, c1, rfl, hown1, hb1⟩
 have hz := hb1.size
 go_wp2_with (at_builtin; refine Zao _ rfl _ _ rfl rfl hown1 rfl (hb.below hb1 lR) (by omega) hz ?_; intro A' c' w2 hown hg hat)
 go_wp2
 go_ret
 exact ⟨_, _, rfl, hown, Zaf hb1 hown1 hg hz lR⟩
set_option maxRecDepth 100000 in
set_option maxHeartbeats 4000000 in
theorem Circuit_values_any (x y : Int) (Ag : Option Addr) (ng cg : Nat) (Ao : Option Addr) (no co : Nat) (A : Option Addr) (n c : Nat) (gs : List G3) (inp : List Int) (w : World) (hg : RG w Ag ng gs) (ha : RI w A n inp) (hi : allB 0 1 inp = true) (hgat : gatesB n gs ng = true) (hng : ng ≤ 300) (hn : n ≤ 40) :
 Calls Try.prog 77 #[.agg #[.int .i64 x, .int .i64 y, .slice Ag ng cg, .slice Ao no co], .slice A n c] w (RetI w (vals gs inp ng)) := by
 have hB : Below w.heap.size w (w.alloc (.cells #[.int .i64 x, .int .i64 y, .slice Ag ng cg, .slice Ao no co] 43)) := bA
 have hla := ha.len
 have hvb : ∀ k, k ≤ ng → allB 0 1 (vals gs inp k) = true := fun k hk => vals_bd (n := n) (by omega) hi k ng hk hgat
 have hvl : ∀ k, (vals gs inp k).length = n + k := fun k => by rw [Zbz]; omega
 have HV := zH hvb; have HL := zH hvl; clear hvb hvl
 go_enter Try.func77, Try.ntmps77
 go_wp2_with fail
 refine (Clone_any A n c inp _ (ha.below hB lR) (by omega)).mono ?_
 rintro e w1 ⟨A1, c1, rfl, hown1, hb1⟩
 have hz1 := hb1.size
 simp only [World.size_alloc] at hz1 hown1
 have hz1' : w.heap.size < w1.heap.size := by omega
 obtain ⟨hc1, hf1⟩ := bcell hb1
 have hb1' := hb1
 simp only [World.size_alloc] at hb1'
 go_wp2_with fail
 go_loopw [5, 14] (fun v i wr => ∃ (k : Nat) (A' : Option Addr) (c' : Nat), k ≤ ng ∧ i = .int .i64 k ∧ v = .slice A' (n + k : Nat) c' ∧ Own wr (w.heap.size + 1) wr.heap.size (.slice A' (n + k) c') (n + k) (vals gs inp k) ∧ Below (w.heap.size + 1) (w.alloc (.cells #[.int .i64 x, .int .i64 y, .slice Ag ng cg, .slice Ao no co] 43)) wr) (fun _ i _ => ng - (intOf i).toNat)
 case atStart => exact ⟨0, _, _, Nat.zero_le _, rfl, rfl, hown1, hb1'⟩
 case round =>
  obtain ⟨k, A', c', hk, rfl, rfl, hown, hb⟩ := hrel
  clear hown1 hc1 hf1 hb1 hb1' hz1 hz1'
  have hbw : Below w.heap.size w wr := hB.trans (hb.mono (by omega))
  by_cases hlt : k < ng
  ·obtain ⟨b, o, rfl, hbB, c1, c2, c3⟩ := (hg.below hbw lR).at_ hlt
   have hgt := gatesB_at hgat hlt
   have hsn := zH (vals_succ gs inp k)
   have hvk := HV.out k (by omega)
   have hlk := HL.out k
   have hz := hb.size
   simp only [World.size_alloc] at hz
   generalize vals gs inp k = vs at *
   generalize gg gs k = G at *
   obtain ⟨gk, ga, gb⟩ := G
   dsimp only at c1 c2 c3
   cases hgt with
   | xor_ hk0 a0 a1 b0 b1 =>
    dsimp only at hk0 a0 a1 b0 b1
    obtain ⟨a, rfl⟩ := Int.eq_ofNat_of_zero_le a0
    obtain ⟨b', rfl⟩ := Int.eq_ofNat_of_zero_le b0
    subst hk0
    obtain ⟨g, rfl, hg1, hg2, hg3⟩ := hown.some_ (by omega)
    obtain ⟨d1, _⟩ := hown.cellAt (k := a) (by omega)
    obtain ⟨d2, _⟩ := hown.cellAt (k := b') (by omega)
    have hsn' : Hid (vals gs inp (k + 1) = vs ++ [bits .xor .i64 (gi vs a) (gi vs b')]) := zH (by rw [hsn.out, gval, if_pos rfl]; rfl)
    have hbx : Below wr.heap.size wr (wr.alloc (.cells #[.int .i64 0, .int .i64 a, .int .i64 b'] 89)) := bA
    have e1 := Zbw d1 hbx
    have e2 := Zbw d2 hbx
    have hownA := fun q => ((hown.below hbx (.inl lR)).drewN q).alloc (.cells #[.int .i64 (bits .xor .i64 (gi vs a) (gi vs b'))] 3)
    have hbA := fun q => (Zak (hb.alloc hz (.cells #[.int .i64 0, .int .i64 a, .int .i64 b'] 89)) q).alloc (by simp; omega) (.cells #[.int .i64 (bits .xor .i64 (gi vs a) (gi vs b'))] 3)
    clear d1 d2
    go_wp2_with fail
    go_quiet (fail)
    go_wp2_with (at_builtin; refine Zae _ rfl _ _ rfl rfl (hownA _) rfl (Zbb _ _ _ _ (by simp)) (by omega) oM ?_; intro A5 c5 w5 hown5 hg5 hat5 hk5)
    have hb5 := Zaf (hbA _) (hownA _) hg5 (by simp; omega) lR
    rw [← hsn'.out] at hown5
    clear hownA hbA hg5 hat5 hk5 e1 e2 hown hb
    go_wp2
    go_roundw
    case rel => exact ⟨k + 1, _, _, by omega, by go_num, rfl, hown5, hb5⟩
    case measure => simp [intOf]; omega
   | and_ hk0 a0 a1 b0 b1 =>
    dsimp only at hk0 a0 a1 b0 b1
    obtain ⟨a, rfl⟩ := Int.eq_ofNat_of_zero_le a0
    obtain ⟨b', rfl⟩ := Int.eq_ofNat_of_zero_le b0
    subst hk0
    obtain ⟨g, rfl, hg1, hg2, hg3⟩ := hown.some_ (by omega)
    obtain ⟨d1, _⟩ := hown.cellAt (k := a) (by omega)
    obtain ⟨d2, _⟩ := hown.cellAt (k := b') (by omega)
    have hsn' : Hid (vals gs inp (k + 1) = vs ++ [bits .and .i64 (gi vs a) (gi vs b')]) := zH (by rw [hsn.out, gval, if_neg (by show ¬ ((1 : Int) = 0); decide), if_pos rfl]; rfl)
    have hbx : Below wr.heap.size wr (wr.alloc (.cells #[.int .i64 1, .int .i64 a, .int .i64 b'] 89)) := bA
    have e1 := Zbw d1 hbx
    have e2 := Zbw d2 hbx
    have hownA := fun q => ((hown.below hbx (.inl lR)).drewN q).alloc (.cells #[.int .i64 (bits .and .i64 (gi vs a) (gi vs b'))] 3)
    have hbA := fun q => (Zak (hb.alloc hz (.cells #[.int .i64 1, .int .i64 a, .int .i64 b'] 89)) q).alloc (by simp; omega) (.cells #[.int .i64 (bits .and .i64 (gi vs a) (gi vs b'))] 3)
    clear d1 d2
    go_wp2_with fail
    go_quiet (fail)
    go_wp2_with (at_builtin; refine Zae _ rfl _ _ rfl rfl (hownA _) rfl (Zbb _ _ _ _ (by simp)) (by omega) oM ?_; intro A5 c5 w5 hown5 hg5 hat5 hk5)
    have hb5 := Zaf (hbA _) (hownA _) hg5 (by simp; omega) lR
    rw [← hsn'.out] at hown5
    clear hownA hbA hg5 hat5 hk5 e1 e2 hown hb
    go_wp2
    go_roundw
    case rel => exact ⟨k + 1, _, _, by omega, by go_num, rfl, hown5, hb5⟩
    case measure => simp [intOf]; omega
   | not_ hk0 a0 a1 b0 =>
    dsimp only at hk0 a0 a1 b0
    obtain ⟨a, rfl⟩ := Int.eq_ofNat_of_zero_le a0
    subst hk0
    subst b0
    obtain ⟨g, rfl, hg1, hg2, hg3⟩ := hown.some_ (by omega)
    obtain ⟨d1, _⟩ := hown.cellAt (k := a) (by omega)
    have hvx := Zbk hvk (j := a) (by omega)
    obtain ⟨hv0, hv1⟩ := hvx
    have hsn' : Hid (vals gs inp (k + 1) = vs ++ [1 - gi vs a]) := zH (by rw [hsn.out, gval, if_neg (by show ¬ ((2 : Int) = 0); decide), if_neg (by show ¬ ((2 : Int) = 1); decide), if_pos rfl]; rfl)
    have hbx : Below wr.heap.size wr (wr.alloc (.cells #[.int .i64 2, .int .i64 a, .int .i64 0] 89)) := bA
    have e1 := Zbw d1 hbx
    have hownA := (hown.below hbx (.inl lR)).alloc (.cells #[.int .i64 (1 - gi vs a)] 3)
    have hbA := (hb.alloc hz (.cells #[.int .i64 2, .int .i64 a, .int .i64 0] 89)).alloc (by simp; omega) (.cells #[.int .i64 (1 - gi vs a)] 3)
    clear d1
    go_wp2_with (at_builtin; refine Zao _ rfl _ _ rfl rfl hownA rfl (Zbb _ _ _ _ (by simp)) (by omega) oM ?_; intro A5 c5 w5 hown5 hg5 hat5)
    have hb5 := Zaf hbA hownA hg5 (by simp; omega) lR
    rw [← hsn'.out] at hown5
    clear hownA hbA hg5 hat5 e1 hown hb
    go_wp2
    go_roundw
    case rel => exact ⟨k + 1, _, _, by omega, by go_num, rfl, hown5, hb5⟩
    case measure => simp [intOf]; omega
   | one_ hk0 a0 b0 =>
    dsimp only at hk0 a0 b0
    subst hk0
    subst a0
    subst b0
    have hsn' : Hid (vals gs inp (k + 1) = vs ++ [1]) := zH (by rw [hsn.out, gval, if_neg (by show ¬ ((3 : Int) = 0); decide), if_neg (by show ¬ ((3 : Int) = 1); decide), if_neg (by show ¬ ((3 : Int) = 2); decide)])
    have hbx : Below wr.heap.size wr (wr.alloc (.cells #[.int .i64 3, .int .i64 0, .int .i64 0] 89)) := bA
    have hownA := (hown.below hbx (.inl lR)).alloc (.cells #[.int .i64 1] 3)
    have hbA := (hb.alloc hz (.cells #[.int .i64 3, .int .i64 0, .int .i64 0] 89)).alloc (by simp; omega) (.cells #[.int .i64 1] 3)
    go_wp2_with (at_builtin; refine Zao _ rfl _ _ rfl rfl hownA rfl (Zbb _ _ _ _ (by simp)) (by omega) oM ?_; intro A5 c5 w5 hown5 hg5 hat5)
    have hb5 := Zaf hbA hownA hg5 (by simp; omega) lR
    rw [← hsn'.out] at hown5
    clear hownA hbA hg5 hat5 hown hb
    go_wp2
    go_roundw
    case rel => exact ⟨k + 1, _, _, by omega, by go_num, rfl, hown5, hb5⟩
    case measure => simp [intOf]; omega
  ·obtain rfl : ng = k := by omega
   go_wp2
   go_ret
   exact RetI.mk_ (HL.out ng) rfl (hown.lo_ (by omega)) hbw
end Go.Proofs.Ytjeojnfpeppclaa
