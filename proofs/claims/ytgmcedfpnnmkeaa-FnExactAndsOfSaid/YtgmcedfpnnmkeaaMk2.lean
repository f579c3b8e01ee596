/- Contracts of makers' words: a gate, each kind of gate; spans. -/
import Derived.Test.YtgmcedfpnnmkeaaMk
import Derived.Test.YtgmcedfpnnmkeaaGad
namespace Go.Proofs.Ytgmcedfpnnmkeaa
open Go.RowKit
set_option linter.unusedVariables false
set_option linter.unusedSimpArgs false

set_option maxHeartbeats 800000 in
theorem maker_gate_any (lo b : Nat) (x y : Int) (gs : List G3) (G : Option Nat) (k p q : Int) (w : World) (hm : Mk w lo b x y gs G) (hx : 0 ≤ x ∧ x ≤ 20) (hy : 0 ≤ y ∧ y ≤ 20) (hn : gs.length ≤ 100000) (hlo : lo ≤ w.heap.size) :
    Calls Try.prog 210 #[.pointer (some ⟨b, 0, none⟩), .int .i64 k, .int .i64 p, .int .i64 q] w (RetW lo b x y (gs ++ [⟨k, p, q⟩]) G (x + y + gs.length) w) := by
  obtain ⟨h1, h2, hf, Ag, cg, hbx, hown, rfl⟩ := hm
  have hal : Below w.heap.size w (w.alloc (.cells #[.int .i64 k, .int .i64 p, .int .i64 q] 80)) := (Below.refl _ _).alloc (Nat.le_refl _) _
  have hownA := hown.alloc (.cells #[.int .i64 k, .int .i64 p, .int .i64 q] 80)
  have hbxA := hbx.below hal
  have hbb : b < (w.alloc (.cells #[.int .i64 k, .int .i64 p, .int .i64 q] 80)).heap.size := by simp; omega
  have hfA : ∀ r : Nat, (w.alloc (.cells #[.int .i64 k, .int .i64 p, .int .i64 q] 80)).frozen? ⟨b, r, none⟩ = false := fun r => (hal.frozen (p := ⟨b, r, none⟩) h1).trans (hf r)
  have hq := hbx; obtain ⟨k0, k1, k2, k3⟩ := hq
  go_enter Try.func210, Try.ntmps210
  go_wp2_with (at_builtin; refine wpList_appG _ rfl _ _ rfl rfl hownA rfl (RG_new1 _ _ _ _ _) (by omega) (by simp; omega) ?_; intro A5 c5 w5 hown5 hg5 hat5 hk5; obtain ⟨hmk, hmv⟩ := Mk.made hbb h2 hfA hbxA hown5 hg5 hat5; have hq5 := hbxA.grown hg5 h2; obtain ⟨j0, j1, j2, j3⟩ := hq5; have hq6 := hmk; obtain ⟨_, _, hf6, A6, c6, hx6, _, _⟩ := hq6; have hf5 : w5.frozen? ⟨b, 2, none⟩ = false := (World.frozen?_setCell _ _ _ _).symm.trans (hf6 2); obtain ⟨i0, i1, i2, i3⟩ := hx6)
  have q1 : x + y + ((gs.length : Int) + 1) - 1 = x + y + gs.length := by omega
  clear j0 j1 j2 j3 i0 i1 i2 i3
  refine (Circuit_wires_any x y A6 (gs.length + 1) c6 none 0 0 _ hx hy (by omega)).mono ?_
  rintro e w6 ⟨rfl, hb6⟩
  go_wp2
  go_ret
  exact ⟨_, by rw [← q1]; rfl, hmk.below_ hb6 (Nat.le_refl _), (((Mv.refl_ b _ w).alloc_ _).trans_ hmv).below_ hb6 (Nat.le_refl _)⟩

set_option maxHeartbeats 800000 in
theorem ciMaker_gate_any (lo b : Nat) (x y : Int) (gs : List G3) (G : Option Nat) (k p q : Int) (w : World) (hm : Mk w lo b x y gs G) (hx : 0 ≤ x ∧ x ≤ 20) (hy : 0 ≤ y ∧ y ≤ 20) (hn : gs.length ≤ 100000) (hlo : lo ≤ w.heap.size) :
    Calls Try.prog 183 #[.pointer (some ⟨b, 0, none⟩), .int .i64 k, .int .i64 p, .int .i64 q] w (RetW lo b x y (gs ++ [⟨k, p, q⟩]) G (x + y + gs.length) w) := by
  obtain ⟨h1, h2, hf, Ag, cg, hbx, hown, rfl⟩ := hm
  have hal : Below w.heap.size w (w.alloc (.cells #[.int .i64 k, .int .i64 p, .int .i64 q] 80)) := (Below.refl _ _).alloc (Nat.le_refl _) _
  have hownA := hown.alloc (.cells #[.int .i64 k, .int .i64 p, .int .i64 q] 80)
  have hbxA := hbx.below hal
  have hbb : b < (w.alloc (.cells #[.int .i64 k, .int .i64 p, .int .i64 q] 80)).heap.size := by simp; omega
  have hfA : ∀ r : Nat, (w.alloc (.cells #[.int .i64 k, .int .i64 p, .int .i64 q] 80)).frozen? ⟨b, r, none⟩ = false := fun r => (hal.frozen (p := ⟨b, r, none⟩) h1).trans (hf r)
  have hq := hbx; obtain ⟨k0, k1, k2, k3⟩ := hq
  go_enter Try.func183, Try.ntmps183
  go_wp2_with (at_builtin; refine wpList_appG _ rfl _ _ rfl rfl hownA rfl (RG_new1 _ _ _ _ _) (by omega) (by simp; omega) ?_; intro A5 c5 w5 hown5 hg5 hat5 hk5; obtain ⟨hmk, hmv⟩ := Mk.made hbb h2 hfA hbxA hown5 hg5 hat5; have hq5 := hbxA.grown hg5 h2; obtain ⟨j0, j1, j2, j3⟩ := hq5; have hq6 := hmk; obtain ⟨_, _, hf6, A6, c6, hx6, _, _⟩ := hq6; have hf5 : w5.frozen? ⟨b, 2, none⟩ = false := (World.frozen?_setCell _ _ _ _).symm.trans (hf6 2); obtain ⟨i0, i1, i2, i3⟩ := hx6)
  have q1 : x + y + ((gs.length : Int) + 1) - 1 = x + y + gs.length := by omega
  clear j0 j1 j2 j3 i0 i1 i2 i3
  refine (ciWires_any x y A6 (gs.length + 1) c6 none 0 0 _ hx hy (by omega)).mono ?_
  rintro e w6 ⟨rfl, hb6⟩
  go_wp2
  go_ret
  exact ⟨_, by rw [← q1]; rfl, hmk.below_ hb6 (Nat.le_refl _), (((Mv.refl_ b _ w).alloc_ _).trans_ hmv).below_ hb6 (Nat.le_refl _)⟩

theorem maker_xor_any (lo b : Nat) (x y : Int) (gs : List G3) (G : Option Nat) (p q : Int) (w : World) (hm : Mk w lo b x y gs G) (hx : 0 ≤ x ∧ x ≤ 20) (hy : 0 ≤ y ∧ y ≤ 20) (hn : gs.length ≤ 100000) (hlo : lo ≤ w.heap.size) :
    Calls Try.prog 177 #[.pointer (some ⟨b, 0, none⟩), .int .i64 p, .int .i64 q] w (RetW lo b x y (gs ++ [⟨0, p, q⟩]) G (x + y + gs.length) w) := by
  go_enter Try.func177, Try.ntmps177
  go_wp2_with fail
  refine (maker_gate_any lo b x y gs G 0 p q w hm hx hy hn hlo).mono ?_
  rintro e w1 ⟨G1, rfl, hm1, hv1⟩
  go_wp2
  go_ret
  exact ⟨G1, rfl, hm1, hv1⟩

theorem maker_and_any (lo b : Nat) (x y : Int) (gs : List G3) (G : Option Nat) (p q : Int) (w : World) (hm : Mk w lo b x y gs G) (hx : 0 ≤ x ∧ x ≤ 20) (hy : 0 ≤ y ∧ y ≤ 20) (hn : gs.length ≤ 100000) (hlo : lo ≤ w.heap.size) :
    Calls Try.prog 176 #[.pointer (some ⟨b, 0, none⟩), .int .i64 p, .int .i64 q] w (RetW lo b x y (gs ++ [⟨1, p, q⟩]) G (x + y + gs.length) w) := by
  go_enter Try.func176, Try.ntmps176
  go_wp2_with fail
  refine (maker_gate_any lo b x y gs G 1 p q w hm hx hy hn hlo).mono ?_
  rintro e w1 ⟨G1, rfl, hm1, hv1⟩
  go_wp2
  go_ret
  exact ⟨G1, rfl, hm1, hv1⟩

theorem ciMaker_xor_any (lo b : Nat) (x y : Int) (gs : List G3) (G : Option Nat) (p q : Int) (w : World) (hm : Mk w lo b x y gs G) (hx : 0 ≤ x ∧ x ≤ 20) (hy : 0 ≤ y ∧ y ≤ 20) (hn : gs.length ≤ 100000) (hlo : lo ≤ w.heap.size) :
    Calls Try.prog 218 #[.pointer (some ⟨b, 0, none⟩), .int .i64 p, .int .i64 q] w (RetW lo b x y (gs ++ [⟨0, p, q⟩]) G (x + y + gs.length) w) := by
  go_enter Try.func218, Try.ntmps218
  go_wp2_with fail
  refine (ciMaker_gate_any lo b x y gs G 0 p q w hm hx hy hn hlo).mono ?_
  rintro e w1 ⟨G1, rfl, hm1, hv1⟩
  go_wp2
  go_ret
  exact ⟨G1, rfl, hm1, hv1⟩

theorem ciMaker_and_any (lo b : Nat) (x y : Int) (gs : List G3) (G : Option Nat) (p q : Int) (w : World) (hm : Mk w lo b x y gs G) (hx : 0 ≤ x ∧ x ≤ 20) (hy : 0 ≤ y ∧ y ≤ 20) (hn : gs.length ≤ 100000) (hlo : lo ≤ w.heap.size) :
    Calls Try.prog 220 #[.pointer (some ⟨b, 0, none⟩), .int .i64 p, .int .i64 q] w (RetW lo b x y (gs ++ [⟨1, p, q⟩]) G (x + y + gs.length) w) := by
  go_enter Try.func220, Try.ntmps220
  go_wp2_with fail
  refine (ciMaker_gate_any lo b x y gs G 1 p q w hm hx hy hn hlo).mono ?_
  rintro e w1 ⟨G1, rfl, hm1, hv1⟩
  go_wp2
  go_ret
  exact ⟨G1, rfl, hm1, hv1⟩

theorem maker_not_any (lo b : Nat) (x y : Int) (gs : List G3) (G : Option Nat) (p : Int) (w : World) (hm : Mk w lo b x y gs G) (hx : 0 ≤ x ∧ x ≤ 20) (hy : 0 ≤ y ∧ y ≤ 20) (hn : gs.length ≤ 100000) (hlo : lo ≤ w.heap.size) :
    Calls Try.prog 178 #[.pointer (some ⟨b, 0, none⟩), .int .i64 p] w (RetW lo b x y (gs ++ [⟨2, p, 0⟩]) G (x + y + gs.length) w) := by
  go_enter Try.func178, Try.ntmps178
  go_wp2_with fail
  refine (maker_gate_any lo b x y gs G 2 p 0 w hm hx hy hn hlo).mono ?_
  rintro e w1 ⟨G1, rfl, hm1, hv1⟩
  go_wp2
  go_ret
  exact ⟨G1, rfl, hm1, hv1⟩

theorem ciMaker_not_any (lo b : Nat) (x y : Int) (gs : List G3) (G : Option Nat) (p : Int) (w : World) (hm : Mk w lo b x y gs G) (hx : 0 ≤ x ∧ x ≤ 20) (hy : 0 ≤ y ∧ y ≤ 20) (hn : gs.length ≤ 100000) (hlo : lo ≤ w.heap.size) :
    Calls Try.prog 219 #[.pointer (some ⟨b, 0, none⟩), .int .i64 p] w (RetW lo b x y (gs ++ [⟨2, p, 0⟩]) G (x + y + gs.length) w) := by
  go_enter Try.func219, Try.ntmps219
  go_wp2_with fail
  refine (ciMaker_gate_any lo b x y gs G 2 p 0 w hm hx hy hn hlo).mono ?_
  rintro e w1 ⟨G1, rfl, hm1, hv1⟩
  go_wp2
  go_ret
  exact ⟨G1, rfl, hm1, hv1⟩

theorem ciMaker_one_any (lo b : Nat) (x y : Int) (gs : List G3) (G : Option Nat) (w : World) (hm : Mk w lo b x y gs G) (hx : 0 ≤ x ∧ x ≤ 20) (hy : 0 ≤ y ∧ y ≤ 20) (hn : gs.length ≤ 100000) (hlo : lo ≤ w.heap.size) :
    Calls Try.prog 182 #[.pointer (some ⟨b, 0, none⟩)] w (RetW lo b x y (gs ++ [⟨3, 0, 0⟩]) G (x + y + gs.length) w) := by
  go_enter Try.func182, Try.ntmps182
  go_wp2_with fail
  refine (ciMaker_gate_any lo b x y gs G 3 0 0 w hm hx hy hn hlo).mono ?_
  rintro e w1 ⟨G1, rfl, hm1, hv1⟩
  go_wp2
  go_ret
  exact ⟨G1, rfl, hm1, hv1⟩

theorem maker_xor_v (lo b : Nat) (x y : Int) (gs : List G3) (G : Option Nat) (p q v : Int) (w : World) (hm : Mk w lo b x y gs G) (hx : 0 ≤ x ∧ x ≤ 20) (hy : 0 ≤ y ∧ y ≤ 20) (hn : gs.length ≤ 100000) (hlo : lo ≤ w.heap.size) (hv : x + y + (gs.length : Int) = v) :
    Calls Try.prog 177 #[.pointer (some ⟨b, 0, none⟩), .int .i64 p, .int .i64 q] w (RetW lo b x y (gs ++ [⟨0, p, q⟩]) G v w) := by
  subst hv; exact maker_xor_any lo b x y gs G p q w hm hx hy hn hlo

theorem maker_and_v (lo b : Nat) (x y : Int) (gs : List G3) (G : Option Nat) (p q v : Int) (w : World) (hm : Mk w lo b x y gs G) (hx : 0 ≤ x ∧ x ≤ 20) (hy : 0 ≤ y ∧ y ≤ 20) (hn : gs.length ≤ 100000) (hlo : lo ≤ w.heap.size) (hv : x + y + (gs.length : Int) = v) :
    Calls Try.prog 176 #[.pointer (some ⟨b, 0, none⟩), .int .i64 p, .int .i64 q] w (RetW lo b x y (gs ++ [⟨1, p, q⟩]) G v w) := by
  subst hv; exact maker_and_any lo b x y gs G p q w hm hx hy hn hlo

theorem ciMaker_xor_v (lo b : Nat) (x y : Int) (gs : List G3) (G : Option Nat) (p q v : Int) (w : World) (hm : Mk w lo b x y gs G) (hx : 0 ≤ x ∧ x ≤ 20) (hy : 0 ≤ y ∧ y ≤ 20) (hn : gs.length ≤ 100000) (hlo : lo ≤ w.heap.size) (hv : x + y + (gs.length : Int) = v) :
    Calls Try.prog 218 #[.pointer (some ⟨b, 0, none⟩), .int .i64 p, .int .i64 q] w (RetW lo b x y (gs ++ [⟨0, p, q⟩]) G v w) := by
  subst hv; exact ciMaker_xor_any lo b x y gs G p q w hm hx hy hn hlo

theorem ciMaker_and_v (lo b : Nat) (x y : Int) (gs : List G3) (G : Option Nat) (p q v : Int) (w : World) (hm : Mk w lo b x y gs G) (hx : 0 ≤ x ∧ x ≤ 20) (hy : 0 ≤ y ∧ y ≤ 20) (hn : gs.length ≤ 100000) (hlo : lo ≤ w.heap.size) (hv : x + y + (gs.length : Int) = v) :
    Calls Try.prog 220 #[.pointer (some ⟨b, 0, none⟩), .int .i64 p, .int .i64 q] w (RetW lo b x y (gs ++ [⟨1, p, q⟩]) G v w) := by
  subst hv; exact ciMaker_and_any lo b x y gs G p q w hm hx hy hn hlo

theorem maker_not_v (lo b : Nat) (x y : Int) (gs : List G3) (G : Option Nat) (p v : Int) (w : World) (hm : Mk w lo b x y gs G) (hx : 0 ≤ x ∧ x ≤ 20) (hy : 0 ≤ y ∧ y ≤ 20) (hn : gs.length ≤ 100000) (hlo : lo ≤ w.heap.size) (hv : x + y + (gs.length : Int) = v) :
    Calls Try.prog 178 #[.pointer (some ⟨b, 0, none⟩), .int .i64 p] w (RetW lo b x y (gs ++ [⟨2, p, 0⟩]) G v w) := by
  subst hv; exact maker_not_any lo b x y gs G p w hm hx hy hn hlo

theorem ciMaker_not_v (lo b : Nat) (x y : Int) (gs : List G3) (G : Option Nat) (p v : Int) (w : World) (hm : Mk w lo b x y gs G) (hx : 0 ≤ x ∧ x ≤ 20) (hy : 0 ≤ y ∧ y ≤ 20) (hn : gs.length ≤ 100000) (hlo : lo ≤ w.heap.size) (hv : x + y + (gs.length : Int) = v) :
    Calls Try.prog 219 #[.pointer (some ⟨b, 0, none⟩), .int .i64 p] w (RetW lo b x y (gs ++ [⟨2, p, 0⟩]) G v w) := by
  subst hv; exact ciMaker_not_any lo b x y gs G p w hm hx hy hn hlo

end Go.Proofs.Ytgmcedfpnnmkeaa
