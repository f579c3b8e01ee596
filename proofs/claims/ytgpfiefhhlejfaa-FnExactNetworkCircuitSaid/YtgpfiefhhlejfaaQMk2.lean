/- Contracts of makers' words: a gate, each kind of gate; spans. Contracts of makers' adders. Contracts of makers' comparisons and choices. Contracts: spans, a circuit that is valid, a gadget. -/
import Derived.Test.YtgpfiefhhlejfaaQMk
import Derived.Test.YtgpfiefhhlejfaaQGad
import Derived.Test.YtgpfiefhhlejfaaQEval
namespace Go.Proofs.Ytgpfiefhhlejfaa
open Go.RowKit
set_option linter.unusedVariables false
set_option linter.unusedSimpArgs false

set_option maxHeartbeats 800000 in
theorem maker_gate_any (lo b : Nat) (x y : Int) (gs : List G3) (G : Option Nat) (k p q : Int) (w : World) (hm : Mk w lo b x y gs G) (hx : 0 ≤ x ∧ x ≤ 20) (hy : 0 ≤ y ∧ y ≤ 20) (hn : gs.length ≤ 100000) (hlo : lo ≤ w.heap.size) :
    Calls Try.prog 88 #[.pointer (some ⟨b, 0, none⟩), .int .i64 k, .int .i64 p, .int .i64 q] w (RetW lo b x y (gs ++ [⟨k, p, q⟩]) G (x + y + gs.length) w) := by
  obtain ⟨h1, h2, hf, Ag, cg, hbx, hown, rfl⟩ := hm
  have hal : Below w.heap.size w (w.alloc (.cells #[.int .i64 k, .int .i64 p, .int .i64 q] 88)) := (Below.refl _ _).alloc (Nat.le_refl _) _
  have hownA := hown.alloc (.cells #[.int .i64 k, .int .i64 p, .int .i64 q] 88)
  have hbxA := hbx.below hal
  have hbb : b < (w.alloc (.cells #[.int .i64 k, .int .i64 p, .int .i64 q] 88)).heap.size := by simp; omega
  have hfA : ∀ r : Nat, (w.alloc (.cells #[.int .i64 k, .int .i64 p, .int .i64 q] 88)).frozen? ⟨b, r, none⟩ = false := fun r => (hal.frozen (p := ⟨b, r, none⟩) h1).trans (hf r)
  have hq := hbx; obtain ⟨k0, k1, k2, k3⟩ := hq
  go_enter Try.func88, Try.ntmps88
  go_wp2_with (at_builtin; refine wpList_appG _ rfl _ _ rfl rfl hownA rfl (RG_new1 _ _ _ _ _) (by omega) (by simp; omega) ?_; intro A5 c5 w5 hown5 hg5 hat5 hk5; obtain ⟨hmk, hmv⟩ := Mk.made hbb h2 hfA hbxA hown5 hg5 hat5; have hq5 := hbxA.grown hg5 h2; obtain ⟨j0, j1, j2, j3⟩ := hq5; have hq6 := hmk; obtain ⟨_, _, hf6, A6, c6, hx6, _, _⟩ := hq6; have hf5 : w5.frozen? ⟨b, 2, none⟩ = false := (World.frozen?_setCell _ _ _ _).symm.trans (hf6 2); obtain ⟨i0, i1, i2, i3⟩ := hx6)
  have q1 : x + y + ((gs.length : Int) + 1) - 1 = x + y + gs.length := by omega
  clear j0 j1 j2 j3 i0 i1 i2 i3
  refine (Circuit_wires_any x y A6 (gs.length + 1) c6 none 0 0 _ hx hy (by omega)).mono ?_
  rintro e w6 ⟨rfl, hb6⟩
  go_wp2
  go_ret
  exact ⟨_, by rw [← q1]; rfl, hmk.below_ hb6 (Nat.le_refl _), (((Mv.refl_ b _ w).alloc_ _).trans_ hmv).below_ hb6 (Nat.le_refl _)⟩

set_option maxHeartbeats 800000 in
theorem ciMaker_gate_any (lo b : Nat) (x y : Int) (gs : List G3) (G : Option Nat) (k p q : Int) (w : World) (hm : Mk w lo b x y gs G) (hx : 0 ≤ x ∧ x ≤ 20) (hy : 0 ≤ y ∧ y ≤ 20) (hn : gs.length ≤ 100000) (hlo : lo ≤ w.heap.size) :
    Calls Try.prog 58 #[.pointer (some ⟨b, 0, none⟩), .int .i64 k, .int .i64 p, .int .i64 q] w (RetW lo b x y (gs ++ [⟨k, p, q⟩]) G (x + y + gs.length) w) := by
  obtain ⟨h1, h2, hf, Ag, cg, hbx, hown, rfl⟩ := hm
  have hal : Below w.heap.size w (w.alloc (.cells #[.int .i64 k, .int .i64 p, .int .i64 q] 88)) := (Below.refl _ _).alloc (Nat.le_refl _) _
  have hownA := hown.alloc (.cells #[.int .i64 k, .int .i64 p, .int .i64 q] 88)
  have hbxA := hbx.below hal
  have hbb : b < (w.alloc (.cells #[.int .i64 k, .int .i64 p, .int .i64 q] 88)).heap.size := by simp; omega
  have hfA : ∀ r : Nat, (w.alloc (.cells #[.int .i64 k, .int .i64 p, .int .i64 q] 88)).frozen? ⟨b, r, none⟩ = false := fun r => (hal.frozen (p := ⟨b, r, none⟩) h1).trans (hf r)
  have hq := hbx; obtain ⟨k0, k1, k2, k3⟩ := hq
  go_enter Try.func58, Try.ntmps58
  go_wp2_with (at_builtin; refine wpList_appG _ rfl _ _ rfl rfl hownA rfl (RG_new1 _ _ _ _ _) (by omega) (by simp; omega) ?_; intro A5 c5 w5 hown5 hg5 hat5 hk5; obtain ⟨hmk, hmv⟩ := Mk.made hbb h2 hfA hbxA hown5 hg5 hat5; have hq5 := hbxA.grown hg5 h2; obtain ⟨j0, j1, j2, j3⟩ := hq5; have hq6 := hmk; obtain ⟨_, _, hf6, A6, c6, hx6, _, _⟩ := hq6; have hf5 : w5.frozen? ⟨b, 2, none⟩ = false := (World.frozen?_setCell _ _ _ _).symm.trans (hf6 2); obtain ⟨i0, i1, i2, i3⟩ := hx6)
  have q1 : x + y + ((gs.length : Int) + 1) - 1 = x + y + gs.length := by omega
  clear j0 j1 j2 j3 i0 i1 i2 i3
  refine (ciWires_any x y A6 (gs.length + 1) c6 none 0 0 _ hx hy (by omega)).mono ?_
  rintro e w6 ⟨rfl, hb6⟩
  go_wp2
  go_ret
  exact ⟨_, by rw [← q1]; rfl, hmk.below_ hb6 (Nat.le_refl _), (((Mv.refl_ b _ w).alloc_ _).trans_ hmv).below_ hb6 (Nat.le_refl _)⟩

theorem maker_xor_any (lo b : Nat) (x y : Int) (gs : List G3) (G : Option Nat) (p q : Int) (w : World) (hm : Mk w lo b x y gs G) (hx : 0 ≤ x ∧ x ≤ 20) (hy : 0 ≤ y ∧ y ≤ 20) (hn : gs.length ≤ 100000) (hlo : lo ≤ w.heap.size) :
    Calls Try.prog 69 #[.pointer (some ⟨b, 0, none⟩), .int .i64 p, .int .i64 q] w (RetW lo b x y (gs ++ [⟨0, p, q⟩]) G (x + y + gs.length) w) := by
  go_enter Try.func69, Try.ntmps69
  go_wp2_with fail
  refine (maker_gate_any lo b x y gs G 0 p q w hm hx hy hn hlo).mono ?_
  rintro e w1 ⟨G1, rfl, hm1, hv1⟩
  go_wp2
  go_ret
  exact ⟨G1, rfl, hm1, hv1⟩

theorem maker_and_any (lo b : Nat) (x y : Int) (gs : List G3) (G : Option Nat) (p q : Int) (w : World) (hm : Mk w lo b x y gs G) (hx : 0 ≤ x ∧ x ≤ 20) (hy : 0 ≤ y ∧ y ≤ 20) (hn : gs.length ≤ 100000) (hlo : lo ≤ w.heap.size) :
    Calls Try.prog 70 #[.pointer (some ⟨b, 0, none⟩), .int .i64 p, .int .i64 q] w (RetW lo b x y (gs ++ [⟨1, p, q⟩]) G (x + y + gs.length) w) := by
  go_enter Try.func70, Try.ntmps70
  go_wp2_with fail
  refine (maker_gate_any lo b x y gs G 1 p q w hm hx hy hn hlo).mono ?_
  rintro e w1 ⟨G1, rfl, hm1, hv1⟩
  go_wp2
  go_ret
  exact ⟨G1, rfl, hm1, hv1⟩

theorem ciMaker_xor_any (lo b : Nat) (x y : Int) (gs : List G3) (G : Option Nat) (p q : Int) (w : World) (hm : Mk w lo b x y gs G) (hx : 0 ≤ x ∧ x ≤ 20) (hy : 0 ≤ y ∧ y ≤ 20) (hn : gs.length ≤ 100000) (hlo : lo ≤ w.heap.size) :
    Calls Try.prog 84 #[.pointer (some ⟨b, 0, none⟩), .int .i64 p, .int .i64 q] w (RetW lo b x y (gs ++ [⟨0, p, q⟩]) G (x + y + gs.length) w) := by
  go_enter Try.func84, Try.ntmps84
  go_wp2_with fail
  refine (ciMaker_gate_any lo b x y gs G 0 p q w hm hx hy hn hlo).mono ?_
  rintro e w1 ⟨G1, rfl, hm1, hv1⟩
  go_wp2
  go_ret
  exact ⟨G1, rfl, hm1, hv1⟩

theorem ciMaker_and_any (lo b : Nat) (x y : Int) (gs : List G3) (G : Option Nat) (p q : Int) (w : World) (hm : Mk w lo b x y gs G) (hx : 0 ≤ x ∧ x ≤ 20) (hy : 0 ≤ y ∧ y ≤ 20) (hn : gs.length ≤ 100000) (hlo : lo ≤ w.heap.size) :
    Calls Try.prog 86 #[.pointer (some ⟨b, 0, none⟩), .int .i64 p, .int .i64 q] w (RetW lo b x y (gs ++ [⟨1, p, q⟩]) G (x + y + gs.length) w) := by
  go_enter Try.func86, Try.ntmps86
  go_wp2_with fail
  refine (ciMaker_gate_any lo b x y gs G 1 p q w hm hx hy hn hlo).mono ?_
  rintro e w1 ⟨G1, rfl, hm1, hv1⟩
  go_wp2
  go_ret
  exact ⟨G1, rfl, hm1, hv1⟩

theorem maker_not_any (lo b : Nat) (x y : Int) (gs : List G3) (G : Option Nat) (p : Int) (w : World) (hm : Mk w lo b x y gs G) (hx : 0 ≤ x ∧ x ≤ 20) (hy : 0 ≤ y ∧ y ≤ 20) (hn : gs.length ≤ 100000) (hlo : lo ≤ w.heap.size) :
    Calls Try.prog 71 #[.pointer (some ⟨b, 0, none⟩), .int .i64 p] w (RetW lo b x y (gs ++ [⟨2, p, 0⟩]) G (x + y + gs.length) w) := by
  go_enter Try.func71, Try.ntmps71
  go_wp2_with fail
  refine (maker_gate_any lo b x y gs G 2 p 0 w hm hx hy hn hlo).mono ?_
  rintro e w1 ⟨G1, rfl, hm1, hv1⟩
  go_wp2
  go_ret
  exact ⟨G1, rfl, hm1, hv1⟩

theorem ciMaker_not_any (lo b : Nat) (x y : Int) (gs : List G3) (G : Option Nat) (p : Int) (w : World) (hm : Mk w lo b x y gs G) (hx : 0 ≤ x ∧ x ≤ 20) (hy : 0 ≤ y ∧ y ≤ 20) (hn : gs.length ≤ 100000) (hlo : lo ≤ w.heap.size) :
    Calls Try.prog 85 #[.pointer (some ⟨b, 0, none⟩), .int .i64 p] w (RetW lo b x y (gs ++ [⟨2, p, 0⟩]) G (x + y + gs.length) w) := by
  go_enter Try.func85, Try.ntmps85
  go_wp2_with fail
  refine (ciMaker_gate_any lo b x y gs G 2 p 0 w hm hx hy hn hlo).mono ?_
  rintro e w1 ⟨G1, rfl, hm1, hv1⟩
  go_wp2
  go_ret
  exact ⟨G1, rfl, hm1, hv1⟩

theorem ciMaker_one_any (lo b : Nat) (x y : Int) (gs : List G3) (G : Option Nat) (w : World) (hm : Mk w lo b x y gs G) (hx : 0 ≤ x ∧ x ≤ 20) (hy : 0 ≤ y ∧ y ≤ 20) (hn : gs.length ≤ 100000) (hlo : lo ≤ w.heap.size) :
    Calls Try.prog 57 #[.pointer (some ⟨b, 0, none⟩)] w (RetW lo b x y (gs ++ [⟨3, 0, 0⟩]) G (x + y + gs.length) w) := by
  go_enter Try.func57, Try.ntmps57
  go_wp2_with fail
  refine (ciMaker_gate_any lo b x y gs G 3 0 0 w hm hx hy hn hlo).mono ?_
  rintro e w1 ⟨G1, rfl, hm1, hv1⟩
  go_wp2
  go_ret
  exact ⟨G1, rfl, hm1, hv1⟩

theorem maker_xor_v (lo b : Nat) (x y : Int) (gs : List G3) (G : Option Nat) (p q v : Int) (w : World) (hm : Mk w lo b x y gs G) (hx : 0 ≤ x ∧ x ≤ 20) (hy : 0 ≤ y ∧ y ≤ 20) (hn : gs.length ≤ 100000) (hlo : lo ≤ w.heap.size) (hv : x + y + (gs.length : Int) = v) :
    Calls Try.prog 69 #[.pointer (some ⟨b, 0, none⟩), .int .i64 p, .int .i64 q] w (RetW lo b x y (gs ++ [⟨0, p, q⟩]) G v w) := by
  subst hv; exact maker_xor_any lo b x y gs G p q w hm hx hy hn hlo

theorem maker_and_v (lo b : Nat) (x y : Int) (gs : List G3) (G : Option Nat) (p q v : Int) (w : World) (hm : Mk w lo b x y gs G) (hx : 0 ≤ x ∧ x ≤ 20) (hy : 0 ≤ y ∧ y ≤ 20) (hn : gs.length ≤ 100000) (hlo : lo ≤ w.heap.size) (hv : x + y + (gs.length : Int) = v) :
    Calls Try.prog 70 #[.pointer (some ⟨b, 0, none⟩), .int .i64 p, .int .i64 q] w (RetW lo b x y (gs ++ [⟨1, p, q⟩]) G v w) := by
  subst hv; exact maker_and_any lo b x y gs G p q w hm hx hy hn hlo

theorem ciMaker_xor_v (lo b : Nat) (x y : Int) (gs : List G3) (G : Option Nat) (p q v : Int) (w : World) (hm : Mk w lo b x y gs G) (hx : 0 ≤ x ∧ x ≤ 20) (hy : 0 ≤ y ∧ y ≤ 20) (hn : gs.length ≤ 100000) (hlo : lo ≤ w.heap.size) (hv : x + y + (gs.length : Int) = v) :
    Calls Try.prog 84 #[.pointer (some ⟨b, 0, none⟩), .int .i64 p, .int .i64 q] w (RetW lo b x y (gs ++ [⟨0, p, q⟩]) G v w) := by
  subst hv; exact ciMaker_xor_any lo b x y gs G p q w hm hx hy hn hlo

theorem ciMaker_and_v (lo b : Nat) (x y : Int) (gs : List G3) (G : Option Nat) (p q v : Int) (w : World) (hm : Mk w lo b x y gs G) (hx : 0 ≤ x ∧ x ≤ 20) (hy : 0 ≤ y ∧ y ≤ 20) (hn : gs.length ≤ 100000) (hlo : lo ≤ w.heap.size) (hv : x + y + (gs.length : Int) = v) :
    Calls Try.prog 86 #[.pointer (some ⟨b, 0, none⟩), .int .i64 p, .int .i64 q] w (RetW lo b x y (gs ++ [⟨1, p, q⟩]) G v w) := by
  subst hv; exact ciMaker_and_any lo b x y gs G p q w hm hx hy hn hlo

theorem maker_not_v (lo b : Nat) (x y : Int) (gs : List G3) (G : Option Nat) (p v : Int) (w : World) (hm : Mk w lo b x y gs G) (hx : 0 ≤ x ∧ x ≤ 20) (hy : 0 ≤ y ∧ y ≤ 20) (hn : gs.length ≤ 100000) (hlo : lo ≤ w.heap.size) (hv : x + y + (gs.length : Int) = v) :
    Calls Try.prog 71 #[.pointer (some ⟨b, 0, none⟩), .int .i64 p] w (RetW lo b x y (gs ++ [⟨2, p, 0⟩]) G v w) := by
  subst hv; exact maker_not_any lo b x y gs G p w hm hx hy hn hlo

theorem ciMaker_not_v (lo b : Nat) (x y : Int) (gs : List G3) (G : Option Nat) (p v : Int) (w : World) (hm : Mk w lo b x y gs G) (hx : 0 ≤ x ∧ x ≤ 20) (hy : 0 ≤ y ∧ y ≤ 20) (hn : gs.length ≤ 100000) (hlo : lo ≤ w.heap.size) (hv : x + y + (gs.length : Int) = v) :
    Calls Try.prog 85 #[.pointer (some ⟨b, 0, none⟩), .int .i64 p] w (RetW lo b x y (gs ++ [⟨2, p, 0⟩]) G v w) := by
  subst hv; exact ciMaker_not_any lo b x y gs G p w hm hx hy hn hlo

end Go.Proofs.Ytgpfiefhhlejfaa

namespace Go.Proofs.Ytgpfiefhhlejfaa
open Go.RowKit
set_option linter.unusedVariables false
set_option linter.unusedSimpArgs false

/-- An adder returns its sums and the last carry; the maker has grown. -/
def RetAd (lo b : Nat) (x y : Int) (s : Ad) (G : Option Nat) (n : Nat) (w : World) (e : Ending) (w' : World) : Prop :=
  ∃ G' O oc, e = .returned (.tuple #[.slice O n oc, .int .i64 s.c]) ∧ Mk w' lo b x y s.g G' ∧ Mv b G G' w w' ∧ OM w' b G' w.heap.size (.slice O n oc) n s.o
/-- A maker's word returns a row of wires; the maker has grown. -/
def RetRow (lo b : Nat) (x y : Int) (gs : List G3) (os : List Int) (G : Option Nat) (w : World) (e : Ending) (w' : World) : Prop :=
  ∃ G' O oc, e = .returned (.slice O os.length oc) ∧ Mk w' lo b x y gs G' ∧ Mv b G G' w w' ∧ OM w' b G' w.heap.size (.slice O os.length oc) os.length os
theorem RetRow.mk_ {lo b n : Nat} {x y : Int} {gs : List G3} {os : List Int} {G G' : Option Nat} {w w' : World} {e : Ending} {O : Option Addr} {oc : Nat} (hn : os.length = n) (he : e = .returned (.slice O n oc)) (hm : Mk w' lo b x y gs G') (hv : Mv b G G' w w') (ho : OM w' b G' w.heap.size (.slice O n oc) n os) : RetRow lo b x y gs os G w e w' := by
  subst hn; exact ⟨G', O, oc, he, hm, hv, ho⟩
theorem RetRow.open_ {lo b n : Nat} {x y : Int} {gs : List G3} {os : List Int} {G : Option Nat} {w w' : World} {e : Ending} (h : RetRow lo b x y gs os G w e w') (hn : os.length = n) :
    ∃ G' O oc, e = .returned (.slice O n oc) ∧ Mk w' lo b x y gs G' ∧ Mv b G G' w w' ∧ OM w' b G' w.heap.size (.slice O n oc) n os := by
  subst hn; exact h

set_option maxRecDepth 100000 in
set_option maxHeartbeats 8000000 in
theorem maker_subtract_any (lo b : Nat) (x y : Int) (g0 : List G3) (G : Option Nat) (A B : Option Addr) (n c d : Nat) (us vs : List Int) (w : World) (hm : Mk w lo b x y g0 G) (ha : RM w b G A n us) (hb : RM w b G B n vs) (hx : 0 ≤ x ∧ x ≤ 20) (hy : 0 ≤ y ∧ y ≤ 20) (hg : g0.length ≤ 50000) (hn : n ≤ 100) (hlo : lo ≤ w.heap.size) :
    Calls Try.prog 42 #[.pointer (some ⟨b, 0, none⟩), .slice A n c, .slice B n d] w (RetAd lo b x y (subS (x + y) g0 us vs n) G n w) := by
  have HG : Hid (∀ i, (subS (x + y) g0 us vs i).g.length ≤ g0.length + 6 * i) := Lib.hid (subS_g (x + y) g0 us vs)
  have HO : Hid (∀ i, (subS (x + y) g0 us vs i).o.length = i) := Lib.hid (subS_o (x + y) g0 us vs)
  have HC : Hid (∀ i, 0 ≤ (subS (x + y) g0 us vs (i + 1)).c) := Lib.hid (subS_c (by omega) g0 us vs)
  have H0 : Hid (subS (x + y) g0 us vs 0 = ⟨g0, [], -1⟩) := Lib.hid rfl
  have HS : Hid (∀ i, subS (x + y) g0 us vs (i + 1) = subStep (x + y + (subS (x + y) g0 us vs i).g.length) (gi us i) (gi vs i) i (subS (x + y) g0 us vs i)) := Lib.hid fun i => rfl
  generalize subS (x + y) g0 us vs = S at *
  have hst : Mk (w.alloc (.cells #[] 3)) lo b x y (S 0).g G ∧ OM (w.alloc (.cells #[] 3)) b G w.heap.size (.slice (some ⟨w.heap.size, 0, none⟩) 0 0) 0 (S 0).o ∧ Mv b G G w (w.alloc (.cells #[] 3)) := by
    rw [H0.out]; exact ⟨hm.alloc_ _, OM.new0 hm (Nat.le_refl _), (Mv.refl_ b G w).alloc_ _⟩
  obtain ⟨hm0, ho0, hv0⟩ := hst
  have hc0 : (S 0).c = -1 := by rw [H0.out]
  go_enter Try.func42, Try.ntmps42
  go_wp2
  go_loopw [8, 9, 17] (fun o v i wr => ∃ (k : Nat) (O : Option Addr) (oc : Nat) (G1 : Option Nat), k ≤ n ∧ i = .int .i64 k ∧ v = .int .i64 (S k).c ∧ o = .slice O k oc ∧ Mk wr lo b x y (S k).g G1 ∧ OM wr b G1 w.heap.size (.slice O k oc) k (S k).o ∧ Mv b G G1 w wr) (fun _ _ i _ => n - (intOf i).toNat)
  case atStart => exact ⟨0, _, _, _, Nat.zero_le _, rfl, by rw [hc0], rfl, hm0, ho0, hv0⟩
  case round =>
    obtain ⟨k, O, oc, G1, hk, rfl, rfl, rfl, hm1, ho1, hv1⟩ := hrel
    clear hm0 ho0 hv0
    have hz1 := hv1.size
    by_cases hlt : k < n
    · obtain ⟨ka, oa, rfl, hka, ca⟩ := ha.1.at_ hlt
      obtain ⟨kb, ob, rfl, hkb, cb⟩ := hb.1.at_ hlt
      obtain ⟨va, hva⟩ : ∃ va, Hid (gi us k = va) := ⟨_, Lib.hid rfl⟩
      obtain ⟨vb, hvb⟩ : ∃ vb, Hid (gi vs k = vb) := ⟨_, Lib.hid rfl⟩
      have hgl := HG.out k
      obtain ⟨SG, SO, SC, hSk⟩ : ∃ SG SO SC, Hid (S k = ⟨SG, SO, SC⟩) := ⟨_, _, _, Lib.hid rfl⟩
      have hS := Lib.hid (HS.out k)
      rw [hSk.out] at hm1 ho1 hgl
      rw [hva.out, hvb.out, hSk.out] at hS
      dsimp only at hm1 ho1 hgl hS
      obtain ⟨N, hN⟩ : ∃ N : Int, Hid (x + y + (SG.length : Int) = N) := ⟨_, Lib.hid rfl⟩
      rw [hN.out] at hS
      clear ca cb hka hkb
      have hcS : (S k).c = SC := by rw [hSk.out]
      rw [hcS]
      by_cases h0 : k = 0
      · have hz : ((k : Int) == 0) = true := by simp [h0]
        have hS1 : Hid (S (k + 1) = ⟨SG ++ [⟨0, va, vb⟩] ++ [⟨2, va, 0⟩] ++ [⟨1, N + 1, vb⟩], SO ++ [N], N + 2⟩) := Lib.hid (by rw [hS.out]; simp [subStep, h0])
        clear h0
        obtain ⟨ca, na, hka0⟩ := ha.cellV hv1 hlt hva
        obtain ⟨cb, nb, hkb0⟩ := hb.cellV hv1 hlt hvb
        have hfar := ho1.far
        go_wp2_with fail
        go_region_held3 (fun w' => w'.cell? ⟨ka, oa + k, none⟩ = some (.int .i64 va) ∧ w'.cell? ⟨kb, ob + k, none⟩ = some (.int .i64 vb))
          (first | (go_keep; done) | (go_split_ands; exact ⟨hv2_.cellF (by assumption) na, hv2_.cellF (by assumption) nb⟩) | (go_split_ands; exact ⟨hk5 _ _ _ (by assumption) (fun g9 hg9 he9 => by have := hfar _ hg9; omega), hk5 _ _ _ (by assumption) (fun g9 hg9 he9 => by have := hfar _ hg9; omega)⟩) | (go_split_ands; (repeat' apply And.intro) <;> (repeat (refine (World.cell?_setCell_other _ _ _ _ (by first | (simp; done) | (simp; omega))).trans ?_)) <;> assumption))
          (first | (go_at_call 69; refine (maker_xor_v lo b x y SG G1 va vb N _ (hm1.drewN_ 1) hx hy (by first | omega | (simp; omega)) (Nat.le_trans hlo (hv1.drewN_ 1).size) (by have := hN.out; first | omega | (simp; omega))).mono ?_; rintro e w2 ⟨G2, rfl, hm2, hv2_⟩; have hv2 := (hv1.drewN_ 1).trans_ hv2_; have hz2 := hv2.size; have ho2 := (ho1.drewN_ 1).mv hv2_; have na2 := hv2_.offF (Nat.lt_of_lt_of_le hka0 (hv1.drewN_ 1).size) na; have nb2 := hv2_.offF (Nat.lt_of_lt_of_le hkb0 (hv1.drewN_ 1).size) nb) | (refine step_appI _ (by rfl) _ _ (by rfl) (by rfl) ((ho2.alloc_ (.cells #[.int .i64 N] 3)).1) (by rfl) (RI_one _ _ _ _ (by simp)) (by omega) (by first | omega | (simp; done) | (simp; omega)) ?_; intro A5 c5 w5 hown5 hg5 hat5 hk5))
        clear hm1 ho1 hv1 hv2_ na2 nb2
        have hoA := ho2.alloc_ (.cells #[.int .i64 N] 3); have hmA := hm2.alloc_ (.cells #[.int .i64 N] 3); have hvA := hv2.alloc_ (.cells #[.int .i64 N] 3)
        have ho3 := hoA.app hmA hown5 hat5; have hm3 := hmA.app hoA hg5; have hv3 := hvA.app hoA hg5; have hz3 := hv3.size; clear hoA hmA hvA hown5 hg5 hat5 hk5 hv2 ho2 hm2
        clear hfar
        clear ca na hka0 cb nb hkb0
        obtain ⟨ca, na, hka0⟩ := ha.cellV hv3 hlt hva
        obtain ⟨cb, nb, hkb0⟩ := hb.cellV hv3 hlt hvb
        go_wp2_with fail
        go_region_held3 (fun w' => w'.cell? ⟨ka, oa + k, none⟩ = some (.int .i64 va) ∧ w'.cell? ⟨kb, ob + k, none⟩ = some (.int .i64 vb))
          (first | (go_keep; done) | (go_split_ands; exact ⟨hv5_.cellF (by assumption) na4, hv5_.cellF (by assumption) nb4⟩) | (go_split_ands; exact ⟨hv4_.cellF (by assumption) na, hv4_.cellF (by assumption) nb⟩) | (go_split_ands; (repeat' apply And.intro) <;> (repeat (refine (World.cell?_setCell_other _ _ _ _ (by first | (simp; done) | (simp; omega))).trans ?_)) <;> assumption))
          (first | (go_at_call 71; refine (maker_not_v lo b x y (SG ++ [⟨0, va, vb⟩]) G2 va (N + 1) _ (hm3.drewN_ 1) hx hy (by first | omega | (simp; omega)) (Nat.le_trans hlo (hv3.drewN_ 1).size) (by have := hN.out; first | omega | (simp; omega))).mono ?_; rintro e w4 ⟨G4, rfl, hm4, hv4_⟩; have hv4 := (hv3.drewN_ 1).trans_ hv4_; have hz4 := hv4.size; have ho4 := (ho3.drewN_ 1).mv hv4_; have na4 := hv4_.offF (Nat.lt_of_lt_of_le hka0 (hv3.drewN_ 1).size) na; have nb4 := hv4_.offF (Nat.lt_of_lt_of_le hkb0 (hv3.drewN_ 1).size) nb) | (go_at_call 70; refine (maker_and_v lo b x y (SG ++ [⟨0, va, vb⟩] ++ [⟨2, va, 0⟩]) G4 (N + 1) vb (N + 2) _ hm4 hx hy (by first | omega | (simp; omega)) (Nat.le_trans hlo hv4.size) (by have := hN.out; first | omega | (simp; omega))).mono ?_; rintro e w5 ⟨G5, rfl, hm5, hv5_⟩; have hv5 := hv4.trans_ hv5_; have hz5 := hv5.size; have ho5 := ho4.mv hv5_; have na5 := hv5_.offF (Nat.lt_of_lt_of_le hka0 hv4.size) na4; have nb5 := hv5_.offF (Nat.lt_of_lt_of_le hkb0 hv4.size) nb4))
        clear hm3 ho3 hv3 hv4_ hv5_ na4 nb4 na5 nb5
        clear hm4 ho4 hv4
        clear ca na hka0 cb nb hkb0
        have hck : Hid ((S (k + 1)).c = N + 2) := Lib.hid (by rw [hS1.out])
        have hrel1 : Mk w5 lo b x y (S (k + 1)).g G5 ∧ OM w5 b G5 w.heap.size (.slice A5 (k + 1) c5) (k + 1) (S (k + 1)).o := by rw [hS1.out]; exact ⟨hm5, ho5⟩
        clear hm5 ho5 hS hS1 hSk hgl hN hva hvb hcS
        go_wp2
        go_roundw
        case rel => exact ⟨k + 1, _, _, _, by omega, by go_num, by rw [hck.out], rfl, hrel1.1, hrel1.2, hv5⟩
        case measure => simp [intOf]; omega
      · have hz : ((k : Int) == 0) = false := by simp [h0]
        have hS1 : Hid (S (k + 1) = ⟨SG ++ [⟨0, va, SC⟩] ++ [⟨0, vb, SC⟩] ++ [⟨0, N, vb⟩] ++ [⟨2, N, 0⟩] ++ [⟨1, N + 3, N + 1⟩] ++ [⟨0, N + 4, SC⟩], SO ++ [N + 2], N + 5⟩) := Lib.hid (by rw [hS.out]; simp [subStep, h0])
        clear h0
        obtain ⟨ca, na, hka0⟩ := ha.cellV hv1 hlt hva
        go_wp2_with fail
        refine (maker_xor_v lo b x y SG G1 va SC N _ hm1 hx hy (by first | omega | (simp; omega)) (by have := hv1.size; omega) (by have := hN.out; first | omega | (simp; omega))).mono ?_
        rintro e w2 ⟨G2, rfl, hm2, hv2_⟩
        have hv2 := hv1.trans_ hv2_; have ho2 := ho1.mv hv2_; have hz2 := hv2.size; clear hv1 ho1 hm1 hv2_
        clear ca na hka0
        obtain ⟨cb, nb, hkb0⟩ := hb.cellV hv2 hlt hvb
        go_wp2_with fail
        refine (maker_xor_v lo b x y (SG ++ [⟨0, va, SC⟩]) G2 vb SC (N + 1) _ hm2 hx hy (by first | omega | (simp; omega)) (by have := hv2.size; omega) (by have := hN.out; first | omega | (simp; omega))).mono ?_
        rintro e w3 ⟨G3, rfl, hm3, hv3_⟩
        have hv3 := hv2.trans_ hv3_; have ho3 := ho2.mv hv3_; have hz3 := hv3.size; clear hv2 ho2 hm2 hv3_
        clear cb nb hkb0
        obtain ⟨cb, nb, hkb0⟩ := hb.cellV hv3 hlt hvb
        go_wp2_with fail
        refine (maker_xor_v lo b x y (SG ++ [⟨0, va, SC⟩] ++ [⟨0, vb, SC⟩]) G3 N vb (N + 2) _ hm3 hx hy (by first | omega | (simp; omega)) (by have := hv3.size; omega) (by have := hN.out; first | omega | (simp; omega))).mono ?_
        rintro e w4 ⟨G4, rfl, hm4, hv4_⟩
        have hv4 := hv3.trans_ hv4_; have ho4 := ho3.mv hv4_; have hz4 := hv4.size; clear hv3 ho3 hm3 hv4_
        clear cb nb hkb0
        have hoA := ho4.alloc_ (.cells #[.int .i64 (N + 2)] 3); have hmA := hm4.alloc_ (.cells #[.int .i64 (N + 2)] 3); have hvA := hv4.alloc_ (.cells #[.int .i64 (N + 2)] 3)
        go_wp2_with (at_builtin; refine wpList_appI _ rfl _ _ rfl rfl hoA.1 rfl (RI_one _ _ _ _ (by simp)) (by omega) (by first | omega | (simp; done) | (simp; omega)) ?_; intro A5 c5 w5 hown5 hg5 hat5 hk5)
        have ho5 := hoA.app hmA hown5 hat5; have hm5 := hmA.app hoA hg5; have hv5 := hvA.app hoA hg5; have hz5 := hv5.size; clear hoA hmA hvA hown5 hg5 hat5 hk5 hv4 ho4 hm4
        go_wp2_with fail
        refine (maker_not_v lo b x y (SG ++ [⟨0, va, SC⟩] ++ [⟨0, vb, SC⟩] ++ [⟨0, N, vb⟩]) G4 N (N + 3) _ hm5 hx hy (by first | omega | (simp; omega)) (by have := hv5.size; omega) (by have := hN.out; first | omega | (simp; omega))).mono ?_
        rintro e w6 ⟨G6, rfl, hm6, hv6_⟩
        have hv6 := hv5.trans_ hv6_; have ho6 := ho5.mv hv6_; have hz6 := hv6.size; clear hv5 ho5 hm5 hv6_
        go_wp2_with fail
        refine (maker_and_v lo b x y (SG ++ [⟨0, va, SC⟩] ++ [⟨0, vb, SC⟩] ++ [⟨0, N, vb⟩] ++ [⟨2, N, 0⟩]) G6 (N + 3) (N + 1) (N + 4) _ hm6 hx hy (by first | omega | (simp; omega)) (by have := hv6.size; omega) (by have := hN.out; first | omega | (simp; omega))).mono ?_
        rintro e w7 ⟨G7, rfl, hm7, hv7_⟩
        have hv7 := hv6.trans_ hv7_; have ho7 := ho6.mv hv7_; have hz7 := hv7.size; clear hv6 ho6 hm6 hv7_
        go_wp2_with fail
        refine (maker_xor_v lo b x y (SG ++ [⟨0, va, SC⟩] ++ [⟨0, vb, SC⟩] ++ [⟨0, N, vb⟩] ++ [⟨2, N, 0⟩] ++ [⟨1, N + 3, N + 1⟩]) G7 (N + 4) SC (N + 5) _ hm7 hx hy (by first | omega | (simp; omega)) (by have := hv7.size; omega) (by have := hN.out; first | omega | (simp; omega))).mono ?_
        rintro e w8 ⟨G8, rfl, hm8, hv8_⟩
        have hv8 := hv7.trans_ hv8_; have ho8 := ho7.mv hv8_; have hz8 := hv8.size; clear hv7 ho7 hm7 hv8_
        have hck : Hid ((S (k + 1)).c = N + 5) := Lib.hid (by rw [hS1.out])
        have hrel1 : Mk w8 lo b x y (S (k + 1)).g G8 ∧ OM w8 b G8 w.heap.size (.slice A5 (k + 1) c5) (k + 1) (S (k + 1)).o := by rw [hS1.out]; exact ⟨hm8, ho8⟩
        clear hm8 ho8 hS hS1 hSk hgl hN hva hvb hcS
        go_wp2
        go_roundw
        case rel => exact ⟨k + 1, _, _, _, by omega, by go_num, by rw [hck.out], rfl, hrel1.1, hrel1.2, hv8⟩
        case measure => simp [intOf]; omega
    · obtain rfl : n = k := Nat.le_antisymm (Nat.le_of_not_lt hlt) hk
      go_wp2
      go_ret2
      exact ⟨_, _, _, rfl, hm1, hv1, ho1⟩

set_option maxRecDepth 100000 in
set_option maxHeartbeats 8000000 in
theorem gdSub_any (lo b : Nat) (x y : Int) (g0 : List G3) (G : Option Nat) (A B : Option Addr) (n c d : Nat) (us vs : List Int) (w : World) (hm : Mk w lo b x y g0 G) (ha : RM w b G A n us) (hb : RM w b G B n vs) (hx : 0 ≤ x ∧ x ≤ 20) (hy : 0 ≤ y ∧ y ≤ 20) (hg : g0.length ≤ 50000) (hn : n ≤ 100) (hlo : lo ≤ w.heap.size) :
    Calls Try.prog 64 #[.pointer (some ⟨b, 0, none⟩), .slice A n c, .slice B n d] w (RetRow lo b x y (subS (x + y) g0 us vs n).g ((subS (x + y) g0 us vs n).o ++ [(subS (x + y) g0 us vs n).c]) G w) := by
  have HG : Hid (∀ i, (subS (x + y) g0 us vs i).g.length ≤ g0.length + 6 * i) := Lib.hid (subS_g (x + y) g0 us vs)
  have HO : Hid (∀ i, (subS (x + y) g0 us vs i).o.length = i) := Lib.hid (subS_o (x + y) g0 us vs)
  have HC : Hid (∀ i, 0 ≤ (subS (x + y) g0 us vs (i + 1)).c) := Lib.hid (subS_c (by omega) g0 us vs)
  have H0 : Hid (subS (x + y) g0 us vs 0 = ⟨g0, [], -1⟩) := Lib.hid rfl
  have HS : Hid (∀ i, subS (x + y) g0 us vs (i + 1) = subStep (x + y + (subS (x + y) g0 us vs i).g.length) (gi us i) (gi vs i) i (subS (x + y) g0 us vs i)) := Lib.hid fun i => rfl
  generalize subS (x + y) g0 us vs = S at *
  have hst : Mk w lo b x y (S 0).g G ∧ OM w b G w.heap.size (.slice none 0 0) 0 (S 0).o ∧ Mv b G G w w := by
    rw [H0.out]; exact ⟨hm, OM.none_ _ _ _ _, Mv.refl_ b G w⟩
  obtain ⟨hm0, ho0, hv0⟩ := hst
  have hc0 : (S 0).c = -1 := by rw [H0.out]
  go_enter Try.func64, Try.ntmps64
  go_wp2
  go_loopw [7, 8, 19] (fun o v i wr => ∃ (k : Nat) (O : Option Addr) (oc : Nat) (G1 : Option Nat), k ≤ n ∧ i = .int .i64 k ∧ v = .int .i64 (S k).c ∧ o = .slice O k oc ∧ Mk wr lo b x y (S k).g G1 ∧ OM wr b G1 w.heap.size (.slice O k oc) k (S k).o ∧ Mv b G G1 w wr) (fun _ _ i _ => n - (intOf i).toNat)
  case atStart => exact ⟨0, _, _, _, Nat.zero_le _, rfl, by rw [hc0], rfl, hm0, ho0, hv0⟩
  case round =>
    obtain ⟨k, O, oc, G1, hk, rfl, rfl, rfl, hm1, ho1, hv1⟩ := hrel
    clear hm0 ho0 hv0
    have hz1 := hv1.size
    by_cases hlt : k < n
    · obtain ⟨ka, oa, rfl, hka, ca⟩ := ha.1.at_ hlt
      obtain ⟨kb, ob, rfl, hkb, cb⟩ := hb.1.at_ hlt
      obtain ⟨va, hva⟩ : ∃ va, Hid (gi us k = va) := ⟨_, Lib.hid rfl⟩
      obtain ⟨vb, hvb⟩ : ∃ vb, Hid (gi vs k = vb) := ⟨_, Lib.hid rfl⟩
      have hgl := HG.out k
      obtain ⟨SG, SO, SC, hSk⟩ : ∃ SG SO SC, Hid (S k = ⟨SG, SO, SC⟩) := ⟨_, _, _, Lib.hid rfl⟩
      have hS := Lib.hid (HS.out k)
      rw [hSk.out] at hm1 ho1 hgl
      rw [hva.out, hvb.out, hSk.out] at hS
      dsimp only at hm1 ho1 hgl hS
      obtain ⟨N, hN⟩ : ∃ N : Int, Hid (x + y + (SG.length : Int) = N) := ⟨_, Lib.hid rfl⟩
      rw [hN.out] at hS
      clear ca cb hka hkb
      have hcS : (S k).c = SC := by rw [hSk.out]
      rw [hcS]
      by_cases h0 : k = 0
      · have hcm : SC = -1 := by rw [← hcS, h0]; exact hc0
        subst hcm
        have hS1 : Hid (S (k + 1) = ⟨SG ++ [⟨0, va, vb⟩] ++ [⟨2, va, 0⟩] ++ [⟨1, N + 1, vb⟩], SO ++ [N], N + 2⟩) := Lib.hid (by rw [hS.out]; simp [subStep, h0])
        clear h0
        obtain ⟨ca, na, hka0⟩ := ha.cellV hv1 hlt hva
        obtain ⟨cb, nb, hkb0⟩ := hb.cellV hv1 hlt hvb
        go_wp2_with fail
        refine (ciMaker_xor_v lo b x y SG G1 va vb N _ hm1 hx hy (by first | omega | (simp; omega)) (by have := hv1.size; omega) (by have := hN.out; first | omega | (simp; omega))).mono ?_
        rintro e w2 ⟨G2, rfl, hm2, hv2_⟩
        have hv2 := hv1.trans_ hv2_; have ho2 := ho1.mv hv2_; have hz2 := hv2.size; clear hv1 ho1 hm1 hv2_
        have hoA := ho2.alloc_ (.cells #[.int .i64 N] 3); have hmA := hm2.alloc_ (.cells #[.int .i64 N] 3); have hvA := hv2.alloc_ (.cells #[.int .i64 N] 3)
        go_wp2_with (at_builtin; refine wpList_appI _ rfl _ _ rfl rfl hoA.1 rfl (RI_one _ _ _ _ (by simp)) (by omega) (by first | omega | (simp; done) | (simp; omega)) ?_; intro A5 c5 w5 hown5 hg5 hat5 hk5)
        have ho3 := hoA.app hmA hown5 hat5; have hm3 := hmA.app hoA hg5; have hv3 := hvA.app hoA hg5; have hz3 := hv3.size; clear hoA hmA hvA hown5 hg5 hat5 hk5 hv2 ho2 hm2
        go_wp2_with fail
        refine (ciMaker_not_v lo b x y (SG ++ [⟨0, va, vb⟩]) G2 va (N + 1) _ hm3 hx hy (by first | omega | (simp; omega)) (by have := hv3.size; omega) (by have := hN.out; first | omega | (simp; omega))).mono ?_
        rintro e w4 ⟨G4, rfl, hm4, hv4_⟩
        have hv4 := hv3.trans_ hv4_; have ho4 := ho3.mv hv4_; have hz4 := hv4.size; clear hv3 ho3 hm3 hv4_
        go_wp2_with fail
        refine (ciMaker_and_v lo b x y (SG ++ [⟨0, va, vb⟩] ++ [⟨2, va, 0⟩]) G4 (N + 1) vb (N + 2) _ hm4 hx hy (by first | omega | (simp; omega)) (by have := hv4.size; omega) (by have := hN.out; first | omega | (simp; omega))).mono ?_
        rintro e w5 ⟨G5, rfl, hm5, hv5_⟩
        have hv5 := hv4.trans_ hv5_; have ho5 := ho4.mv hv5_; have hz5 := hv5.size; clear hv4 ho4 hm4 hv5_
        have hck : Hid ((S (k + 1)).c = N + 2) := Lib.hid (by rw [hS1.out])
        have hrel1 : Mk w5 lo b x y (S (k + 1)).g G5 ∧ OM w5 b G5 w.heap.size (.slice A5 (k + 1) c5) (k + 1) (S (k + 1)).o := by rw [hS1.out]; exact ⟨hm5, ho5⟩
        clear hm5 ho5 hS hS1 hSk hgl hN hva hvb hcS
        go_wp2
        go_roundw
        case rel => exact ⟨k + 1, _, _, _, by omega, by go_num, by rw [hck.out], rfl, hrel1.1, hrel1.2, hv5⟩
        case measure => simp [intOf]; omega
      · have hcp : 0 ≤ SC := by
          obtain ⟨j, rfl⟩ : ∃ j, k = j + 1 := ⟨k - 1, by omega⟩
          rw [← hcS]; exact HC.out j
        have hcn : ¬ SC < 0 := by omega
        have hS1 : Hid (S (k + 1) = ⟨SG ++ [⟨0, va, SC⟩] ++ [⟨0, vb, SC⟩] ++ [⟨0, N, vb⟩] ++ [⟨2, N, 0⟩] ++ [⟨1, N + 3, N + 1⟩] ++ [⟨0, N + 4, SC⟩], SO ++ [N + 2], N + 5⟩) := Lib.hid (by rw [hS.out]; simp [subStep, h0])
        clear h0
        obtain ⟨ca, na, hka0⟩ := ha.cellV hv1 hlt hva
        obtain ⟨cb, nb, hkb0⟩ := hb.cellV hv1 hlt hvb
        go_wp2_with fail
        refine (ciMaker_xor_v lo b x y SG G1 va SC N _ hm1 hx hy (by first | omega | (simp; omega)) (by have := hv1.size; omega) (by have := hN.out; first | omega | (simp; omega))).mono ?_
        rintro e w2 ⟨G2, rfl, hm2, hv2_⟩
        have hv2 := hv1.trans_ hv2_; have ho2 := ho1.mv hv2_; have hz2 := hv2.size; clear hv1 ho1 hm1 hv2_
        go_wp2_with fail
        refine (ciMaker_xor_v lo b x y (SG ++ [⟨0, va, SC⟩]) G2 vb SC (N + 1) _ hm2 hx hy (by first | omega | (simp; omega)) (by have := hv2.size; omega) (by have := hN.out; first | omega | (simp; omega))).mono ?_
        rintro e w3 ⟨G3, rfl, hm3, hv3_⟩
        have hv3 := hv2.trans_ hv3_; have ho3 := ho2.mv hv3_; have hz3 := hv3.size; clear hv2 ho2 hm2 hv3_
        go_wp2_with fail
        refine (ciMaker_xor_v lo b x y (SG ++ [⟨0, va, SC⟩] ++ [⟨0, vb, SC⟩]) G3 N vb (N + 2) _ hm3 hx hy (by first | omega | (simp; omega)) (by have := hv3.size; omega) (by have := hN.out; first | omega | (simp; omega))).mono ?_
        rintro e w4 ⟨G4, rfl, hm4, hv4_⟩
        have hv4 := hv3.trans_ hv4_; have ho4 := ho3.mv hv4_; have hz4 := hv4.size; clear hv3 ho3 hm3 hv4_
        have hoA := ho4.alloc_ (.cells #[.int .i64 (N + 2)] 3); have hmA := hm4.alloc_ (.cells #[.int .i64 (N + 2)] 3); have hvA := hv4.alloc_ (.cells #[.int .i64 (N + 2)] 3)
        go_wp2_with (at_builtin; refine wpList_appI _ rfl _ _ rfl rfl hoA.1 rfl (RI_one _ _ _ _ (by simp)) (by omega) (by first | omega | (simp; done) | (simp; omega)) ?_; intro A5 c5 w5 hown5 hg5 hat5 hk5)
        have ho5 := hoA.app hmA hown5 hat5; have hm5 := hmA.app hoA hg5; have hv5 := hvA.app hoA hg5; have hz5 := hv5.size; clear hoA hmA hvA hown5 hg5 hat5 hk5 hv4 ho4 hm4
        go_wp2_with fail
        refine (ciMaker_not_v lo b x y (SG ++ [⟨0, va, SC⟩] ++ [⟨0, vb, SC⟩] ++ [⟨0, N, vb⟩]) G4 N (N + 3) _ hm5 hx hy (by first | omega | (simp; omega)) (by have := hv5.size; omega) (by have := hN.out; first | omega | (simp; omega))).mono ?_
        rintro e w6 ⟨G6, rfl, hm6, hv6_⟩
        have hv6 := hv5.trans_ hv6_; have ho6 := ho5.mv hv6_; have hz6 := hv6.size; clear hv5 ho5 hm5 hv6_
        go_wp2_with fail
        refine (ciMaker_and_v lo b x y (SG ++ [⟨0, va, SC⟩] ++ [⟨0, vb, SC⟩] ++ [⟨0, N, vb⟩] ++ [⟨2, N, 0⟩]) G6 (N + 3) (N + 1) (N + 4) _ hm6 hx hy (by first | omega | (simp; omega)) (by have := hv6.size; omega) (by have := hN.out; first | omega | (simp; omega))).mono ?_
        rintro e w7 ⟨G7, rfl, hm7, hv7_⟩
        have hv7 := hv6.trans_ hv7_; have ho7 := ho6.mv hv7_; have hz7 := hv7.size; clear hv6 ho6 hm6 hv7_
        go_wp2_with fail
        refine (ciMaker_xor_v lo b x y (SG ++ [⟨0, va, SC⟩] ++ [⟨0, vb, SC⟩] ++ [⟨0, N, vb⟩] ++ [⟨2, N, 0⟩] ++ [⟨1, N + 3, N + 1⟩]) G7 (N + 4) SC (N + 5) _ hm7 hx hy (by first | omega | (simp; omega)) (by have := hv7.size; omega) (by have := hN.out; first | omega | (simp; omega))).mono ?_
        rintro e w8 ⟨G8, rfl, hm8, hv8_⟩
        have hv8 := hv7.trans_ hv8_; have ho8 := ho7.mv hv8_; have hz8 := hv8.size; clear hv7 ho7 hm7 hv8_
        have hck : Hid ((S (k + 1)).c = N + 5) := Lib.hid (by rw [hS1.out])
        have hrel1 : Mk w8 lo b x y (S (k + 1)).g G8 ∧ OM w8 b G8 w.heap.size (.slice A5 (k + 1) c5) (k + 1) (S (k + 1)).o := by rw [hS1.out]; exact ⟨hm8, ho8⟩
        clear hm8 ho8 hS hS1 hSk hgl hN hva hvb hcS
        go_wp2
        go_roundw
        case rel => exact ⟨k + 1, _, _, _, by omega, by go_num, by rw [hck.out], rfl, hrel1.1, hrel1.2, hv8⟩
        case measure => simp [intOf]; omega
    · obtain rfl : n = k := Nat.le_antisymm (Nat.le_of_not_lt hlt) hk
      obtain ⟨SC, hSC⟩ : ∃ SC, Hid ((S n).c = SC) := ⟨_, Lib.hid rfl⟩
      rw [hSC.out]
      have hoA := ho1.alloc_ (.cells #[.int .i64 SC] 3); have hmA := hm1.alloc_ (.cells #[.int .i64 SC] 3); have hvA := hv1.alloc_ (.cells #[.int .i64 SC] 3)
      go_wp2_with (at_builtin; refine wpList_appI _ rfl _ _ rfl rfl hoA.1 rfl (RI_one _ _ _ _ (by simp)) (by omega) (by first | omega | (simp; done) | (simp; omega)) ?_; intro A5 c5 w5 hown5 hg5 hat5 hk5)
      have ho5 := hoA.app hmA hown5 hat5; have hm5 := hmA.app hoA hg5; have hv5 := hvA.app hoA hg5
      have hl5 : Hid (((S n).o ++ [(S n).c]).length = n + 1) := Lib.hid (by simp [HO.out n])
      rw [← hSC.out] at ho5
      clear hoA hmA hvA hown5 hg5 hat5 hk5 hm1 ho1 hv1
      go_wp2
      go_ret
      exact RetRow.mk_ hl5.out rfl hm5 hv5 ho5

end Go.Proofs.Ytgpfiefhhlejfaa

namespace Go.Proofs.Ytgpfiefhhlejfaa
open Go.RowKit
set_option linter.unusedVariables false
set_option linter.unusedSimpArgs false

set_option maxRecDepth 100000 in
set_option maxHeartbeats 8000000 in
theorem maker_choose_any (lo b : Nat) (x y : Int) (g0 : List G3) (G : Option Nat) (A B : Option Addr) (n c d : Nat) (s : Int) (us vs : List Int) (w : World) (hm : Mk w lo b x y g0 G) (ha : RM w b G A n us) (hb : RM w b G B n vs) (hx : 0 ≤ x ∧ x ≤ 20) (hy : 0 ≤ y ∧ y ≤ 20) (hg : g0.length ≤ 50000) (hn : n ≤ 100) (hlo : lo ≤ w.heap.size) :
    Calls Try.prog 43 #[.pointer (some ⟨b, 0, none⟩), .int .i64 s, .slice A n c, .slice B n d] w (RetRow lo b x y (chs (x + y) g0 s us vs n).g (chs (x + y) g0 s us vs n).o G w) := by
  have HG : Hid (∀ i, (chs (x + y) g0 s us vs i).g.length ≤ g0.length + 3 * i) := Lib.hid fun i => by have := chs_g (x + y) g0 s us vs i; omega
  have HO : Hid (∀ i, (chs (x + y) g0 s us vs i).o.length = i) := Lib.hid (chs_o (x + y) g0 s us vs)
  have H0 : Hid (chs (x + y) g0 s us vs 0 = ⟨g0, []⟩) := Lib.hid rfl
  have HS : Hid (∀ i, chs (x + y) g0 s us vs (i + 1) = ⟨(chs (x + y) g0 s us vs i).g ++ [⟨0, gi us i, gi vs i⟩] ++ [⟨1, s, x + y + (chs (x + y) g0 s us vs i).g.length⟩] ++ [⟨0, x + y + (chs (x + y) g0 s us vs i).g.length + 1, gi vs i⟩], (chs (x + y) g0 s us vs i).o ++ [x + y + (chs (x + y) g0 s us vs i).g.length + 2]⟩) := Lib.hid fun i => rfl
  generalize chs (x + y) g0 s us vs = S at *
  have hst : Mk (w.alloc (.cells #[] 3)) lo b x y (S 0).g G ∧ OM (w.alloc (.cells #[] 3)) b G w.heap.size (.slice (some ⟨w.heap.size, 0, none⟩) 0 0) 0 (S 0).o ∧ Mv b G G w (w.alloc (.cells #[] 3)) := by
    rw [H0.out]; exact ⟨hm.alloc_ _, OM.new0 hm (Nat.le_refl _), (Mv.refl_ b G w).alloc_ _⟩
  obtain ⟨hm0, ho0, hv0⟩ := hst
  go_enter Try.func43, Try.ntmps43
  go_wp2
  go_loopw [9, 15] (fun o i wr => ∃ (k : Nat) (O : Option Addr) (oc : Nat) (G1 : Option Nat), k ≤ n ∧ i = .int .i64 k ∧ o = .slice O k oc ∧ Mk wr lo b x y (S k).g G1 ∧ OM wr b G1 w.heap.size (.slice O k oc) k (S k).o ∧ Mv b G G1 w wr) (fun _ i _ => n - (intOf i).toNat)
  case atStart => exact ⟨0, _, _, _, Nat.zero_le _, rfl, rfl, hm0, ho0, hv0⟩
  case round =>
    obtain ⟨k, O, oc, G1, hk, rfl, rfl, hm1, ho1, hv1⟩ := hrel
    clear hm0 ho0 hv0
    have hz1 := hv1.size
    by_cases hlt : k < n
    · obtain ⟨ka, oa, rfl, hka, ca⟩ := ha.1.at_ hlt
      obtain ⟨kb, ob, rfl, hkb, cb⟩ := hb.1.at_ hlt
      obtain ⟨va, hva⟩ : ∃ va, Hid (gi us k = va) := ⟨_, Lib.hid rfl⟩
      obtain ⟨vb, hvb⟩ : ∃ vb, Hid (gi vs k = vb) := ⟨_, Lib.hid rfl⟩
      have hgl := HG.out k
      obtain ⟨SG, SO, hSk⟩ : ∃ SG SO, Hid (S k = ⟨SG, SO⟩) := ⟨_, _, Lib.hid rfl⟩
      have hS := Lib.hid (HS.out k)
      rw [hSk.out] at hm1 ho1 hgl
      rw [hva.out, hvb.out, hSk.out] at hS
      dsimp only at hm1 ho1 hgl hS
      obtain ⟨N, hN⟩ : ∃ N : Int, Hid (x + y + (SG.length : Int) = N) := ⟨_, Lib.hid rfl⟩
      rw [hN.out] at hS
      clear ca cb hka hkb
      obtain ⟨ca, na, hka0⟩ := ha.cellV hv1 hlt hva
      obtain ⟨cb, nb, hkb0⟩ := hb.cellV hv1 hlt hvb
      go_wp2_with fail
      go_region_held3 (fun w' => w'.cell? ⟨ka, oa + k, none⟩ = some (.int .i64 va) ∧ w'.cell? ⟨kb, ob + k, none⟩ = some (.int .i64 vb))
        (first | (go_keep; done) | (go_split_ands; exact ⟨hv3_.cellF (by assumption) na2, hv3_.cellF (by assumption) nb2⟩) | (go_split_ands; exact ⟨hv2_.cellF (by assumption) na, hv2_.cellF (by assumption) nb⟩) | (go_split_ands; (repeat' apply And.intro) <;> (repeat (refine (World.cell?_setCell_other _ _ _ _ (by first | (simp; done) | (simp; omega))).trans ?_)) <;> assumption))
        (first | (go_at_call 69; refine (maker_xor_v lo b x y SG G1 va vb N _ (hm1.drewN_ 1) hx hy (by first | omega | (simp; omega)) (Nat.le_trans hlo (hv1.drewN_ 1).size) (by have := hN.out; first | omega | (simp; omega))).mono ?_; rintro e w2 ⟨G2, rfl, hm2, hv2_⟩; have hv2 := (hv1.drewN_ 1).trans_ hv2_; have hz2 := hv2.size; have ho2 := (ho1.drewN_ 1).mv hv2_; have na2 := hv2_.offF (Nat.lt_of_lt_of_le hka0 (hv1.drewN_ 1).size) na; have nb2 := hv2_.offF (Nat.lt_of_lt_of_le hkb0 (hv1.drewN_ 1).size) nb) | (go_at_call 70; refine (maker_and_v lo b x y (SG ++ [⟨0, va, vb⟩]) G2 s N (N + 1) _ hm2 hx hy (by first | omega | (simp; omega)) (Nat.le_trans hlo hv2.size) (by have := hN.out; first | omega | (simp; omega))).mono ?_; rintro e w3 ⟨G3, rfl, hm3, hv3_⟩; have hv3 := hv2.trans_ hv3_; have hz3 := hv3.size; have ho3 := ho2.mv hv3_; have na3 := hv3_.offF (Nat.lt_of_lt_of_le hka0 hv2.size) na2; have nb3 := hv3_.offF (Nat.lt_of_lt_of_le hkb0 hv2.size) nb2))
      clear hm1 ho1 hv1 hv2_ hv3_ na2 nb2 na3 nb3
      clear hm2 ho2 hv2
      clear ca na hka0 cb nb hkb0
      obtain ⟨cb, nb, hkb0⟩ := hb.cellV hv3 hlt hvb
      go_wp2_with fail
      refine (maker_xor_v lo b x y (SG ++ [⟨0, va, vb⟩] ++ [⟨1, s, N⟩]) G3 (N + 1) vb (N + 2) _ hm3 hx hy (by first | omega | (simp; omega)) (by have := hv3.size; omega) (by have := hN.out; first | omega | (simp; omega))).mono ?_
      rintro e w4 ⟨G4, rfl, hm4, hv4_⟩
      have hv4 := hv3.trans_ hv4_; have ho4 := ho3.mv hv4_; have hz4 := hv4.size; clear hv3 ho3 hm3 hv4_
      clear cb nb hkb0
      have hoA := ho4.alloc_ (.cells #[.int .i64 (N + 2)] 3); have hmA := hm4.alloc_ (.cells #[.int .i64 (N + 2)] 3); have hvA := hv4.alloc_ (.cells #[.int .i64 (N + 2)] 3)
      go_wp2_with (at_builtin; refine wpList_appI _ rfl _ _ rfl rfl hoA.1 rfl (RI_one _ _ _ _ (by simp)) (by omega) (by first | omega | (simp; done) | (simp; omega)) ?_; intro A5 c5 w5 hown5 hg5 hat5 hk5)
      have ho5 := hoA.app hmA hown5 hat5; have hm5 := hmA.app hoA hg5; have hv5 := hvA.app hoA hg5; have hz5 := hv5.size; clear hoA hmA hvA hown5 hg5 hat5 hk5 hv4 ho4 hm4
      have hS1 : Hid (S (k + 1) = ⟨SG ++ [⟨0, va, vb⟩] ++ [⟨1, s, N⟩] ++ [⟨0, N + 1, vb⟩], SO ++ [N + 2]⟩) := Lib.hid (by rw [hS.out])
      have hrel1 : Mk w5 lo b x y (S (k + 1)).g G4 ∧ OM w5 b G4 w.heap.size (.slice A5 (k + 1) c5) (k + 1) (S (k + 1)).o := by rw [hS1.out]; exact ⟨hm5, ho5⟩
      clear hm5 ho5 hS hS1 hSk hgl hN hva hvb
      go_wp2
      go_roundw
      case rel => exact ⟨k + 1, _, _, _, by omega, by go_num, rfl, hrel1.1, hrel1.2, hv5⟩
      case measure => simp [intOf]; omega
    · obtain rfl : n = k := Nat.le_antisymm (Nat.le_of_not_lt hlt) hk
      go_wp2
      go_ret
      exact RetRow.mk_ (HO.out n) rfl hm1 hv1 ho1

set_option maxRecDepth 100000 in
set_option maxHeartbeats 8000000 in
theorem gdPick_any (lo b : Nat) (x y : Int) (g0 : List G3) (G : Option Nat) (A B : Option Addr) (n c d : Nat) (s : Int) (us vs : List Int) (w : World) (hm : Mk w lo b x y g0 G) (ha : RM w b G A n us) (hb : RM w b G B n vs) (hx : 0 ≤ x ∧ x ≤ 20) (hy : 0 ≤ y ∧ y ≤ 20) (hg : g0.length ≤ 50000) (hn : n ≤ 100) (hlo : lo ≤ w.heap.size) :
    Calls Try.prog 65 #[.pointer (some ⟨b, 0, none⟩), .int .i64 s, .slice A n c, .slice B n d] w (RetRow lo b x y (chs (x + y) g0 s us vs n).g (chs (x + y) g0 s us vs n).o G w) := by
  have HG : Hid (∀ i, (chs (x + y) g0 s us vs i).g.length ≤ g0.length + 3 * i) := Lib.hid fun i => by have := chs_g (x + y) g0 s us vs i; omega
  have HO : Hid (∀ i, (chs (x + y) g0 s us vs i).o.length = i) := Lib.hid (chs_o (x + y) g0 s us vs)
  have H0 : Hid (chs (x + y) g0 s us vs 0 = ⟨g0, []⟩) := Lib.hid rfl
  have HS : Hid (∀ i, chs (x + y) g0 s us vs (i + 1) = ⟨(chs (x + y) g0 s us vs i).g ++ [⟨0, gi us i, gi vs i⟩] ++ [⟨1, s, x + y + (chs (x + y) g0 s us vs i).g.length⟩] ++ [⟨0, x + y + (chs (x + y) g0 s us vs i).g.length + 1, gi vs i⟩], (chs (x + y) g0 s us vs i).o ++ [x + y + (chs (x + y) g0 s us vs i).g.length + 2]⟩) := Lib.hid fun i => rfl
  generalize chs (x + y) g0 s us vs = S at *
  have hst : Mk w lo b x y (S 0).g G ∧ OM w b G w.heap.size (.slice none 0 0) 0 (S 0).o ∧ Mv b G G w w := by
    rw [H0.out]; exact ⟨hm, OM.none_ _ _ _ _, Mv.refl_ b G w⟩
  obtain ⟨hm0, ho0, hv0⟩ := hst
  go_enter Try.func65, Try.ntmps65
  go_wp2
  go_loopw [9, 16] (fun o i wr => ∃ (k : Nat) (O : Option Addr) (oc : Nat) (G1 : Option Nat), k ≤ n ∧ i = .int .i64 k ∧ o = .slice O k oc ∧ Mk wr lo b x y (S k).g G1 ∧ OM wr b G1 w.heap.size (.slice O k oc) k (S k).o ∧ Mv b G G1 w wr) (fun _ i _ => n - (intOf i).toNat)
  case atStart => exact ⟨0, _, _, _, Nat.zero_le _, rfl, rfl, hm0, ho0, hv0⟩
  case round =>
    obtain ⟨k, O, oc, G1, hk, rfl, rfl, hm1, ho1, hv1⟩ := hrel
    clear hm0 ho0 hv0
    have hz1 := hv1.size
    by_cases hlt : k < n
    · obtain ⟨ka, oa, rfl, hka, ca⟩ := ha.1.at_ hlt
      obtain ⟨kb, ob, rfl, hkb, cb⟩ := hb.1.at_ hlt
      obtain ⟨va, hva⟩ : ∃ va, Hid (gi us k = va) := ⟨_, Lib.hid rfl⟩
      obtain ⟨vb, hvb⟩ : ∃ vb, Hid (gi vs k = vb) := ⟨_, Lib.hid rfl⟩
      have hgl := HG.out k
      obtain ⟨SG, SO, hSk⟩ : ∃ SG SO, Hid (S k = ⟨SG, SO⟩) := ⟨_, _, Lib.hid rfl⟩
      have hS := Lib.hid (HS.out k)
      rw [hSk.out] at hm1 ho1 hgl
      rw [hva.out, hvb.out, hSk.out] at hS
      dsimp only at hm1 ho1 hgl hS
      obtain ⟨N, hN⟩ : ∃ N : Int, Hid (x + y + (SG.length : Int) = N) := ⟨_, Lib.hid rfl⟩
      rw [hN.out] at hS
      clear ca cb hka hkb
      obtain ⟨ca, na, hka0⟩ := ha.cellV hv1 hlt hva
      obtain ⟨cb, nb, hkb0⟩ := hb.cellV hv1 hlt hvb
      go_wp2_with fail
      refine (ciMaker_xor_v lo b x y SG G1 va vb N _ hm1 hx hy (by first | omega | (simp; omega)) (by have := hv1.size; omega) (by have := hN.out; first | omega | (simp; omega))).mono ?_
      rintro e w2 ⟨G2, rfl, hm2, hv2_⟩
      have hv2 := hv1.trans_ hv2_; have ho2 := ho1.mv hv2_; have hz2 := hv2.size; clear hv1 ho1 hm1 hv2_
      go_wp2_with fail
      refine (ciMaker_and_v lo b x y (SG ++ [⟨0, va, vb⟩]) G2 s N (N + 1) _ hm2 hx hy (by first | omega | (simp; omega)) (by have := hv2.size; omega) (by have := hN.out; first | omega | (simp; omega))).mono ?_
      rintro e w3 ⟨G3, rfl, hm3, hv3_⟩
      have hv3 := hv2.trans_ hv3_; have ho3 := ho2.mv hv3_; have hz3 := hv3.size; clear hv2 ho2 hm2 hv3_
      clear ca na hka0 cb nb hkb0
      obtain ⟨cb, nb, hkb0⟩ := hb.cellV hv3 hlt hvb
      go_wp2_with fail
      refine (ciMaker_xor_v lo b x y (SG ++ [⟨0, va, vb⟩] ++ [⟨1, s, N⟩]) G3 (N + 1) vb (N + 2) _ hm3 hx hy (by first | omega | (simp; omega)) (by have := hv3.size; omega) (by have := hN.out; first | omega | (simp; omega))).mono ?_
      rintro e w4 ⟨G4, rfl, hm4, hv4_⟩
      have hv4 := hv3.trans_ hv4_; have ho4 := ho3.mv hv4_; have hz4 := hv4.size; clear hv3 ho3 hm3 hv4_
      clear cb nb hkb0
      have hoA := ho4.alloc_ (.cells #[.int .i64 (N + 2)] 3); have hmA := hm4.alloc_ (.cells #[.int .i64 (N + 2)] 3); have hvA := hv4.alloc_ (.cells #[.int .i64 (N + 2)] 3)
      go_wp2_with (at_builtin; refine wpList_appI _ rfl _ _ rfl rfl hoA.1 rfl (RI_one _ _ _ _ (by simp)) (by omega) (by first | omega | (simp; done) | (simp; omega)) ?_; intro A5 c5 w5 hown5 hg5 hat5 hk5)
      have ho5 := hoA.app hmA hown5 hat5; have hm5 := hmA.app hoA hg5; have hv5 := hvA.app hoA hg5; have hz5 := hv5.size; clear hoA hmA hvA hown5 hg5 hat5 hk5 hv4 ho4 hm4
      have hS1 : Hid (S (k + 1) = ⟨SG ++ [⟨0, va, vb⟩] ++ [⟨1, s, N⟩] ++ [⟨0, N + 1, vb⟩], SO ++ [N + 2]⟩) := Lib.hid (by rw [hS.out])
      have hrel1 : Mk w5 lo b x y (S (k + 1)).g G4 ∧ OM w5 b G4 w.heap.size (.slice A5 (k + 1) c5) (k + 1) (S (k + 1)).o := by rw [hS1.out]; exact ⟨hm5, ho5⟩
      clear hm5 ho5 hS hS1 hSk hgl hN hva hvb
      go_wp2
      go_roundw
      case rel => exact ⟨k + 1, _, _, _, by omega, by go_num, rfl, hrel1.1, hrel1.2, hv5⟩
      case measure => simp [intOf]; omega
    · obtain rfl : n = k := Nat.le_antisymm (Nat.le_of_not_lt hlt) hk
      go_wp2
      go_ret
      exact RetRow.mk_ (HO.out n) rfl hm1 hv1 ho1

end Go.Proofs.Ytgpfiefhhlejfaa

namespace Go.Proofs.Ytgpfiefhhlejfaa
open Go.RowKit
set_option linter.unusedVariables false
set_option linter.unusedSimpArgs false

theorem gdRange_any (a : Int) (n : Nat) (w : World) (ha : 0 ≤ a ∧ a ≤ 1000000) (hn : n ≤ 1000000) :
    Calls Try.prog 34 #[.int .i64 a, .int .i64 n] w (RetI w (spn a n)) := by
  have HS := Lib.hid (spn_snoc a)
  have hs0 : spn a 0 = [] := rfl
  have HL := Lib.hid (spn_len a)
  obtain ⟨ha0, ha1⟩ := ha
  have hnone : Own w w.heap.size w.heap.size (.slice none 0 0) 0 (spn a 0) ∧ Below w.heap.size w w := ⟨by rw [hs0]; exact Own.none_ _ _ _, Below.refl _ _⟩
  have hsome : Own (w.alloc (.cells #[] 3)) w.heap.size (w.alloc (.cells #[] 3)).heap.size (.slice (some ⟨w.heap.size, 0, none⟩) 0 0) 0 (spn a 0) ∧ Below w.heap.size w (w.alloc (.cells #[] 3)) := ⟨by rw [hs0]; exact (Own_new0 w _ (Nat.le_refl _)).now, (Below.refl _ _).alloc (Nat.le_refl _) _⟩
  go_enter Try.func34, Try.ntmps34
  go_wp2
  go_loopw [5, 6] (fun o i wr => ∃ (k : Nat) (O : Option Addr) (oc : Nat), k ≤ n ∧ i = .int .i64 k ∧ o = .slice O k oc ∧ Own wr w.heap.size wr.heap.size (.slice O k oc) k (spn a k) ∧ Below w.heap.size w wr) (fun _ i _ => n - (intOf i).toNat)
  case atStart => exact ⟨0, _, _, Nat.zero_le _, rfl, rfl, hnone.1, hnone.2⟩
  case round =>
    obtain ⟨k, O, oc, hk, rfl, rfl, hown, hb⟩ := hrel
    clear hnone hsome
    have hz := hb.size
    by_cases hlt : k < n
    · have hsn := Lib.hid (HS.out k)
      have hoA := hown.alloc (.cells #[.int .i64 (a + k)] 3)
      have hbA := hb.alloc hz (.cells #[.int .i64 (a + k)] 3)
      go_wp2_with (at_builtin; refine wpList_appI _ rfl _ _ rfl rfl hoA rfl (RI_one _ _ _ _ (by simp)) (by omega) (by first | omega | (simp; done) | (simp; omega)) ?_; intro A5 c5 w5 hown5 hg5 hat5 hk5)
      have hb5 := below_app hbA hoA hg5 (by simp; omega) (Nat.le_refl _)
      rw [← hsn.out] at hown5
      clear hoA hbA hg5 hat5 hk5 hown hb hsn
      go_wp2
      go_roundw
      case rel => exact ⟨k + 1, _, _, by omega, by go_num, rfl, hown5, hb5⟩
      case measure => simp [intOf]; omega
    · obtain rfl : n = k := Nat.le_antisymm (Nat.le_of_not_lt hlt) hk
      go_wp2
      go_ret
      exact RetI.mk_ (HL.out n) rfl hown hb

theorem span_any (a : Int) (n : Nat) (w : World) (ha : 0 ≤ a ∧ a ≤ 1000000) (hn : n ≤ 1000000) :
    Calls Try.prog 41 #[.int .i64 a, .int .i64 n] w (RetI w (spn a n)) := by
  have HS := Lib.hid (spn_snoc a)
  have hs0 : spn a 0 = [] := rfl
  have HL := Lib.hid (spn_len a)
  obtain ⟨ha0, ha1⟩ := ha
  have hnone : Own w w.heap.size w.heap.size (.slice none 0 0) 0 (spn a 0) ∧ Below w.heap.size w w := ⟨by rw [hs0]; exact Own.none_ _ _ _, Below.refl _ _⟩
  have hsome : Own (w.alloc (.cells #[] 3)) w.heap.size (w.alloc (.cells #[] 3)).heap.size (.slice (some ⟨w.heap.size, 0, none⟩) 0 0) 0 (spn a 0) ∧ Below w.heap.size w (w.alloc (.cells #[] 3)) := ⟨by rw [hs0]; exact (Own_new0 w _ (Nat.le_refl _)).now, (Below.refl _ _).alloc (Nat.le_refl _) _⟩
  go_enter Try.func41, Try.ntmps41
  go_wp2
  go_loopw [5, 9] (fun o i wr => ∃ (k : Nat) (O : Option Addr) (oc : Nat), k ≤ n ∧ i = .int .i64 k ∧ o = .slice O k oc ∧ Own wr w.heap.size wr.heap.size (.slice O k oc) k (spn a k) ∧ Below w.heap.size w wr) (fun _ i _ => n - (intOf i).toNat)
  case atStart => exact ⟨0, _, _, Nat.zero_le _, rfl, rfl, hsome.1, hsome.2⟩
  case round =>
    obtain ⟨k, O, oc, hk, rfl, rfl, hown, hb⟩ := hrel
    clear hnone hsome
    have hz := hb.size
    by_cases hlt : k < n
    · have hsn := Lib.hid (HS.out k)
      have hoA := hown.alloc (.cells #[.int .i64 (a + k)] 3)
      have hbA := hb.alloc hz (.cells #[.int .i64 (a + k)] 3)
      go_wp2_with (at_builtin; refine wpList_appI _ rfl _ _ rfl rfl hoA rfl (RI_one _ _ _ _ (by simp)) (by omega) (by first | omega | (simp; done) | (simp; omega)) ?_; intro A5 c5 w5 hown5 hg5 hat5 hk5)
      have hb5 := below_app hbA hoA hg5 (by simp; omega) (Nat.le_refl _)
      rw [← hsn.out] at hown5
      clear hoA hbA hg5 hat5 hk5 hown hb hsn
      go_wp2
      go_roundw
      case rel => exact ⟨k + 1, _, _, by omega, by go_num, rfl, hown5, hb5⟩
      case measure => simp [intOf]; omega
    · obtain rfl : n = k := Nat.le_antisymm (Nat.le_of_not_lt hlt) hk
      go_wp2
      go_ret
      exact RetI.mk_ (HL.out n) rfl hown hb

theorem valid_t (x y : Int) (Ag : Option Addr) (ng cg : Nat) (Ao : Option Addr) (no co : Nat) (gs : List G3) (os : List Int) (w : World) (hg : RG w Ag ng gs) (ho : RI w Ao no os) (hng : ng ≤ 2097152) (hno : no ≤ 2097152) (hv : circB x y gs os = true) :
    Calls Try.prog 45 #[.agg #[.int .i64 x, .int .i64 y, .slice Ag ng cg, .slice Ao no co]] w fun e w' => e = .returned (.tuple #[.agg #[.int .i64 x, .int .i64 y, .slice Ag ng cg, .slice Ao no co], .bool true]) ∧ Below w.heap.size w w' := by
  have H0 := Lib.hid hv; clear hv
  have hB1 : Below w.heap.size w (w.alloc (.cells #[.int .i64 x, .int .i64 y, .slice Ag ng cg, .slice Ao no co] 26)) := (Below.refl _ _).alloc (Nat.le_refl _) _
  have hB : Below w.heap.size w ((w.alloc (.cells #[.int .i64 x, .int .i64 y, .slice Ag ng cg, .slice Ao no co] 26)).alloc (.cells #[.int .i64 0, .int .i64 0, .slice none 0 0, .slice none 0 0] 26)) := hB1.alloc (by simp) _
  have hx0 : BxC ((w.alloc (.cells #[.int .i64 x, .int .i64 y, .slice Ag ng cg, .slice Ao no co] 26)).alloc (.cells #[.int .i64 0, .int .i64 0, .slice none 0 0, .slice none 0 0] 26)) w.heap.size x y Ag ng cg Ao no co := (BxC.new w _).below ((Below.refl _ _).alloc (Nat.le_refl _) _)
  go_enter Try.func45, Try.ntmps45
  have hq := hx0; obtain ⟨k0, k1, k2, k3⟩ := hq
  go_wp2_with fail
  refine (IsCircuit_any x y Ag ng cg Ao no co gs os _ (hg.below hB (Nat.le_refl _)) (ho.below hB (Nat.le_refl _)) hng hno).mono ?_
  rintro e v1 ⟨rfl, hb1⟩
  rw [H0.out]
  have hx1 := hx0.below hb1
  clear k0 k1 k2 k3
  obtain ⟨k0, k1, k2, k3⟩ := hx1
  have hz1 := hb1.size
  simp only [World.size_alloc] at hz1
  have hz1' : w.heap.size + 1 < v1.heap.size := by omega
  obtain ⟨hc1, hf1⟩ := bcell hb1
  have hB2 := hB.trans (hb1.mono hB.size)
  have hr0 : BxC ((w.alloc (.cells #[.int .i64 x, .int .i64 y, .slice Ag ng cg, .slice Ao no co] 26)).alloc (.cells #[.int .i64 0, .int .i64 0, .slice none 0 0, .slice none 0 0] 26)) (w.heap.size + 1) 0 0 none 0 0 none 0 0 := by simpa using BxC.new (x := 0) (y := 0) (Ag := none) (ng := 0) (cg := 0) (Ao := none) (no := 0) (co := 0) (w.alloc (.cells #[.int .i64 x, .int .i64 y, .slice Ag ng cg, .slice Ao no co] 26)) 26
  go_wp2
  have hq9 := BxC.set4 (hr0.below hb1) x y Ag ng cg Ao no co
  obtain ⟨q0, q1, q2, q3⟩ := hq9
  refine bodyPost_ret (v := .tuple #[.agg #[.int .i64 x, .int .i64 y, .slice Ag ng cg, .slice Ao no co], .bool true]) (by simp [results, Try.results45, go_sem, q0, q1, q2, q3]) rfl ?_
  exact ⟨rfl, below_set4 hB2 (by omega) _ _ _ _ _ _ _ _⟩

end Go.Proofs.Ytgpfiefhhlejfaa
