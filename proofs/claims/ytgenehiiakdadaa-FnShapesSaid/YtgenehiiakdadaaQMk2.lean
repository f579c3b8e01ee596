/- Contracts of makers' words: a gate, each kind of gate; spans. Contracts of makers' adders. Contracts of makers' comparisons and choices. Contracts: spans, a circuit that is valid, a gadget. -/
import Derived.Test.YtgenehiiakdadaaQMk
import Derived.Test.YtgenehiiakdadaaQGad
import Derived.Test.YtgenehiiakdadaaQEval
namespace Go.Proofs.Ytgenehiiakdadaa
open Go.RowKit
set_option linter.unusedVariables false
set_option linter.unusedSimpArgs false

set_option maxHeartbeats 800000 in
theorem ciMaker_gate_any (lo b : Nat) (x y : Int) (gs : List G3) (G : Option Nat) (k p q : Int) (w : World) (hm : Mk w lo b x y gs G) (hx : 0 ≤ x ∧ x ≤ 20) (hy : 0 ≤ y ∧ y ≤ 20) (hn : gs.length ≤ 100000) (hlo : lo ≤ w.heap.size) :
    Calls Try.prog 69 #[.pointer (some ⟨b, 0, none⟩), .int .i64 k, .int .i64 p, .int .i64 q] w (RetW lo b x y (gs ++ [⟨k, p, q⟩]) G (x + y + gs.length) w) := by
  obtain ⟨h1, h2, hf, Ag, cg, hbx, hown, rfl⟩ := hm
  have hal : Below w.heap.size w (w.alloc (.cells #[.int .i64 k, .int .i64 p, .int .i64 q] 58)) := (Below.refl _ _).alloc (Nat.le_refl _) _
  have hownA := hown.alloc (.cells #[.int .i64 k, .int .i64 p, .int .i64 q] 58)
  have hbxA := hbx.below hal
  have hbb : b < (w.alloc (.cells #[.int .i64 k, .int .i64 p, .int .i64 q] 58)).heap.size := by simp; omega
  have hfA : ∀ r : Nat, (w.alloc (.cells #[.int .i64 k, .int .i64 p, .int .i64 q] 58)).frozen? ⟨b, r, none⟩ = false := fun r => (hal.frozen (p := ⟨b, r, none⟩) h1).trans (hf r)
  have hq := hbx; obtain ⟨k0, k1, k2, k3⟩ := hq
  go_enter Try.func69, Try.ntmps69
  go_wp2_with (at_builtin; refine wpList_appG _ rfl _ _ rfl rfl hownA rfl (RG_new1 _ _ _ _ _) (by omega) (by simp; omega) ?_; intro A5 c5 w5 hown5 hg5 hat5 hk5; obtain ⟨hmk, hmv⟩ := Mk.made hbb h2 hfA hbxA hown5 hg5 hat5; have hq5 := hbxA.grown hg5 h2; obtain ⟨j0, j1, j2, j3⟩ := hq5; have hq6 := hmk; obtain ⟨_, _, hf6, A6, c6, hx6, _, _⟩ := hq6; have hf5 : w5.frozen? ⟨b, 2, none⟩ = false := (World.frozen?_setCell _ _ _ _).symm.trans (hf6 2); obtain ⟨i0, i1, i2, i3⟩ := hx6)
  have q1 : x + y + ((gs.length : Int) + 1) - 1 = x + y + gs.length := by omega
  clear j0 j1 j2 j3 i0 i1 i2 i3
  refine (ciWires_any x y A6 (gs.length + 1) c6 none 0 0 _ hx hy (by omega)).mono ?_
  rintro e w6 ⟨rfl, hb6⟩
  go_wp2
  go_ret
  exact ⟨_, by rw [← q1]; rfl, hmk.below_ hb6 (Nat.le_refl _), (((Mv.refl_ b _ w).alloc_ _).trans_ hmv).below_ hb6 (Nat.le_refl _)⟩

theorem ciMaker_xor_any (lo b : Nat) (x y : Int) (gs : List G3) (G : Option Nat) (p q : Int) (w : World) (hm : Mk w lo b x y gs G) (hx : 0 ≤ x ∧ x ≤ 20) (hy : 0 ≤ y ∧ y ≤ 20) (hn : gs.length ≤ 100000) (hlo : lo ≤ w.heap.size) :
    Calls Try.prog 63 #[.pointer (some ⟨b, 0, none⟩), .int .i64 p, .int .i64 q] w (RetW lo b x y (gs ++ [⟨0, p, q⟩]) G (x + y + gs.length) w) := by
  go_enter Try.func63, Try.ntmps63
  go_wp2_with fail
  refine (ciMaker_gate_any lo b x y gs G 0 p q w hm hx hy hn hlo).mono ?_
  rintro e w1 ⟨G1, rfl, hm1, hv1⟩
  go_wp2
  go_ret
  exact ⟨G1, rfl, hm1, hv1⟩

theorem ciMaker_and_any (lo b : Nat) (x y : Int) (gs : List G3) (G : Option Nat) (p q : Int) (w : World) (hm : Mk w lo b x y gs G) (hx : 0 ≤ x ∧ x ≤ 20) (hy : 0 ≤ y ∧ y ≤ 20) (hn : gs.length ≤ 100000) (hlo : lo ≤ w.heap.size) :
    Calls Try.prog 64 #[.pointer (some ⟨b, 0, none⟩), .int .i64 p, .int .i64 q] w (RetW lo b x y (gs ++ [⟨1, p, q⟩]) G (x + y + gs.length) w) := by
  go_enter Try.func64, Try.ntmps64
  go_wp2_with fail
  refine (ciMaker_gate_any lo b x y gs G 1 p q w hm hx hy hn hlo).mono ?_
  rintro e w1 ⟨G1, rfl, hm1, hv1⟩
  go_wp2
  go_ret
  exact ⟨G1, rfl, hm1, hv1⟩

theorem ciMaker_not_any (lo b : Nat) (x y : Int) (gs : List G3) (G : Option Nat) (p : Int) (w : World) (hm : Mk w lo b x y gs G) (hx : 0 ≤ x ∧ x ≤ 20) (hy : 0 ≤ y ∧ y ≤ 20) (hn : gs.length ≤ 100000) (hlo : lo ≤ w.heap.size) :
    Calls Try.prog 62 #[.pointer (some ⟨b, 0, none⟩), .int .i64 p] w (RetW lo b x y (gs ++ [⟨2, p, 0⟩]) G (x + y + gs.length) w) := by
  go_enter Try.func62, Try.ntmps62
  go_wp2_with fail
  refine (ciMaker_gate_any lo b x y gs G 2 p 0 w hm hx hy hn hlo).mono ?_
  rintro e w1 ⟨G1, rfl, hm1, hv1⟩
  go_wp2
  go_ret
  exact ⟨G1, rfl, hm1, hv1⟩

theorem ciMaker_one_any (lo b : Nat) (x y : Int) (gs : List G3) (G : Option Nat) (w : World) (hm : Mk w lo b x y gs G) (hx : 0 ≤ x ∧ x ≤ 20) (hy : 0 ≤ y ∧ y ≤ 20) (hn : gs.length ≤ 100000) (hlo : lo ≤ w.heap.size) :
    Calls Try.prog 61 #[.pointer (some ⟨b, 0, none⟩)] w (RetW lo b x y (gs ++ [⟨3, 0, 0⟩]) G (x + y + gs.length) w) := by
  go_enter Try.func61, Try.ntmps61
  go_wp2_with fail
  refine (ciMaker_gate_any lo b x y gs G 3 0 0 w hm hx hy hn hlo).mono ?_
  rintro e w1 ⟨G1, rfl, hm1, hv1⟩
  go_wp2
  go_ret
  exact ⟨G1, rfl, hm1, hv1⟩

theorem ciMaker_xor_v (lo b : Nat) (x y : Int) (gs : List G3) (G : Option Nat) (p q v : Int) (w : World) (hm : Mk w lo b x y gs G) (hx : 0 ≤ x ∧ x ≤ 20) (hy : 0 ≤ y ∧ y ≤ 20) (hn : gs.length ≤ 100000) (hlo : lo ≤ w.heap.size) (hv : x + y + (gs.length : Int) = v) :
    Calls Try.prog 63 #[.pointer (some ⟨b, 0, none⟩), .int .i64 p, .int .i64 q] w (RetW lo b x y (gs ++ [⟨0, p, q⟩]) G v w) := by
  subst hv; exact ciMaker_xor_any lo b x y gs G p q w hm hx hy hn hlo

theorem ciMaker_and_v (lo b : Nat) (x y : Int) (gs : List G3) (G : Option Nat) (p q v : Int) (w : World) (hm : Mk w lo b x y gs G) (hx : 0 ≤ x ∧ x ≤ 20) (hy : 0 ≤ y ∧ y ≤ 20) (hn : gs.length ≤ 100000) (hlo : lo ≤ w.heap.size) (hv : x + y + (gs.length : Int) = v) :
    Calls Try.prog 64 #[.pointer (some ⟨b, 0, none⟩), .int .i64 p, .int .i64 q] w (RetW lo b x y (gs ++ [⟨1, p, q⟩]) G v w) := by
  subst hv; exact ciMaker_and_any lo b x y gs G p q w hm hx hy hn hlo

theorem ciMaker_not_v (lo b : Nat) (x y : Int) (gs : List G3) (G : Option Nat) (p v : Int) (w : World) (hm : Mk w lo b x y gs G) (hx : 0 ≤ x ∧ x ≤ 20) (hy : 0 ≤ y ∧ y ≤ 20) (hn : gs.length ≤ 100000) (hlo : lo ≤ w.heap.size) (hv : x + y + (gs.length : Int) = v) :
    Calls Try.prog 62 #[.pointer (some ⟨b, 0, none⟩), .int .i64 p] w (RetW lo b x y (gs ++ [⟨2, p, 0⟩]) G v w) := by
  subst hv; exact ciMaker_not_any lo b x y gs G p w hm hx hy hn hlo

end Go.Proofs.Ytgenehiiakdadaa

namespace Go.Proofs.Ytgenehiiakdadaa
open Go.RowKit
set_option linter.unusedVariables false
set_option linter.unusedSimpArgs false

/-- An adder returns its sums and the last carry; the maker has grown. -/
def RetAd (lo b : Nat) (x y : Int) (s : Ad) (G : Option Nat) (n : Nat) (w : World) (e : Ending) (w' : World) : Prop :=
  ∃ G' O oc, e = .returned (.tuple #[.slice O n oc, .int .i64 s.c]) ∧ Mk w' lo b x y s.g G' ∧ Mv b G G' w w' ∧ OM w' b G' w.heap.size (.slice O n oc) n s.o
/-- A maker's word returns a row of wires; the maker has grown. -/
def RetRow (lo b : Nat) (x y : Int) (gs : List G3) (os : List Int) (G : Option Nat) (w : World) (e : Ending) (w' : World) : Prop :=
  ∃ G' O oc, e = .returned (.slice O os.length oc) ∧ Mk w' lo b x y gs G' ∧ Mv b G G' w w' ∧ OM w' b G' w.heap.size (.slice O os.length oc) os.length os
theorem RetRow.mk_ {lo b n : Nat} {x y : Int} {gs : List G3} {os : List Int} {G G' : Option Nat} {w w' : World} {e : Ending} {O : Option Addr} {oc : Nat} (hn : os.length = n) (he : e = .returned (.slice O n oc)) (hm : Mk w' lo b x y gs G') (hv : Mv b G G' w w') (ho : OM w' b G' w.heap.size (.slice O n oc) n os) : RetRow lo b x y gs os G w e w' := by
  subst hn; exact ⟨G', O, oc, he, hm, hv, ho⟩
theorem RetRow.open_ {lo b n : Nat} {x y : Int} {gs : List G3} {os : List Int} {G : Option Nat} {w w' : World} {e : Ending} (h : RetRow lo b x y gs os G w e w') (hn : os.length = n) :
    ∃ G' O oc, e = .returned (.slice O n oc) ∧ Mk w' lo b x y gs G' ∧ Mv b G G' w w' ∧ OM w' b G' w.heap.size (.slice O n oc) n os := by
  subst hn; exact h

end Go.Proofs.Ytgenehiiakdadaa

namespace Go.Proofs.Ytgenehiiakdadaa
open Go.RowKit
set_option linter.unusedVariables false
set_option linter.unusedSimpArgs false

end Go.Proofs.Ytgenehiiakdadaa

namespace Go.Proofs.Ytgenehiiakdadaa
open Go.RowKit
set_option linter.unusedVariables false
set_option linter.unusedSimpArgs false

theorem valid_t (x y : Int) (Ag : Option Addr) (ng cg : Nat) (Ao : Option Addr) (no co : Nat) (gs : List G3) (os : List Int) (w : World) (hg : RG w Ag ng gs) (ho : RI w Ao no os) (hng : ng ≤ 2097152) (hno : no ≤ 2097152) (hv : circB x y gs os = true) :
    Calls Try.prog 28 #[.agg #[.int .i64 x, .int .i64 y, .slice Ag ng cg, .slice Ao no co]] w fun e w' => e = .returned (.tuple #[.agg #[.int .i64 x, .int .i64 y, .slice Ag ng cg, .slice Ao no co], .bool true]) ∧ Below w.heap.size w w' := by
  have H0 := Lib.hid hv; clear hv
  have hB1 : Below w.heap.size w (w.alloc (.cells #[.int .i64 x, .int .i64 y, .slice Ag ng cg, .slice Ao no co] 27)) := (Below.refl _ _).alloc (Nat.le_refl _) _
  have hB : Below w.heap.size w ((w.alloc (.cells #[.int .i64 x, .int .i64 y, .slice Ag ng cg, .slice Ao no co] 27)).alloc (.cells #[.int .i64 0, .int .i64 0, .slice none 0 0, .slice none 0 0] 27)) := hB1.alloc (by simp) _
  have hx0 : BxC ((w.alloc (.cells #[.int .i64 x, .int .i64 y, .slice Ag ng cg, .slice Ao no co] 27)).alloc (.cells #[.int .i64 0, .int .i64 0, .slice none 0 0, .slice none 0 0] 27)) w.heap.size x y Ag ng cg Ao no co := (BxC.new w _).below ((Below.refl _ _).alloc (Nat.le_refl _) _)
  go_enter Try.func28, Try.ntmps28
  have hq := hx0; obtain ⟨k0, k1, k2, k3⟩ := hq
  go_wp2_with fail
  refine (IsCircuit_any x y Ag ng cg Ao no co gs os _ (hg.below hB (Nat.le_refl _)) (ho.below hB (Nat.le_refl _)) hng hno).mono ?_
  rintro e v1 ⟨rfl, hb1⟩
  rw [H0.out]
  have hx1 := hx0.below hb1
  clear k0 k1 k2 k3
  obtain ⟨k0, k1, k2, k3⟩ := hx1
  have hz1 := hb1.size
  simp only [World.size_alloc] at hz1
  have hz1' : w.heap.size + 1 < v1.heap.size := by omega
  obtain ⟨hc1, hf1⟩ := bcell hb1
  have hB2 := hB.trans (hb1.mono hB.size)
  have hr0 : BxC ((w.alloc (.cells #[.int .i64 x, .int .i64 y, .slice Ag ng cg, .slice Ao no co] 27)).alloc (.cells #[.int .i64 0, .int .i64 0, .slice none 0 0, .slice none 0 0] 27)) (w.heap.size + 1) 0 0 none 0 0 none 0 0 := by simpa using BxC.new (x := 0) (y := 0) (Ag := none) (ng := 0) (cg := 0) (Ao := none) (no := 0) (co := 0) (w.alloc (.cells #[.int .i64 x, .int .i64 y, .slice Ag ng cg, .slice Ao no co] 27)) 27
  go_wp2
  have hq9 := BxC.set4 (hr0.below hb1) x y Ag ng cg Ao no co
  obtain ⟨q0, q1, q2, q3⟩ := hq9
  refine bodyPost_ret (v := .tuple #[.agg #[.int .i64 x, .int .i64 y, .slice Ag ng cg, .slice Ao no co], .bool true]) (by simp [results, Try.results28, go_sem, q0, q1, q2, q3]) rfl ?_
  exact ⟨rfl, below_set4 hB2 (by omega) _ _ _ _ _ _ _ _⟩

end Go.Proofs.Ytgenehiiakdadaa
