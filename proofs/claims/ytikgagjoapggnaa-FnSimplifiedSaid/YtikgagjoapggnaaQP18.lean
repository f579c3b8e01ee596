/- SimplifyCircuit, the program's small words: a gate, a gate made once, what a wire becomes as a wire, turning. Lengths below 2^17. append onto rows of records of the call's own; rows beside a maker whose outs grow. Lengths below 2^20. SimplifyCircuit, the reference: a gate made once, what a wire becomes as a wire. Lengths below 2^17. -/
import Derived.Test.YtikgagjoapggnaaQP17
import Derived.Test.YtikgagjoapggnaaQP16
namespace Go.Proofs.Ytikgagjoapggnaa
open Go.RowKit
set_option linter.unusedVariables false
set_option linter.unusedSimpArgs false
def RetVO (lo b : Nat) (x y : Int) (Ao : Option Addr) (no co : Nat) (gs : List G3) (G : Option Nat) (V : Value) (w : World) (e : Ending) (w' : World) : Prop :=
  ∃ G', e = .returned V ∧ MkO w' lo b x y Ao no co gs G' ∧ Mv b G G' w w'
theorem same1_found {gs : List G3} {g : G3} {k : Nat} (hk : k < gs.length) (hno : ∀ j, j < k → sameG (gg gs j) g = false) (h : sameG (gg gs k) g = true) : same1 gs g = k := by
  have h1 := fidx_found (q := fun o => sameG o g) hk h hno
  have h2 := (fidx_same (hs := gs) (g := g) rfl).1 (by rw [h1]; omega)
  rw [h1] at h2; omega
theorem same1_none {gs : List G3} {g : G3} (hno : ∀ j, j < gs.length → sameG (gg gs j) g = false) : same1 gs g = gs.length := by
  have h1 := fidx_none (q := fun o => sameG o g) hno
  exact (fidx_same (hs := gs) (g := g) rfl).2 (by rw [h1]; omega)
theorem once_old {gs : List G3} {g : G3} {S : Nat} (h : same1 gs g = S) (hS : S < gs.length) (X : Nat) : onceG gs g = gs ∧ onceW X gs g = (X : Int) + S := by
  subst h; exact ⟨by unfold onceG; rw [if_pos hS], rfl⟩
theorem once_new {gs : List G3} {g : G3} (h : same1 gs g = gs.length) (X : Nat) : onceG gs g = gs ++ [g] ∧ onceW X gs g = (X : Int) + gs.length := by
  refine ⟨by unfold onceG; rw [if_neg (by omega)], by unfold onceW; rw [h]⟩
set_option maxHeartbeats 800000 in
theorem maker_gateO_any (lo b : Nat) (x y : Int) (Ao : Option Addr) (no co : Nat) (gs : List G3) (G : Option Nat) (k p q : Int) (w : World) (hm : MkO w lo b x y Ao no co gs G) (hx : 0 ≤ x ∧ x ≤ 20) (hy : 0 ≤ y ∧ y ≤ 20) (hn : gs.length ≤ 100000) (hlo : lo ≤ w.heap.size) :
    Calls Try.prog 74 #[.pointer (some ⟨b, 0, none⟩), .int .i64 k, .int .i64 p, .int .i64 q] w (RetVO lo b x y Ao no co (gs ++ [⟨k, p, q⟩]) G (.int .i64 (x + y + gs.length)) w) := by
  obtain ⟨h1, h2, hf, Ag, cg, hbx, hown, rfl⟩ := hm
  have hal : Below w.heap.size w (w.alloc (.cells #[.int .i64 k, .int .i64 p, .int .i64 q] 50)) := (Below.refl _ _).alloc (Nat.le_refl _) _
  have hownA := hown.alloc (.cells #[.int .i64 k, .int .i64 p, .int .i64 q] 50)
  have hbxA := hbx.below hal
  have hbb : b < (w.alloc (.cells #[.int .i64 k, .int .i64 p, .int .i64 q] 50)).heap.size := by simp; omega
  have hfA : ∀ r : Nat, (w.alloc (.cells #[.int .i64 k, .int .i64 p, .int .i64 q] 50)).frozen? ⟨b, r, none⟩ = false := fun r => (hal.frozen (p := ⟨b, r, none⟩) h1).trans (hf r)
  have hq := hbx; obtain ⟨k0, k1, k2, k3⟩ := hq
  go_enter Try.func74, Try.ntmps74
  go_wp2_with (at_builtin; refine wpList_appG _ rfl _ _ rfl rfl hownA rfl (RG_new1 _ _ _ _ _) (by omega) (by simp; omega) ?_; intro A5 c5 w5 hown5 hg5 hat5 hk5; obtain ⟨hmk, hmv⟩ := MkO.made hbb h2 hfA hbxA hown5 hg5 hat5; have hq5 := hbxA.grown hg5 h2; obtain ⟨j0, j1, j2, j3⟩ := hq5; have hq6 := hmk; obtain ⟨_, _, hf6, A6, c6, hx6, _, _⟩ := hq6; have hf5 : w5.frozen? ⟨b, 2, none⟩ = false := (World.frozen?_setCell _ _ _ _).symm.trans (hf6 2); obtain ⟨i0, i1, i2, i3⟩ := hx6)
  have q1 : x + y + ((gs.length : Int) + 1) - 1 = x + y + gs.length := by omega
  clear j0 j1 j2 j3 i0 i1 i2 i3
  refine (Circuit_wires_any x y A6 (gs.length + 1) c6 Ao no co _ hx hy (by omega)).mono ?_
  rintro e w6 ⟨rfl, hb6⟩
  go_wp2
  go_ret
  exact ⟨_, by rw [← q1]; rfl, hmk.below_ hb6 (Nat.le_refl _), (((Mv.refl_ b _ w).alloc_ _).trans_ hmv).below_ hb6 (Nat.le_refl _)⟩
set_option maxHeartbeats 800000 in
theorem ciMaker_gateO_any (lo b : Nat) (x y : Int) (Ao : Option Addr) (no co : Nat) (gs : List G3) (G : Option Nat) (k p q : Int) (w : World) (hm : MkO w lo b x y Ao no co gs G) (hx : 0 ≤ x ∧ x ≤ 20) (hy : 0 ≤ y ∧ y ≤ 20) (hn : gs.length ≤ 100000) (hlo : lo ≤ w.heap.size) :
    Calls Try.prog 60 #[.pointer (some ⟨b, 0, none⟩), .int .i64 k, .int .i64 p, .int .i64 q] w (RetVO lo b x y Ao no co (gs ++ [⟨k, p, q⟩]) G (.int .i64 (x + y + gs.length)) w) := by
  obtain ⟨h1, h2, hf, Ag, cg, hbx, hown, rfl⟩ := hm
  have hal : Below w.heap.size w (w.alloc (.cells #[.int .i64 k, .int .i64 p, .int .i64 q] 50)) := (Below.refl _ _).alloc (Nat.le_refl _) _
  have hownA := hown.alloc (.cells #[.int .i64 k, .int .i64 p, .int .i64 q] 50)
  have hbxA := hbx.below hal
  have hbb : b < (w.alloc (.cells #[.int .i64 k, .int .i64 p, .int .i64 q] 50)).heap.size := by simp; omega
  have hfA : ∀ r : Nat, (w.alloc (.cells #[.int .i64 k, .int .i64 p, .int .i64 q] 50)).frozen? ⟨b, r, none⟩ = false := fun r => (hal.frozen (p := ⟨b, r, none⟩) h1).trans (hf r)
  have hq := hbx; obtain ⟨k0, k1, k2, k3⟩ := hq
  go_enter Try.func60, Try.ntmps60
  go_wp2_with (at_builtin; refine wpList_appG _ rfl _ _ rfl rfl hownA rfl (RG_new1 _ _ _ _ _) (by omega) (by simp; omega) ?_; intro A5 c5 w5 hown5 hg5 hat5 hk5; obtain ⟨hmk, hmv⟩ := MkO.made hbb h2 hfA hbxA hown5 hg5 hat5; have hq5 := hbxA.grown hg5 h2; obtain ⟨j0, j1, j2, j3⟩ := hq5; have hq6 := hmk; obtain ⟨_, _, hf6, A6, c6, hx6, _, _⟩ := hq6; have hf5 : w5.frozen? ⟨b, 2, none⟩ = false := (World.frozen?_setCell _ _ _ _).symm.trans (hf6 2); obtain ⟨i0, i1, i2, i3⟩ := hx6)
  have q1 : x + y + ((gs.length : Int) + 1) - 1 = x + y + gs.length := by omega
  clear j0 j1 j2 j3 i0 i1 i2 i3
  refine (ciWires_any x y A6 (gs.length + 1) c6 Ao no co _ hx hy (by omega)).mono ?_
  rintro e w6 ⟨rfl, hb6⟩
  go_wp2
  go_ret
  exact ⟨_, by rw [← q1]; rfl, hmk.below_ hb6 (Nat.le_refl _), (((Mv.refl_ b _ w).alloc_ _).trans_ hmv).below_ hb6 (Nat.le_refl _)⟩
theorem once_1_any (B : Nat) (o g : G3) (w : World) (hc : BxG w B g.k g.a g.b) :
    Calls Try.prog 72 #[.agg #[.int .i64 o.k, .int .i64 o.a, .int .i64 o.b], .pointer (some ⟨B, 0, none⟩)] w fun e w' => e = .returned (.bool (sameG o g)) ∧ Below w.heap.size w w' := by
  have hB : Below w.heap.size w (w.alloc (.cells #[.int .i64 o.k, .int .i64 o.a, .int .i64 o.b] 50)) := (Below.refl _ _).alloc (Nat.le_refl _) _
  have hc1 := hc.below ((Below.refl _ _).alloc (Nat.le_refl _) (.cells #[.int .i64 o.k, .int .i64 o.a, .int .i64 o.b] 50))
  obtain ⟨k0, k1, k2⟩ := hc1
  go_enter Try.func72, Try.ntmps72
  go_wp2_with fail
  refine (sameGate_any o g _).mono ?_
  rintro e w1 ⟨rfl, hb1⟩
  go_wp2
  go_ret
  exact ⟨rfl, hB.trans (hb1.mono hB.size)⟩
set_option maxRecDepth 100000 in
set_option maxHeartbeats 2000000 in
theorem once_any (lo b : Nat) (x y : Int) (Ao : Option Addr) (no co : Nat) (gs : List G3) (G : Option Nat) (X : Nat) (k p q : Int) (w : World) (hm : MkO w lo b x y Ao no co gs G) (hx : 0 ≤ x ∧ x ≤ 20) (hy : 0 ≤ y ∧ y ≤ 20) (hn : gs.length ≤ 100000) (hlo : lo ≤ w.heap.size) (hXe : Hid (x + y = (X : Int))) :
    Calls Try.prog 42 #[.pointer (some ⟨b, 0, none⟩), .int .i64 k, .int .i64 p, .int .i64 q] w (RetVO lo b x y Ao no co (onceG gs ⟨k, p, q⟩) G (.int .i64 (onceW X gs ⟨k, p, q⟩)) w) := by
  obtain ⟨Z, hZ⟩ : ∃ Z, Hid (onceG gs ⟨k, p, q⟩ = Z) := ⟨_, Lib.hid rfl⟩
  obtain ⟨V, hV⟩ : ∃ V, Hid (onceW X gs ⟨k, p, q⟩ = V) := ⟨_, Lib.hid rfl⟩
  rw [hZ.out, hV.out]
  obtain ⟨S, hS⟩ : ∃ S, Hid (same1 gs ⟨k, p, q⟩ = S) := ⟨_, Lib.hid rfl⟩
  obtain ⟨I, hIx⟩ : ∃ I, Hid (fidx (fun o => sameG o ⟨k, p, q⟩) gs = I) := ⟨_, Lib.hid rfl⟩
  have hfx := fidx_same (hs := gs) (g := ⟨k, p, q⟩) rfl
  rw [hIx.out, hS.out] at hfx
  have HFX := Lib.hid hfx; clear hfx
  have hm0 := hm
  obtain ⟨h1, h2, hf, Ag, cg, hbx, hown, hGe⟩ := hm
  have hal : Below w.heap.size w (w.alloc (.cells #[.int .i64 k, .int .i64 p, .int .i64 q] 50)) := (Below.refl _ _).alloc (Nat.le_refl _) _
  have hownA := hown.alloc (.cells #[.int .i64 k, .int .i64 p, .int .i64 q] 50)
  have hbxA := hbx.below hal
  have hgA := BxG.new (k := k) (a := p) (c := q) w 50
  have hmA := hm0.alloc_ (.cells #[.int .i64 k, .int .i64 p, .int .i64 q] 50)
  have hvA := (Mv.refl_ b G w).alloc_ (.cells #[.int .i64 k, .int .i64 p, .int .i64 q] 50)
  have hHid := Lib.hid hGe; clear hGe
  have hq := hbxA; obtain ⟨k0, k1, k2, k3⟩ := hq
  go_enter Try.func42, Try.ntmps42
  go_wp2_with fail
  refine (IndexFuncG_any 72 Try.call72 #[.pointer (some ⟨w.heap.size, 0, none⟩)] (fun o => sameG o ⟨k, p, q⟩) Ag gs.length cg gs _ hownA.reads (by omega) (Lib.hid fun o w1 hb1 => once_1_any w.heap.size o ⟨k, p, q⟩ w1 (hgA.below hb1))).mono ?_
  rintro e w2 ⟨rfl, hb2⟩
  rw [hIx.out]
  have hbx2 := hbxA.below hb2
  have hm2 := hmA.below_ hb2 (Nat.le_refl _)
  have hv2 := hvA.below_ hb2 (Nat.le_refl _)
  clear k0 k1 k2 k3 hal hownA hbxA hgA hmA hvA hb2 hown hbx
  by_cases hpos : 0 ≤ I
  · obtain ⟨hIS, hSk⟩ := HFX.out.1 hpos
    have hIk : I ≤ 100000 := by omega
    have HR := once_old hS.out hSk X
    have HZ : Hid (Z = gs) := Lib.hid (hZ.out.symm.trans HR.1)
    have HV : Hid (V = x + y + I) := Lib.hid (by rw [hXe.out, hIS]; exact hV.out.symm.trans HR.2)
    clear hIS HR
    have hwv : IntKind.i64.wrap (x + y + I) = x + y + I := IntWalk.i64_in _ (by omega)
    have hq := hbx2; obtain ⟨k0, k1, k2, k3⟩ := hq
    go_wp2_with fail
    refine (Circuit_inputs_any x y Ag gs.length cg Ao no co _ hx hy).mono ?_
    rintro e w6 ⟨rfl, hb6⟩
    go_wp2
    go_ret
    exact ⟨G, by rw [HV.out]; first | rfl | (rw [hwv]), by rw [HZ.out]; exact hm2.below_ hb6 (Nat.le_refl _), hv2.below_ hb6 (Nat.le_refl _)⟩
  · have HR := once_new (hS.out.trans (HFX.out.2 (by omega))) X
    have HZ : Hid (Z = gs ++ [⟨k, p, q⟩]) := Lib.hid (hZ.out.symm.trans HR.1)
    have HV : Hid (V = x + y + gs.length) := Lib.hid (by rw [hXe.out]; exact hV.out.symm.trans HR.2)
    clear HR
    go_wp2_with fail
    refine (maker_gateO_any lo b x y Ao no co gs G k p q _ hm2 hx hy hn (Nat.le_trans hlo hv2.size)).mono ?_
    rintro e w6 ⟨G6, rfl, hm6, hv6⟩
    go_wp2
    go_ret
    exact ⟨G6, by rw [HV.out]; rfl, by rw [HZ.out]; exact hm6, hv2.trans_ hv6⟩
set_option maxRecDepth 100000 in
set_option maxHeartbeats 2000000 in
theorem made_any (lo b : Nat) (x y : Int) (Ao : Option Addr) (no co : Nat) (gs : List G3) (G : Option Nat) (X : Nat) (t : Tb) (w : World) (hm : MkO w lo b x y Ao no co gs G) (hx : 0 ≤ x ∧ x ≤ 20) (hy : 0 ≤ y ∧ y ≤ 20) (hn : gs.length ≤ 90000) (hlo : lo ≤ w.heap.size) (hXe : Hid (x + y = (X : Int))) :
    Calls Try.prog 22 #[.pointer (some ⟨b, 0, none⟩), .agg #[.bool t.c, .int .i64 t.w, .bool t.t]] w (RetVO lo b x y Ao no co (made X gs t).1 G (.int .i64 (made X gs t).2) w) := by
  obtain ⟨tc, tw, tu⟩ := t
  have hle1 := (onceG_le gs ⟨3, 0, 0⟩).2
  have hmA := hm.alloc_ (.cells #[.bool tc, .int .i64 tw, .bool tu] 48)
  have hvA := (Mv.refl_ b G w).alloc_ (.cells #[.bool tc, .int .i64 tw, .bool tu] 48)
  have k0 := box_cell w #[.bool tc, .int .i64 tw, .bool tu] (T := 48) 0 (.bool tc) rfl
  have k1 := box_cell w #[.bool tc, .int .i64 tw, .bool tu] (T := 48) 1 (.int .i64 tw) rfl
  have k2 := box_cell w #[.bool tc, .int .i64 tw, .bool tu] (T := 48) 2 (.bool tu) rfl
  have hoff : OffB b G w.heap.size := ⟨by have := hm.1; omega, fun hc => by have := (hm.lt _ hc).2; omega⟩
  have hof : ∀ {w1 : World} {G1 : Option Nat}, Mv b G G1 (w.alloc (.cells #[.bool tc, .int .i64 tw, .bool tu] 48)) w1 → w1.cell? ⟨w.heap.size, 2, none⟩ = some (.bool tu) := fun hv => hv.cellF k2 hoff
  cases tc with
  | true =>
    obtain ⟨Z1, hZ1⟩ : ∃ Z, Hid (onceG gs ⟨3, 0, 0⟩ = Z) := ⟨_, Lib.hid rfl⟩
    obtain ⟨V1, hV1⟩ : ∃ Z, Hid (onceW X gs ⟨3, 0, 0⟩ = Z) := ⟨_, Lib.hid rfl⟩
    rw [hZ1.out] at hle1
    cases tu with
    | true =>
      have HM : Hid (made X gs ⟨true, tw, true⟩ = (onceG Z1 ⟨2, V1, 0⟩, onceW X Z1 ⟨2, V1, 0⟩)) := Lib.hid (by rw [← hZ1.out, ← hV1.out]; rfl)
      rw [HM.out]
      go_enter Try.func22, Try.ntmps22
      go_wp2_with fail
      refine (once_any lo b x y Ao no co gs G X 3 0 0 _ hmA hx hy (by omega) (Nat.le_trans hlo hvA.size) hXe).mono ?_
      rintro e w1 ⟨G1, rfl, hm1, hv1⟩
      have k2' := hof hv1
      rw [hZ1.out] at hm1
      rw [hV1.out]
      have hvv := hvA.trans_ hv1
      clear k0 k1 k2 hof hmA hvA hv1
      go_wp2_with fail
      refine (once_any lo b x y Ao no co Z1 G1 X 2 V1 0 _ hm1 hx hy (by omega) (Nat.le_trans hlo hvv.size) hXe).mono ?_
      rintro e w2 ⟨G2, rfl, hm2, hv2⟩
      go_wp2
      go_ret
      exact ⟨G2, rfl, hm2, hvv.trans_ hv2⟩
    | false =>
      have HM : Hid (made X gs ⟨true, tw, false⟩ = (Z1, V1)) := Lib.hid (by rw [← hZ1.out, ← hV1.out]; rfl)
      rw [HM.out]
      go_enter Try.func22, Try.ntmps22
      go_wp2_with fail
      refine (once_any lo b x y Ao no co gs G X 3 0 0 _ hmA hx hy (by omega) (Nat.le_trans hlo hvA.size) hXe).mono ?_
      rintro e w1 ⟨G1, rfl, hm1, hv1⟩
      have k2' := hof hv1
      rw [hZ1.out] at hm1
      rw [hV1.out]
      go_wp2
      go_ret
      exact ⟨G1, rfl, hm1, hvA.trans_ hv1⟩
  | false =>
    cases tu with
    | true =>
      have HM : Hid (made X gs ⟨false, tw, true⟩ = (onceG gs ⟨2, tw, 0⟩, onceW X gs ⟨2, tw, 0⟩)) := Lib.hid rfl
      rw [HM.out]
      go_enter Try.func22, Try.ntmps22
      go_wp2_with fail
      refine (once_any lo b x y Ao no co gs G X 2 tw 0 _ hmA hx hy (by omega) (Nat.le_trans hlo hvA.size) hXe).mono ?_
      rintro e w2 ⟨G2, rfl, hm2, hv2⟩
      go_wp2
      go_ret
      exact ⟨G2, rfl, hm2, hvA.trans_ hv2⟩
    | false =>
      have HM : Hid (made X gs ⟨false, tw, false⟩ = (gs, tw)) := Lib.hid rfl
      rw [HM.out]
      go_enter Try.func22, Try.ntmps22
      go_wp2
      go_ret
      exact ⟨G, rfl, hmA, hvA⟩
def Bx3 (w : World) (b : Nat) (u0 u1 u2 : Value) : Prop := w.cell? ⟨b, 0, none⟩ = some u0 ∧ w.cell? ⟨b, 1, none⟩ = some u1 ∧ w.cell? ⟨b, 2, none⟩ = some u2
theorem Bx3.new (w : World) (u0 u1 u2 : Value) (T : TypeId) : Bx3 (w.alloc (.cells #[u0, u1, u2] T)) w.heap.size u0 u1 u2 := ⟨box_cell w _ 0 _ rfl, box_cell w _ 1 _ rfl, box_cell w _ 2 _ rfl⟩
section
variable {w w' : World} {b : Nat} {u0 u1 u2 v0 v1 v2 : Value} {B : Nat}
theorem Bx3.lt (h : Bx3 w b u0 u1 u2) : b < w.heap.size := World.block_lt_of_cell? w _ h.1
theorem Bx3.bel (h : Bx3 w b u0 u1 u2) (k : Below B w w') (hb : b < B) : Bx3 w' b u0 u1 u2 :=
  have hc : ∀ {q : Nat} {v : Value}, w.cell? ⟨b, q, none⟩ = some v → w'.cell? ⟨b, q, none⟩ = some v := fun {q v} hv => (k.cell (p := ⟨b, q, none⟩) hb).trans hv
  ⟨hc h.1, hc h.2.1, hc h.2.2⟩
theorem Bx3.mv {B : Nat} {G G1 : Option Nat} (h : Bx3 w b u0 u1 u2) (k : Mv B G G1 w w') (ho : OffB B G b) : Bx3 w' b u0 u1 u2 := ⟨k.cellF h.1 ho, k.cellF h.2.1 ho, k.cellF h.2.2 ho⟩
theorem Bx3.set (h : Bx3 w b v0 v1 v2) (u0 u1 u2 : Value) : Bx3 (((w.setCell ⟨b, 0, none⟩ u0).setCell ⟨b, 1, none⟩ u1).setCell ⟨b, 2, none⟩ u2) b u0 u1 u2 := by
  have h1 : Bx3 (w.setCell ⟨b, 0, none⟩ u0) b u0 v1 v2 := ⟨World.cell?_setCell_same _ _ _ h.1, (World.cell?_setCell_other _ _ _ _ (by simp)).trans h.2.1, (World.cell?_setCell_other _ _ _ _ (by simp)).trans h.2.2⟩
  have h2 : Bx3 ((w.setCell ⟨b, 0, none⟩ u0).setCell ⟨b, 1, none⟩ u1) b u0 u1 v2 := ⟨(World.cell?_setCell_other _ _ _ _ (by simp)).trans h1.1, World.cell?_setCell_same _ _ _ h1.2.1, (World.cell?_setCell_other _ _ _ _ (by simp)).trans h1.2.2⟩
  exact ⟨(World.cell?_setCell_other _ _ _ _ (by simp)).trans h2.1, (World.cell?_setCell_other _ _ _ _ (by simp)).trans h2.2.1, World.cell?_setCell_same _ _ _ h2.2.2⟩
theorem Fz.mvO {B : Nat} {G G1 : Option Nat} (h : Fz w b) (k : Mv B G G1 w w') (hb : b < w.heap.size) (ho : OffB B G b) : Fz w' b := fun q => (World.frozen?_of_block (w := w) (a := ⟨b, q, none⟩) (k.block b hb (And.left ho) (And.right ho))).trans (h q)
theorem Mv.set {B : Nat} {G G1 : Option Nat} {W : World} (h : Mv B G G1 W w) (p : Addr) (v : Value) (hp : W.heap.size ≤ p.block) : Mv B G G1 W (w.setCell p v) :=
  ⟨h.os, h.tape, h.output, by simpa using h.size, fun k hk hkb hkG => by rw [Below.heap_setCell _ _ _ _ (by omega)]; exact h.block k hk hkb hkG, h.own⟩
theorem Mv.set3 {B : Nat} {G G1 : Option Nat} {W : World} (h : Mv B G G1 W w) (hb : W.heap.size ≤ b) (u0 u1 u2 : Value) : Mv B G G1 W (((w.setCell ⟨b, 0, none⟩ u0).setCell ⟨b, 1, none⟩ u1).setCell ⟨b, 2, none⟩ u2) :=
  ((h.set ⟨b, 0, none⟩ u0 hb).set ⟨b, 1, none⟩ u1 hb).set ⟨b, 2, none⟩ u2 hb
theorem MkO.set_ {lo c : Nat} {x y : Int} {Ao : Option Addr} {no co : Nat} {gs : List G3} {G : Option Nat} (h : MkO w lo c x y Ao no co gs G) (p : Addr) (v : Value) (hp : p.block ≠ c) (hG : G ≠ some p.block) : MkO (w.setCell p v) lo c x y Ao no co gs G := by
  obtain ⟨h1, h2, hf, Ag, cg, hx, ho, he⟩ := h
  have k1 : Alt (fun i => i = p.block) w (w.setCell p v) := (Alt.refl_ _ w).set_ _ _ (fun _ => rfl)
  exact ⟨by simpa using h1, h2, fun q => (World.frozen?_setCell _ _ _ _).trans (hf q), Ag, cg, hx.alt k1 (fun hc => hp hc.symm), by simpa using ho.far1 p v (he ▸ hG), he⟩
theorem MkO.set3 {lo c : Nat} {x y : Int} {Ao : Option Addr} {no co : Nat} {gs : List G3} {G : Option Nat} (h : MkO w lo c x y Ao no co gs G) (hp : OffB c G b) (u0 u1 u2 : Value) : MkO (((w.setCell ⟨b, 0, none⟩ u0).setCell ⟨b, 1, none⟩ u1).setCell ⟨b, 2, none⟩ u2) lo c x y Ao no co gs G :=
  ((h.set_ ⟨b, 0, none⟩ u0 (And.left hp) (And.right hp)).set_ ⟨b, 1, none⟩ u1 (And.left hp) (And.right hp)).set_ ⟨b, 2, none⟩ u2 (And.left hp) (And.right hp)
end
set_option maxHeartbeats 800000 in
theorem turnedBy_any (t : Tb) (by_ : Bool) (w : World) :
    Calls Try.prog 21 #[.agg #[.bool t.c, .int .i64 t.w, .bool t.t], .bool by_] w fun e w' => e = .returned (.agg #[.bool (t.by_ by_).c, .int .i64 (t.by_ by_).w, .bool (t.by_ by_).t]) ∧ Below w.heap.size w w' := by
  obtain ⟨tc, tw, tu⟩ := t
  have hb1 : Below w.heap.size w (w.alloc (.cells #[.bool tc, .int .i64 tw, .bool tu] 48)) := (Below.refl _ _).alloc (Nat.le_refl _) _
  have hb2 : Below w.heap.size w ((w.alloc (.cells #[.bool tc, .int .i64 tw, .bool tu] 48)).alloc (.cells #[.bool false, .int .i64 0, .bool false] 48)) := hb1.alloc (by simp) _
  have k0 := Bx3.new w (.bool tc) (.int .i64 tw) (.bool tu) 48
  have k1 := k0.bel ((Below.refl (w.heap.size + 1) (w.alloc (.cells #[.bool tc, .int .i64 tw, .bool tu] 48))).alloc (by simp) (.cells #[.bool false, .int .i64 0, .bool false] 48)) (by omega)
  go_enter Try.func21, Try.ntmps21
  go_wp2
  have q9 := Bx3.new (w.alloc (.cells #[.bool tc, .int .i64 tw, .bool (!tu == by_)] 48)) (.bool tc) (.int .i64 tw) (.bool (!tu == by_)) 48
  simp only [World.size_alloc] at q9
  obtain ⟨q0, q1, q2⟩ := q9
  refine bodyPost_ret (v := .agg #[.bool tc, .int .i64 tw, .bool (!tu == by_)]) (by simp [results, Try.results21, go_sem, q0, q1, q2]) rfl ?_
  exact ⟨rfl, ((Below.refl _ _).alloc (Nat.le_refl _) _).alloc (by simp) _⟩
def tbC (t : Tb) : List Value := [.bool t.c, .int .i64 t.w, .bool t.t]
def tbS (t : Tb) : List Value := [.int .i64 (sW t), .int .i64 (sT t)]
theorem tbC_len (x : Tb) : (tbC x).length = 3 := rfl
theorem tbS_len (x : Tb) : (tbS x).length = 2 := rfl
theorem tbC_one (x : Tb) : ∀ u ∈ tbC x, u.oneCell' = true := by intro u hu; simp only [tbC, List.mem_cons, List.not_mem_nil, or_false] at hu; rcases hu with rfl | rfl | rfl <;> rfl
theorem tbS_one (x : Tb) : ∀ u ∈ tbS x, u.oneCell' = true := by intro u hu; simp only [tbS, List.mem_cons, List.not_mem_nil, or_false] at hu; rcases hu with rfl | rfl <;> rfl
theorem cells_new (w : World) (l : List Value) (T : TypeId) : ∀ i u, l[i]? = some u → (w.alloc (.cells l.toArray T)).cell? ⟨w.heap.size, i, none⟩ = some u := fun i u h => box_cell w _ i u (by simpa using h)
theorem tbS_cells (w : World) (e : Tb) (p d : Int) (T : TypeId) (h1 : sW e = p) (h2 : sT e = d) : ∀ i u, (tbS e)[i]? = some u → (w.alloc (.cells #[.int .i64 p, .int .i64 d] T)).cell? ⟨w.heap.size, i, none⟩ = some u := fun i u h => box_cell w _ i u (by simpa [tbS, h1, h2] using h)
theorem wp_appT {P : Program} {o : Oper} {a : Act} {K : Act → World → Prop} {Q : Exit → Act → World → Prop} (w : World) (s x : Operand) (t T : TypeId) (z : Value) (sz bytes : Nat) (f : Tb → List Value) (hf : ∀ x, (f x).length = sz) (h1c : ∀ x, ∀ u ∈ f x, u.oneCell' = true)
    (ht : P.underlying t = some (.slice T)) (hinfo : (P.info? T).map (fun i => (i.zero, i.size, i.bytes)) = some (some z, sz, bytes)) (hzs : z.cells.size = sz) (hs0 : 0 < sz) (hby : bytes ≤ 64)
    (ho : o.op = .call { callee := .builtin .append, args := #[s, x], argTypes := #[t, t] })
    {lo hi n c0 c b : Nat} {A0 : Option Addr} {l : List Tb} {e : Tb} (hs : a.eval s = .slice A0 n c0) (hown : OwnT T sz f w lo hi (.slice A0 n c0) n l) (hx : a.eval x = .slice (some ⟨b, 0, none⟩) 1 c) (hr : ∀ i u, (f e)[i]? = some u → w.cell? ⟨b, i, none⟩ = some u)
    (hlen : n ≤ 1048576) (hlo : lo ≤ w.heap.size)
    (h : ∀ A' c' w', OwnT T sz f w' lo w'.heap.size (.slice A' (n + 1) c') (n + 1) (l ++ [e]) → w.grownBy w' (Value.slice A0 n c0).ownBlock → ((Value.slice A' (n + 1) c').ownBlock = (Value.slice A0 n c0).ownBlock ∨ (Value.slice A' (n + 1) c').ownBlock = some w.heap.size) → StayA A0 (n * sz) w w' → K (a.put o.dst (.slice A' (n + 1) c')) w') : o.wp P a w K Q := by
  obtain ⟨A', c', w', hrun, h2, h3, h4, h5⟩ := run_appT w P t o.type T z sz bytes f hf h1c ht hinfo hzs hs0 hby lo hi n c0 c b A0 l e hown hr hlen hlo
  unfold Oper.wp execOp
  simp only [ho, resolve, invoke, builtin, Sem.run_bind, Sem.run_pure, Result.andThen_ok, List.map_toArray, List.map_cons, List.map_nil, hs, hx, hrun]
  exact h A' c' w' h2 h3 h4 h5
section
variable {T : TypeId} {s : Nat} {f : Tb → List Value} {w w' : World} {lo lo' b n : Nat} {v : Value} {l : List Tb} {G : Option Nat} {x y : Int} {Ao : Option Addr} {no co : Nat} {gs : List G3} {xs : List Int}
theorem OMT.setc (h : OMT T s f w b G lo v n l) (q : Addr) (u : Value) (hq : v.ownBlock ≠ some q.block) : OMT T s f (w.setCell q u) b G lo v n l :=
  ⟨(h.1.alt ((Alt.refl_ (fun i => i = q.block) w).set_ q u (fun _ => rfl)) (fun g hg hc => hq (hc ▸ hg))).now, h.2⟩
theorem OMT.other {r : Option Nat} (h : OMT T s f w b G lo v n l) (k : w.grownBy w' r) (hr : ∀ g, r = some g → v.ownBlock ≠ some g) : OMT T s f w' b G lo v n l :=
  ⟨(h.1.alt (Alt.of_grown (S := fun i => r = some i) k (fun _ h => h)) (fun g hg hc => hr g hc hg)).now, h.2⟩
theorem OM.setc (h : OM w b G lo v n xs) (q : Addr) (u : Value) (hq : v.ownBlock ≠ some q.block) : OM (w.setCell q u) b G lo v n xs :=
  ⟨(h.1.alt ((Alt.refl_ (fun i => i = q.block) w).set_ q u (fun _ => rfl)) (fun g hg hc => hq (hc ▸ hg))).now, h.2⟩
theorem OM.appO {m c c' : Nat} {A A' : Option Addr} {ys : List Int} (h : OM w b G lo (.slice A n c) n xs) (hm : MkO w lo' b x y Ao no co gs G)
    (ho : Own w' lo w'.heap.size (.slice A' m c') m ys) (hat : (Value.slice A' m c').ownBlock = (Value.slice A n c).ownBlock ∨ (Value.slice A' m c').ownBlock = some w.heap.size) : OM w' b G lo (.slice A' m c') m ys := by
  refine ⟨ho, fun g hg => ?_⟩
  rcases hat with h1 | h1
  · exact h.2 g (h1 ▸ hg)
  · rw [h1] at hg; injection hg with hg; subst hg
    exact ⟨by have := hm.1; omega, fun hc => by have := hm.lt _ hc; omega⟩
theorem MkO.appM {c : Nat} {A : Option Addr} (hm : MkO w lo' b x y Ao no co gs G) (h : OM w b G lo (.slice A n c) n xs) (hg : w.grownBy w' (Value.slice A n c).ownBlock) : MkO w' lo' b x y Ao no co gs G :=
  hm.grown_ hg (fun hc => (h.2 b hc).1 rfl) (fun g hc => (h.2 g hc).2)
end
theorem info_TbP : (Try.prog.info? 48).map (fun i => (i.zero, i.size, i.bytes)) = some (some (.agg #[.bool false, .int .i64 0, .bool false]), 3, 24) := by kernel_rfl
theorem wpList_appP {w : World} {ops : Array Oper} {rest : List Oper} {o : Oper} {a : Act} {Q : Exit → Act → World → Prop} (hgd : o.guard = none) (s x : Operand)
    (ho : o.op = .call { callee := .builtin .append, args := #[s, x], argTypes := #[45, 45] })
    {lo hi n c0 c b : Nat} {A0 : Option Addr} {l : List Tb} {e : Tb} (hs : a.eval s = .slice A0 n c0) (hown : OwnT 48 3 tbC w lo hi (.slice A0 n c0) n l) (hx : a.eval x = .slice (some ⟨b, 0, none⟩) 1 c) (hr : ∀ i u, (tbC e)[i]? = some u → w.cell? ⟨b, i, none⟩ = some u)
    (hlen : n ≤ 1048576) (hlo : lo ≤ w.heap.size)
    (h : ∀ A' c' w', OwnT 48 3 tbC w' lo w'.heap.size (.slice A' (n + 1) c') (n + 1) (l ++ [e]) → w.grownBy w' (Value.slice A0 n c0).ownBlock → ((Value.slice A' (n + 1) c').ownBlock = (Value.slice A0 n c0).ownBlock ∨ (Value.slice A' (n + 1) c').ownBlock = some w.heap.size) → StayA A0 (n * 3) w w' → wpList Try.prog ops Q rest (a.put o.dst (.slice A' (n + 1) c')) w') : wpList Try.prog ops Q (o :: rest) a w :=
  wpList_plain hgd fun _ hK => wp_appT w s x 45 48 (.agg #[.bool false, .int .i64 0, .bool false]) 3 24 tbC tbC_len tbC_one Try.underlying45 info_TbP rfl (by decide) (by decide) ho hs hown hx hr hlen hlo fun A' c' w' h2 h3 h4 h5 => hK _ _ (h A' c' w' h2 h3 h4 h5)
theorem info_TbS : (Try.prog.info? 82).map (fun i => (i.zero, i.size, i.bytes)) = some (some (.agg #[.int .i64 0, .int .i64 0]), 2, 16) := by kernel_rfl
theorem wpList_appS {w : World} {ops : Array Oper} {rest : List Oper} {o : Oper} {a : Act} {Q : Exit → Act → World → Prop} (hgd : o.guard = none) (s x : Operand)
    (ho : o.op = .call { callee := .builtin .append, args := #[s, x], argTypes := #[80, 80] })
    {lo hi n c0 c b : Nat} {A0 : Option Addr} {l : List Tb} {e : Tb} (hs : a.eval s = .slice A0 n c0) (hown : OwnT 82 2 tbS w lo hi (.slice A0 n c0) n l) (hx : a.eval x = .slice (some ⟨b, 0, none⟩) 1 c) (hr : ∀ i u, (tbS e)[i]? = some u → w.cell? ⟨b, i, none⟩ = some u)
    (hlen : n ≤ 1048576) (hlo : lo ≤ w.heap.size)
    (h : ∀ A' c' w', OwnT 82 2 tbS w' lo w'.heap.size (.slice A' (n + 1) c') (n + 1) (l ++ [e]) → w.grownBy w' (Value.slice A0 n c0).ownBlock → ((Value.slice A' (n + 1) c').ownBlock = (Value.slice A0 n c0).ownBlock ∨ (Value.slice A' (n + 1) c').ownBlock = some w.heap.size) → StayA A0 (n * 2) w w' → wpList Try.prog ops Q rest (a.put o.dst (.slice A' (n + 1) c')) w') : wpList Try.prog ops Q (o :: rest) a w :=
  wpList_plain hgd fun _ hK => wp_appT w s x 80 82 (.agg #[.int .i64 0, .int .i64 0]) 2 16 tbS tbS_len tbS_one Try.underlying80 info_TbS rfl (by decide) (by decide) ho hs hown hx hr hlen hlo fun A' c' w' h2 h3 h4 h5 => hK _ _ (h A' c' w' h2 h3 h4 h5)
theorem same_ok {X : Nat} {gs : List G3} {g : G3} {n : Int} (h : GsOk X gs) (hg : GateIs g n) : ∀ j : Nat, j < gs.length → siSameB g (gg gs j) = sameG (gg gs j) g := fun j hj => (siSame_eq hg (h j hj)).trans (sameG_comm _ _)
set_option maxRecDepth 100000 in
set_option maxHeartbeats 4000000 in
theorem siGate_any (lo b : Nat) (x y : Int) (Ao : Option Addr) (no co : Nat) (gs : List G3) (G : Option Nat) (X : Nat) (k p q : Int) (n : Int) (w : World) (hm : MkO w lo b x y Ao no co gs G) (hx : 0 ≤ x ∧ x ≤ 20) (hy : 0 ≤ y ∧ y ≤ 20) (hn : gs.length ≤ 100000) (hlo : lo ≤ w.heap.size) (hXe : Hid (x + y = (X : Int))) (hgs : GsOk X gs) (hg : GateIs ⟨k, p, q⟩ n) :
    Calls Try.prog 75 #[.pointer (some ⟨b, 0, none⟩), .int .i64 k, .int .i64 p, .int .i64 q] w (RetVO lo b x y Ao no co (onceG gs ⟨k, p, q⟩) G (.int .i64 (onceW X gs ⟨k, p, q⟩)) w) := by
  have HS := Lib.hid (same_ok hgs hg)
  obtain ⟨Z, hZ⟩ : ∃ Z, Hid (onceG gs ⟨k, p, q⟩ = Z) := ⟨_, Lib.hid rfl⟩
  obtain ⟨V, hV⟩ : ∃ V, Hid (onceW X gs ⟨k, p, q⟩ = V) := ⟨_, Lib.hid rfl⟩
  rw [hZ.out, hV.out]
  have hm0 := hm
  obtain ⟨h1, h2, hf, Ag, cg, hbx, hown, hGe⟩ := hm
  have hal : Below w.heap.size w (w.alloc (.cells #[.int .i64 k, .int .i64 p, .int .i64 q] 50)) := (Below.refl _ _).alloc (Nat.le_refl _) _
  have hbxA := hbx.below hal
  have hmA := hm0.alloc_ (.cells #[.int .i64 k, .int .i64 p, .int .i64 q] 50)
  have hvA := (Mv.refl_ b G w).alloc_ (.cells #[.int .i64 k, .int .i64 p, .int .i64 q] 50)
  have hgA := BxG.new (k := k) (a := p) (c := q) w 50
  have hsA : (w.alloc (.cells #[.int .i64 k, .int .i64 p, .int .i64 q] 50)).heap.size = w.heap.size + 1 := by simp
  have hownA := hown.alloc (.cells #[.int .i64 k, .int .i64 p, .int .i64 q] 50)
  clear hGe hg hgs
  have hq := hbxA; obtain ⟨k0, k1, k2, k3⟩ := hq
  go_enter Try.func75, Try.ntmps75
  go_wp2
  clear k0 k1 k2 k3
  go_loopw [22] (fun i wr => ∃ (j : Nat), j ≤ gs.length ∧ i = .int .i64 j ∧ Hid (∀ i, i < j → sameG (gg gs i) ⟨k, p, q⟩ = false) ∧ Below (w.heap.size + 1) (w.alloc (.cells #[.int .i64 k, .int .i64 p, .int .i64 q] 50)) wr) (fun i _ => gs.length - (intOf i).toNat)
  case atStart => exact ⟨0, Nat.zero_le _, rfl, Lib.hid (fun j hj => by omega), Below.refl _ _⟩
  case round =>
    obtain ⟨j, hj, rfl, hno, hb⟩ := hrel
    have hzr := hb.size
    rw [hsA] at hzr
    have hbxr := hbxA.below (hb.mono (by rw [hsA]; omega))
    have hmr := hmA.below_ hb (by rw [hsA]; omega)
    have hvr := hvA.below_ hb (by rw [hsA]; omega)
    have hgr := hgA.below (hb.mono (by rw [hsA]; omega))
    by_cases hlt : j < gs.length
    · obtain ⟨bg, og, rfl, hgbl, d0, d1, d2⟩ := (hownA.below hb (.inl (by rw [hsA]; omega))).reads.at_ hlt
      have hq := hbxr; obtain ⟨k0, k1, k2, k3⟩ := hq
      have hq := hgr; obtain ⟨g0, g1, g2⟩ := hq
      have hbB : Below wr.heap.size wr (wr.alloc (.cells #[.int .i64 (gg gs j).k, .int .i64 (gg gs j).a, .int .i64 (gg gs j).b] 50)) := (Below.refl _ _).alloc (Nat.le_refl _) _
      have hgB := hgr.below hbB
      obtain ⟨m0, m1, m2⟩ := hgB
      cases hsm : sameG (gg gs j) ⟨k, p, q⟩ with
      | true =>
        have HQ := Lib.hid ((HS.out j hlt).trans hsm)
        have HR := once_old (same1_found hlt hno.out hsm) hlt X
        have HZ : Hid (Z = gs) := Lib.hid (hZ.out.symm.trans HR.1)
        have HV : Hid (V = x + y + j) := Lib.hid (by rw [hXe.out]; exact hV.out.symm.trans HR.2)
        clear hsm HR
        have hwv : IntKind.i64.wrap (x + y + (j : Int)) = x + y + j := IntWalk.i64_in _ (by omega)
        go_wp2_with fail
        refine (siSame_any ⟨k, p, q⟩ (gg gs j) _).mono ?_
        rintro e w5 ⟨rfl, hb5⟩
        rw [HQ.out]
        have hb5' := hbB.trans (hb5.mono hbB.size)
        have hbx5 := hbxr.below hb5'
        have hm5 := hmr.below_ hb5' (Nat.le_refl _)
        have hv5 := hvr.below_ hb5' (Nat.le_refl _)
        clear k0 k1 k2 k3 g0 g1 g2 m0 m1 m2 d0 d1 d2
        have hq := hbx5; obtain ⟨k0, k1, k2, k3⟩ := hq
        go_wp2_with fail
        refine (ciInputs_any x y _ gs.length cg Ao no co _ hx hy).mono ?_
        rintro e w6 ⟨rfl, hb6⟩
        go_wp2
        go_ret
        exact ⟨G, by rw [HV.out]; first | rfl | (rw [hwv]), by rw [HZ.out]; exact hm5.below_ hb6 (Nat.le_refl _), hv5.below_ hb6 (Nat.le_refl _)⟩
      | false =>
        have HQ := Lib.hid ((HS.out j hlt).trans hsm)
        have HN : Hid (∀ i, i < j + 1 → sameG (gg gs i) ⟨k, p, q⟩ = false) := Lib.hid (no_snoc (q := fun o => sameG o ⟨k, p, q⟩) hno.out hsm)
        clear hsm
        go_wp2_with fail
        refine (siSame_any ⟨k, p, q⟩ (gg gs j) _).mono ?_
        rintro e w5 ⟨rfl, hb5⟩
        rw [HQ.out]
        have hb5' := hb.trans ((hbB.trans (hb5.mono hbB.size)).mono (by omega))
        clear k0 k1 k2 k3 g0 g1 g2 m0 m1 m2 d0 d1 d2 hbxr hmr hvr hgr hb hb5 hbB
        go_wp2
        go_roundw
        case rel => exact ⟨j + 1, by omega, by go_num, HN, hb5'⟩
        case measure => simp [intOf]; omega
    · obtain rfl : j = gs.length := Nat.le_antisymm hj (Nat.le_of_not_lt hlt)
      have HR := once_new (same1_none hno.out) X
      have HZ : Hid (Z = gs ++ [⟨k, p, q⟩]) := Lib.hid (hZ.out.symm.trans HR.1)
      have HV : Hid (V = x + y + gs.length) := Lib.hid (by rw [hXe.out]; exact hV.out.symm.trans HR.2)
      clear HR
      go_wp2_with fail
      refine (ciMaker_gateO_any lo b x y Ao no co gs G k p q _ hmr hx hy hn (by omega)).mono ?_
      rintro e w6 ⟨G6, rfl, hm6, hv6⟩
      go_wp2
      go_ret
      exact ⟨G6, by rw [HV.out]; rfl, by rw [HZ.out]; exact hm6, hvr.trans_ hv6⟩
set_option maxRecDepth 100000 in
set_option maxHeartbeats 2000000 in
theorem siPlain_any (lo b : Nat) (x y : Int) (Ao : Option Addr) (no co : Nat) (gs : List G3) (G : Option Nat) (X : Nat) (t : Tb) (w : World) (hm : MkO w lo b x y Ao no co gs G) (hx : 0 ≤ x ∧ x ≤ 20) (hy : 0 ≤ y ∧ y ≤ 20) (hn : gs.length ≤ 90000) (hlo : lo ≤ w.heap.size) (hXe : Hid (x + y = (X : Int))) (hgs : GsOk X gs) (ht : TbOk ((X : Int) + gs.length) t) :
    Calls Try.prog 56 #[.pointer (some ⟨b, 0, none⟩), .agg #[.int .i64 (sW t), .int .i64 (sT t)]] w (RetVO lo b x y Ao no co (made X gs t).1 G (.int .i64 (made X gs t).2) w) := by
  obtain ⟨tc, tw, tu⟩ := t
  have hle1 := (onceG_le gs ⟨3, 0, 0⟩).2
  have off : OffB b G w.heap.size := ⟨by have := hm.1; omega, fun hc => by have := (hm.lt _ hc).2; omega⟩
  cases tc with
  | true =>
    have o1 := onceG_ok hgs (gate_one ((X : Int) + gs.length))
    have o2 := onceW_bd X gs ⟨3, 0, 0⟩
    obtain ⟨Z1, hZ1⟩ : ∃ Z, Hid (onceG gs ⟨3, 0, 0⟩ = Z) := ⟨_, Lib.hid rfl⟩
    obtain ⟨V1, hV1⟩ : ∃ Z, Hid (onceW X gs ⟨3, 0, 0⟩ = Z) := ⟨_, Lib.hid rfl⟩
    rw [hZ1.out] at hle1 o1 o2
    rw [hV1.out] at o2
    cases tu with
    | true =>
      have HM : Hid (made X gs ⟨true, tw, true⟩ = (onceG Z1 ⟨2, V1, 0⟩, onceW X Z1 ⟨2, V1, 0⟩)) := Lib.hid (by rw [← hZ1.out, ← hV1.out]; rfl)
      rw [HM.out, show sW ⟨true, tw, true⟩ = -1 from rfl, show sT ⟨true, tw, true⟩ = 0 from rfl]
      have hmA := hm.alloc_ (.cells #[.int .i64 (-1), .int .i64 0] 82)
      have hvA := (Mv.refl_ b G w).alloc_ (.cells #[.int .i64 (-1), .int .i64 0] 82)
      have k0 := box_cell w #[.int .i64 (-1), .int .i64 0] (T := 82) 0 (.int .i64 (-1)) rfl
      have k1 := box_cell w #[.int .i64 (-1), .int .i64 0] (T := 82) 1 (.int .i64 0) rfl
      go_enter Try.func56, Try.ntmps56
      go_wp2_with fail
      refine (siGate_any lo b x y Ao no co gs G X 3 0 0 0 _ hmA hx hy (by omega) (Nat.le_trans hlo hvA.size) hXe hgs (gate_one 0)).mono ?_
      rintro e w1 ⟨G1, rfl, hm1, hv1⟩
      have k2' := hv1.cellF k1 off
      rw [hZ1.out] at hm1
      rw [hV1.out]
      have hvv := hvA.trans_ hv1
      clear k0 k1 hmA hvA hv1
      go_wp2_with fail
      refine (siGate_any lo b x y Ao no co Z1 G1 X 2 V1 0 _ _ hm1 hx hy (by omega) (Nat.le_trans hlo hvv.size) hXe o1 (gate_not o2.1 o2.2)).mono ?_
      rintro e w2 ⟨G2, rfl, hm2, hv2⟩
      go_wp2
      go_ret
      exact ⟨G2, rfl, hm2, hvv.trans_ hv2⟩
    | false =>
      have HM : Hid (made X gs ⟨true, tw, false⟩ = (Z1, V1)) := Lib.hid (by rw [← hZ1.out, ← hV1.out]; rfl)
      rw [HM.out, show sW ⟨true, tw, false⟩ = -1 from rfl, show sT ⟨true, tw, false⟩ = 1 from rfl]
      have hmA := hm.alloc_ (.cells #[.int .i64 (-1), .int .i64 1] 82)
      have hvA := (Mv.refl_ b G w).alloc_ (.cells #[.int .i64 (-1), .int .i64 1] 82)
      have k0 := box_cell w #[.int .i64 (-1), .int .i64 1] (T := 82) 0 (.int .i64 (-1)) rfl
      have k1 := box_cell w #[.int .i64 (-1), .int .i64 1] (T := 82) 1 (.int .i64 1) rfl
      go_enter Try.func56, Try.ntmps56
      go_wp2_with fail
      refine (siGate_any lo b x y Ao no co gs G X 3 0 0 0 _ hmA hx hy (by omega) (Nat.le_trans hlo hvA.size) hXe hgs (gate_one 0)).mono ?_
      rintro e w1 ⟨G1, rfl, hm1, hv1⟩
      have k2' := hv1.cellF k1 off
      rw [hZ1.out] at hm1
      rw [hV1.out]
      go_wp2
      go_ret
      exact ⟨G1, rfl, hm1, hvA.trans_ hv1⟩
  | false =>
    have hb2 := ht rfl
    dsimp only at hb2
    obtain ⟨hb0, hb1⟩ := hb2
    cases tu with
    | true =>
      have HM : Hid (made X gs ⟨false, tw, true⟩ = (onceG gs ⟨2, tw, 0⟩, onceW X gs ⟨2, tw, 0⟩)) := Lib.hid rfl
      rw [HM.out, show sW ⟨false, tw, true⟩ = tw from rfl, show sT ⟨false, tw, true⟩ = 1 from rfl]
      have hmA := hm.alloc_ (.cells #[.int .i64 tw, .int .i64 1] 82)
      have hvA := (Mv.refl_ b G w).alloc_ (.cells #[.int .i64 tw, .int .i64 1] 82)
      have k0 := box_cell w #[.int .i64 tw, .int .i64 1] (T := 82) 0 (.int .i64 tw) rfl
      have k1 := box_cell w #[.int .i64 tw, .int .i64 1] (T := 82) 1 (.int .i64 1) rfl
      go_enter Try.func56, Try.ntmps56
      go_wp2_with fail
      refine (siGate_any lo b x y Ao no co gs G X 2 tw 0 _ _ hmA hx hy (by omega) (Nat.le_trans hlo hvA.size) hXe hgs (gate_not hb0 hb1)).mono ?_
      rintro e w2 ⟨G2, rfl, hm2, hv2⟩
      go_wp2
      go_ret
      exact ⟨G2, rfl, hm2, hvA.trans_ hv2⟩
    | false =>
      have HM : Hid (made X gs ⟨false, tw, false⟩ = (gs, tw)) := Lib.hid rfl
      rw [HM.out, show sW ⟨false, tw, false⟩ = tw from rfl, show sT ⟨false, tw, false⟩ = 0 from rfl]
      have hmA := hm.alloc_ (.cells #[.int .i64 tw, .int .i64 0] 82)
      have hvA := (Mv.refl_ b G w).alloc_ (.cells #[.int .i64 tw, .int .i64 0] 82)
      have k0 := box_cell w #[.int .i64 tw, .int .i64 0] (T := 82) 0 (.int .i64 tw) rfl
      have k1 := box_cell w #[.int .i64 tw, .int .i64 0] (T := 82) 1 (.int .i64 0) rfl
      go_enter Try.func56, Try.ntmps56
      go_wp2
      go_ret
      exact ⟨G, rfl, hmA, hvA⟩
def Bx2 (w : World) (b : Nat) (u0 u1 : Value) : Prop := w.cell? ⟨b, 0, none⟩ = some u0 ∧ w.cell? ⟨b, 1, none⟩ = some u1
theorem Bx2.new (w : World) (u0 u1 : Value) (T : TypeId) : Bx2 (w.alloc (.cells #[u0, u1] T)) w.heap.size u0 u1 := ⟨box_cell w _ 0 _ rfl, box_cell w _ 1 _ rfl⟩
section
variable {w w' : World} {b : Nat} {u0 u1 v0 v1 : Value} {B : Nat}
theorem Bx2.lt (h : Bx2 w b u0 u1) : b < w.heap.size := World.block_lt_of_cell? w _ h.1
theorem Bx2.bel (h : Bx2 w b u0 u1) (k : Below B w w') (hb : b < B) : Bx2 w' b u0 u1 :=
  have hc : ∀ {q : Nat} {v : Value}, w.cell? ⟨b, q, none⟩ = some v → w'.cell? ⟨b, q, none⟩ = some v := fun {q v} hv => (k.cell (p := ⟨b, q, none⟩) hb).trans hv
  ⟨hc h.1, hc h.2⟩
theorem Bx2.mv {B : Nat} {G G1 : Option Nat} (h : Bx2 w b u0 u1) (k : Mv B G G1 w w') (ho : OffB B G b) : Bx2 w' b u0 u1 := ⟨k.cellF h.1 ho, k.cellF h.2 ho⟩
theorem Bx2.set (h : Bx2 w b v0 v1) (u0 u1 : Value) : Bx2 ((w.setCell ⟨b, 0, none⟩ u0).setCell ⟨b, 1, none⟩ u1) b u0 u1 := by
  have h1 : Bx2 (w.setCell ⟨b, 0, none⟩ u0) b u0 v1 := ⟨World.cell?_setCell_same _ _ _ h.1, (World.cell?_setCell_other _ _ _ _ (by simp)).trans h.2⟩
  exact ⟨(World.cell?_setCell_other _ _ _ _ (by simp)).trans h1.1, World.cell?_setCell_same _ _ _ h1.2⟩
theorem Mv.set2 {B : Nat} {G G1 : Option Nat} {W : World} (h : Mv B G G1 W w) (hb : W.heap.size ≤ b) (u0 u1 : Value) : Mv B G G1 W ((w.setCell ⟨b, 0, none⟩ u0).setCell ⟨b, 1, none⟩ u1) :=
  (h.set ⟨b, 0, none⟩ u0 hb).set ⟨b, 1, none⟩ u1 hb
theorem MkO.set2 {lo c : Nat} {x y : Int} {Ao : Option Addr} {no co : Nat} {gs : List G3} {G : Option Nat} (h : MkO w lo c x y Ao no co gs G) (hp : OffB c G b) (u0 u1 : Value) : MkO ((w.setCell ⟨b, 0, none⟩ u0).setCell ⟨b, 1, none⟩ u1) lo c x y Ao no co gs G :=
  (h.set_ ⟨b, 0, none⟩ u0 (And.left hp) (And.right hp)).set_ ⟨b, 1, none⟩ u1 (And.left hp) (And.right hp)
end
end Go.Proofs.Ytikgagjoapggnaa
