/- Makers of the reference whose circuit has outs: gates; the drawn circuits lean on them. -/
import Derived.Test.YtjjphaiomaiilaaQPxc
import Derived.Test.YtjjphaiomaiilaaQCur
import Derived.Test.YtjjphaiomaiilaaQMk2
namespace Go.Proofs.Ytjjphaiomaiilaa
open Go.RowKit
set_option linter.unusedVariables false
set_option linter.unusedSimpArgs false

/-- A maker's word returned v; its box holds another circuit. -/
def RetX (lo b : Nat) (C C' : Ci) (A : Option Addr) (ca : Nat) (O : Option Addr) (co : Nat) (v : Int) (w : World) (e : Ending) (w' : World) : Prop :=
  ∃ A' ca', e = .returned (.int .i64 v) ∧ PX w' lo b C' A' ca' O co ∧ Alt (fun i => i = b ∨ (Value.slice A C.gs.length ca).ownBlock = some i) w w' ∧ ∀ g, (Value.slice A' C'.gs.length ca').ownBlock = some g → (Value.slice A C.gs.length ca).ownBlock = some g ∨ w.heap.size ≤ g

set_option maxHeartbeats 800000 in
theorem gateX_any (lo b : Nat) (C : Ci) (A : Option Addr) (ca : Nat) (O : Option Addr) (co : Nat) (k p q : Int) (w : World) (hp : PX w lo b C A ca O co) (hx : 0 ≤ C.i0 ∧ C.i0 ≤ 20) (hy : 0 ≤ C.i1 ∧ C.i1 ≤ 20) (hn : C.gs.length ≤ 200000) (hlo : lo ≤ w.heap.size) :
    Calls Try.prog 27 #[.pointer (some ⟨b, 0, none⟩), .int .i64 k, .int .i64 p, .int .i64 q] w (RetX lo b C { C with gs := C.gs ++ [⟨k, p, q⟩] } A ca O co (C.i0 + C.i1 + C.gs.length) w) := by
  have hal : Below w.heap.size w (w.alloc (.cells #[.int .i64 k, .int .i64 p, .int .i64 q] 54)) := (Below.refl _ _).alloc (Nat.le_refl _) _
  have hpA := hp.below hal (Nat.le_refl _)
  have hownA := hp.ox.1.1.alloc (.cells #[.int .i64 k, .int .i64 p, .int .i64 q] 54)
  have hbb := hp.lt
  have hq := hp.bx; obtain ⟨k0, k1, k2, k3⟩ := hq
  have hfA := hpA.fz 2
  have hsz : (w.alloc (.cells #[.int .i64 k, .int .i64 p, .int .i64 q] 54)).heap.size = w.heap.size + 1 := by simp
  obtain ⟨v, hv⟩ : ∃ v, Hid (C.i0 + C.i1 + C.gs.length = v) := ⟨_, Lib.hid rfl⟩
  rw [hv.out]
  go_enter Try.func27, Try.ntmps27
  go_wp2_with (at_builtin; refine wpList_appG _ rfl _ _ rfl rfl hownA rfl (RG_new1 _ _ _ _ _) (by omega) (by simp; omega) ?_; intro A5 c5 w5 hown5 hg5 hat5 hk5; have hA5 := Alt.of_grown (S := okB (w.alloc (.cells #[.int .i64 k, .int .i64 p, .int .i64 q] 54)) (fun i => (Value.slice A C.gs.length ca).ownBlock = some i)) hg5 (fun i hi => .inr hi); have hp5 := hpA.gate (M := ⟨k, p, q⟩) hA5 hown5 (fun i hi => hat5.elim (fun h => .inr (h ▸ hi)) (fun h => .inl (by rw [h] at hi; injection hi with hi; omega))); have hbS : ¬ okB (w.alloc (.cells #[.int .i64 k, .int .i64 p, .int .i64 q] 54)) (fun i => (Value.slice A C.gs.length ca).ownBlock = some i) b := (fun hc => hc.elim (fun h1 => by omega) (fun h1 => hp.ox.2.1 h1)); have hq5 := hpA.bx.alt hA5 hbS; obtain ⟨j0, j1, j2, j3⟩ := hq5; have hf5 := (hpA.fz.alt hA5 (by omega) hbS) 2; have hq6 := hp5.bx; obtain ⟨i0, i1, i2, i3⟩ := hq6)
  have q1 : C.i0 + C.i1 + ((C.gs.length : Int) + 1) - 1 = v := by have := hv.out; omega
  clear j0 j1 j2 j3 i0 i1 i2 i3
  have hA6 : Alt (fun i => i = b ∨ (Value.slice A C.gs.length ca).ownBlock = some i) w (w5.setCell ⟨b, 2, none⟩ (.slice A5 (C.gs.length + 1) c5)) :=
    (((Alt.refl_ _ w).alloc_ _).trans_ hA5 (fun i hi hT => hT.elim (fun h => by omega) (fun h => .inr h))).set_ ⟨b, 2, none⟩ _ (fun _ => .inl rfl)
  have ho6 : ∀ g, (Value.slice A5 (C.gs ++ [(⟨k, p, q⟩ : G3)]).length c5).ownBlock = some g → (Value.slice A C.gs.length ca).ownBlock = some g ∨ w.heap.size ≤ g := fun g hg => by
    have h8 : (Value.slice A5 (C.gs.length + 1) c5).ownBlock = some g := by simpa [Value.ownBlock] using hg
    rcases hat5 with h | h
    · exact .inl (h.symm.trans h8)
    · right; rw [h] at h8; injection h8 with h8; omega
  refine (ciWires_any C.i0 C.i1 A5 (C.gs.length + 1) c5 O C.os.length co _ hx hy (by omega)).mono ?_
  rintro e w6 ⟨rfl, hb6⟩
  go_wp2
  go_ret
  exact ⟨A5, c5, by rw [← q1]; rfl, hp5.below hb6 (Nat.le_refl _), hA6.new_ hb6, ho6⟩

theorem xorX_any (lo b : Nat) (C : Ci) (A : Option Addr) (ca : Nat) (O : Option Addr) (co : Nat) (p q : Int) (w : World) (hp : PX w lo b C A ca O co) (hx : 0 ≤ C.i0 ∧ C.i0 ≤ 20) (hy : 0 ≤ C.i1 ∧ C.i1 ≤ 20) (hn : C.gs.length ≤ 200000) (hlo : lo ≤ w.heap.size) :
    Calls Try.prog 46 #[.pointer (some ⟨b, 0, none⟩), .int .i64 p, .int .i64 q] w (RetX lo b C { C with gs := C.gs ++ [⟨0, p, q⟩] } A ca O co (C.i0 + C.i1 + C.gs.length) w) := by
  go_enter Try.func46, Try.ntmps46
  go_wp2_with fail
  refine (gateX_any lo b C A ca O co 0 p q w hp hx hy hn hlo).mono ?_
  rintro e w1 ⟨A1, c1, rfl, h1⟩
  go_wp2
  go_ret
  exact ⟨A1, c1, rfl, h1⟩

theorem andX_any (lo b : Nat) (C : Ci) (A : Option Addr) (ca : Nat) (O : Option Addr) (co : Nat) (p q : Int) (w : World) (hp : PX w lo b C A ca O co) (hx : 0 ≤ C.i0 ∧ C.i0 ≤ 20) (hy : 0 ≤ C.i1 ∧ C.i1 ≤ 20) (hn : C.gs.length ≤ 200000) (hlo : lo ≤ w.heap.size) :
    Calls Try.prog 47 #[.pointer (some ⟨b, 0, none⟩), .int .i64 p, .int .i64 q] w (RetX lo b C { C with gs := C.gs ++ [⟨1, p, q⟩] } A ca O co (C.i0 + C.i1 + C.gs.length) w) := by
  go_enter Try.func47, Try.ntmps47
  go_wp2_with fail
  refine (gateX_any lo b C A ca O co 1 p q w hp hx hy hn hlo).mono ?_
  rintro e w1 ⟨A1, c1, rfl, h1⟩
  go_wp2
  go_ret
  exact ⟨A1, c1, rfl, h1⟩

theorem notX_any (lo b : Nat) (C : Ci) (A : Option Addr) (ca : Nat) (O : Option Addr) (co : Nat) (p : Int) (w : World) (hp : PX w lo b C A ca O co) (hx : 0 ≤ C.i0 ∧ C.i0 ≤ 20) (hy : 0 ≤ C.i1 ∧ C.i1 ≤ 20) (hn : C.gs.length ≤ 200000) (hlo : lo ≤ w.heap.size) :
    Calls Try.prog 45 #[.pointer (some ⟨b, 0, none⟩), .int .i64 p] w (RetX lo b C { C with gs := C.gs ++ [⟨2, p, 0⟩] } A ca O co (C.i0 + C.i1 + C.gs.length) w) := by
  go_enter Try.func45, Try.ntmps45
  go_wp2_with fail
  refine (gateX_any lo b C A ca O co 2 p 0 w hp hx hy hn hlo).mono ?_
  rintro e w1 ⟨A1, c1, rfl, h1⟩
  go_wp2
  go_ret
  exact ⟨A1, c1, rfl, h1⟩

theorem oneX_any (lo b : Nat) (C : Ci) (A : Option Addr) (ca : Nat) (O : Option Addr) (co : Nat) (w : World) (hp : PX w lo b C A ca O co) (hx : 0 ≤ C.i0 ∧ C.i0 ≤ 20) (hy : 0 ≤ C.i1 ∧ C.i1 ≤ 20) (hn : C.gs.length ≤ 200000) (hlo : lo ≤ w.heap.size) :
    Calls Try.prog 26 #[.pointer (some ⟨b, 0, none⟩)] w (RetX lo b C { C with gs := C.gs ++ [⟨3, 0, 0⟩] } A ca O co (C.i0 + C.i1 + C.gs.length) w) := by
  go_enter Try.func26, Try.ntmps26
  go_wp2_with fail
  refine (gateX_any lo b C A ca O co 3 0 0 w hp hx hy hn hlo).mono ?_
  rintro e w1 ⟨A1, c1, rfl, h1⟩
  go_wp2
  go_ret
  exact ⟨A1, c1, rfl, h1⟩

end Go.Proofs.Ytjjphaiomaiilaa
