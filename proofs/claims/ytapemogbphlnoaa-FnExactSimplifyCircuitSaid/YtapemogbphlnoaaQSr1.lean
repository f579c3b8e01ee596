/- SimplifyCircuit, the reference: a gate made once, what a wire becomes as a wire. Lengths below 2^17. SimplifyCircuit, the reference: exclusive-or and and of what wires become. Lengths below 2^17. -/
import Derived.Test.YtapemogbphlnoaaQSmp
namespace Go.Proofs.Ytapemogbphlnoaa
open Go.RowKit
set_option linter.unusedVariables false
set_option linter.unusedSimpArgs false

theorem same_ok {X : Nat} {gs : List G3} {g : G3} {n : Int} (h : GsOk X gs) (hg : GateIs g n) : ∀ j : Nat, j < gs.length → siSameB g (gg gs j) = sameG (gg gs j) g := fun j hj => (siSame_eq hg (h j hj)).trans (sameG_comm _ _)
theorem made_leS (X : Nat) (gs : List G3) (x : Tb) : (made X gs x).1.length ≤ gs.length + 2 := by
  have h1 : (made1 X gs x).1.length ≤ gs.length + 1 := by
    unfold made1; split
    · exact (onceG_le gs _).2
    · simp
  unfold made made2; split
  · have := (onceG_le (made1 X gs x).1 ⟨2, (made1 X gs x).2, 0⟩).2
    dsimp only; omega
  · omega

set_option maxRecDepth 100000 in
set_option maxHeartbeats 4000000 in
theorem siGate_any (lo b : Nat) (x y : Int) (Ao : Option Addr) (no co : Nat) (gs : List G3) (G : Option Nat) (X : Nat) (k p q : Int) (n : Int) (w : World) (hm : MkO w lo b x y Ao no co gs G) (hx : 0 ≤ x ∧ x ≤ 20) (hy : 0 ≤ y ∧ y ≤ 20) (hn : gs.length ≤ 100000) (hlo : lo ≤ w.heap.size) (hXe : Hid (x + y = (X : Int))) (hgs : GsOk X gs) (hg : GateIs ⟨k, p, q⟩ n) :
    Calls Try.prog 117 #[.pointer (some ⟨b, 0, none⟩), .int .i64 k, .int .i64 p, .int .i64 q] w (RetVO lo b x y Ao no co (onceG gs ⟨k, p, q⟩) G (.int .i64 (onceW X gs ⟨k, p, q⟩)) w) := by
  have HS := Lib.hid (same_ok hgs hg)
  obtain ⟨Z, hZ⟩ : ∃ Z, Hid (onceG gs ⟨k, p, q⟩ = Z) := ⟨_, Lib.hid rfl⟩
  obtain ⟨V, hV⟩ : ∃ V, Hid (onceW X gs ⟨k, p, q⟩ = V) := ⟨_, Lib.hid rfl⟩
  rw [hZ.out, hV.out]
  have hm0 := hm
  obtain ⟨h1, h2, hf, Ag, cg, hbx, hown, hGe⟩ := hm
  have hal : Below w.heap.size w (w.alloc (.cells #[.int .i64 k, .int .i64 p, .int .i64 q] 100)) := (Below.refl _ _).alloc (Nat.le_refl _) _
  have hbxA := hbx.below hal
  have hmA := hm0.alloc_ (.cells #[.int .i64 k, .int .i64 p, .int .i64 q] 100)
  have hvA := (Mv.refl_ b G w).alloc_ (.cells #[.int .i64 k, .int .i64 p, .int .i64 q] 100)
  have hgA := BxG.new (k := k) (a := p) (c := q) w 100
  have hsA : (w.alloc (.cells #[.int .i64 k, .int .i64 p, .int .i64 q] 100)).heap.size = w.heap.size + 1 := by simp
  have hownA := hown.alloc (.cells #[.int .i64 k, .int .i64 p, .int .i64 q] 100)
  clear hGe hg hgs
  have hq := hbxA; obtain ⟨k0, k1, k2, k3⟩ := hq
  go_enter Try.func117, Try.ntmps117
  go_wp2
  clear k0 k1 k2 k3
  go_loopw [22] (fun i wr => ∃ (j : Nat), j ≤ gs.length ∧ i = .int .i64 j ∧ Hid (∀ i, i < j → sameG (gg gs i) ⟨k, p, q⟩ = false) ∧ Below (w.heap.size + 1) (w.alloc (.cells #[.int .i64 k, .int .i64 p, .int .i64 q] 100)) wr) (fun i _ => gs.length - (intOf i).toNat)
  case atStart => exact ⟨0, Nat.zero_le _, rfl, Lib.hid (fun j hj => by omega), Below.refl _ _⟩
  case round =>
    obtain ⟨j, hj, rfl, hno, hb⟩ := hrel
    have hzr := hb.size
    rw [hsA] at hzr
    have hbxr := hbxA.below (hb.mono (by rw [hsA]; omega))
    have hmr := hmA.below_ hb (by rw [hsA]; omega)
    have hvr := hvA.below_ hb (by rw [hsA]; omega)
    have hgr := hgA.below (hb.mono (by rw [hsA]; omega))
    by_cases hlt : j < gs.length
    · obtain ⟨bg, og, rfl, hgbl, d0, d1, d2⟩ := (hownA.below hb (.inl (by rw [hsA]; omega))).reads.at_ hlt
      have hq := hbxr; obtain ⟨k0, k1, k2, k3⟩ := hq
      have hq := hgr; obtain ⟨g0, g1, g2⟩ := hq
      have hbB : Below wr.heap.size wr (wr.alloc (.cells #[.int .i64 (gg gs j).k, .int .i64 (gg gs j).a, .int .i64 (gg gs j).b] 100)) := (Below.refl _ _).alloc (Nat.le_refl _) _
      have hgB := hgr.below hbB
      obtain ⟨m0, m1, m2⟩ := hgB
      cases hsm : sameG (gg gs j) ⟨k, p, q⟩ with
      | true =>
        have HQ := Lib.hid ((HS.out j hlt).trans hsm)
        have HR := once_old (same1_found hlt hno.out hsm) hlt X
        have HZ : Hid (Z = gs) := Lib.hid (hZ.out.symm.trans HR.1)
        have HV : Hid (V = x + y + j) := Lib.hid (by rw [hXe.out]; exact hV.out.symm.trans HR.2)
        clear hsm HR
        have hwv : IntKind.i64.wrap (x + y + (j : Int)) = x + y + j := IntWalk.i64_in _ (by omega)
        go_wp2_with fail
        refine (siSame_any ⟨k, p, q⟩ (gg gs j) _).mono ?_
        rintro e w5 ⟨rfl, hb5⟩
        rw [HQ.out]
        have hb5' := hbB.trans (hb5.mono hbB.size)
        have hbx5 := hbxr.below hb5'
        have hm5 := hmr.below_ hb5' (Nat.le_refl _)
        have hv5 := hvr.below_ hb5' (Nat.le_refl _)
        clear k0 k1 k2 k3 g0 g1 g2 m0 m1 m2 d0 d1 d2
        have hq := hbx5; obtain ⟨k0, k1, k2, k3⟩ := hq
        go_wp2_with fail
        refine (ciInputs_any x y _ gs.length cg Ao no co _ hx hy).mono ?_
        rintro e w6 ⟨rfl, hb6⟩
        go_wp2
        go_ret
        exact ⟨G, by rw [HV.out]; first | rfl | (rw [hwv]), by rw [HZ.out]; exact hm5.below_ hb6 (Nat.le_refl _), hv5.below_ hb6 (Nat.le_refl _)⟩
      | false =>
        have HQ := Lib.hid ((HS.out j hlt).trans hsm)
        have HN : Hid (∀ i, i < j + 1 → sameG (gg gs i) ⟨k, p, q⟩ = false) := Lib.hid (no_snoc (q := fun o => sameG o ⟨k, p, q⟩) hno.out hsm)
        clear hsm
        go_wp2_with fail
        refine (siSame_any ⟨k, p, q⟩ (gg gs j) _).mono ?_
        rintro e w5 ⟨rfl, hb5⟩
        rw [HQ.out]
        have hb5' := hb.trans ((hbB.trans (hb5.mono hbB.size)).mono (by omega))
        clear k0 k1 k2 k3 g0 g1 g2 m0 m1 m2 d0 d1 d2 hbxr hmr hvr hgr hb hb5 hbB
        go_wp2
        go_roundw
        case rel => exact ⟨j + 1, by omega, by go_num, HN, hb5'⟩
        case measure => simp [intOf]; omega
    · obtain rfl : j = gs.length := Nat.le_antisymm hj (Nat.le_of_not_lt hlt)
      have HR := once_new (same1_none hno.out) X
      have HZ : Hid (Z = gs ++ [⟨k, p, q⟩]) := Lib.hid (hZ.out.symm.trans HR.1)
      have HV : Hid (V = x + y + gs.length) := Lib.hid (by rw [hXe.out]; exact hV.out.symm.trans HR.2)
      clear HR
      go_wp2_with fail
      refine (ciMaker_gateO_any lo b x y Ao no co gs G k p q _ hmr hx hy hn (by omega)).mono ?_
      rintro e w6 ⟨G6, rfl, hm6, hv6⟩
      go_wp2
      go_ret
      exact ⟨G6, by rw [HV.out]; rfl, by rw [HZ.out]; exact hm6, hvr.trans_ hv6⟩

set_option maxRecDepth 100000 in
set_option maxHeartbeats 2000000 in
theorem siPlain_any (lo b : Nat) (x y : Int) (Ao : Option Addr) (no co : Nat) (gs : List G3) (G : Option Nat) (X : Nat) (t : Tb) (w : World) (hm : MkO w lo b x y Ao no co gs G) (hx : 0 ≤ x ∧ x ≤ 20) (hy : 0 ≤ y ∧ y ≤ 20) (hn : gs.length ≤ 90000) (hlo : lo ≤ w.heap.size) (hXe : Hid (x + y = (X : Int))) (hgs : GsOk X gs) (ht : TbOk ((X : Int) + gs.length) t) :
    Calls Try.prog 94 #[.pointer (some ⟨b, 0, none⟩), .agg #[.int .i64 (sW t), .int .i64 (sT t)]] w (RetVO lo b x y Ao no co (made X gs t).1 G (.int .i64 (made X gs t).2) w) := by
  obtain ⟨tc, tw, tu⟩ := t
  have hle1 := (onceG_le gs ⟨3, 0, 0⟩).2
  have off : OffB b G w.heap.size := ⟨by have := hm.1; omega, fun hc => by have := (hm.lt _ hc).2; omega⟩
  cases tc with
  | true =>
    have o1 := onceG_ok hgs (gate_one ((X : Int) + gs.length))
    have o2 := onceW_bd X gs ⟨3, 0, 0⟩
    obtain ⟨Z1, hZ1⟩ : ∃ Z, Hid (onceG gs ⟨3, 0, 0⟩ = Z) := ⟨_, Lib.hid rfl⟩
    obtain ⟨V1, hV1⟩ : ∃ Z, Hid (onceW X gs ⟨3, 0, 0⟩ = Z) := ⟨_, Lib.hid rfl⟩
    rw [hZ1.out] at hle1 o1 o2
    rw [hV1.out] at o2
    cases tu with
    | true =>
      have HM : Hid (made X gs ⟨true, tw, true⟩ = (onceG Z1 ⟨2, V1, 0⟩, onceW X Z1 ⟨2, V1, 0⟩)) := Lib.hid (by rw [← hZ1.out, ← hV1.out]; rfl)
      rw [HM.out, show sW ⟨true, tw, true⟩ = -1 from rfl, show sT ⟨true, tw, true⟩ = 0 from rfl]
      have hmA := hm.alloc_ (.cells #[.int .i64 (-1), .int .i64 0] 118)
      have hvA := (Mv.refl_ b G w).alloc_ (.cells #[.int .i64 (-1), .int .i64 0] 118)
      have k0 := box_cell w #[.int .i64 (-1), .int .i64 0] (T := 118) 0 (.int .i64 (-1)) rfl
      have k1 := box_cell w #[.int .i64 (-1), .int .i64 0] (T := 118) 1 (.int .i64 0) rfl
      go_enter Try.func94, Try.ntmps94
      go_wp2_with fail
      refine (siGate_any lo b x y Ao no co gs G X 3 0 0 0 _ hmA hx hy (by omega) (Nat.le_trans hlo hvA.size) hXe hgs (gate_one 0)).mono ?_
      rintro e w1 ⟨G1, rfl, hm1, hv1⟩
      have k2' := hv1.cellF k1 off
      rw [hZ1.out] at hm1
      rw [hV1.out]
      have hvv := hvA.trans_ hv1
      clear k0 k1 hmA hvA hv1
      go_wp2_with fail
      refine (siGate_any lo b x y Ao no co Z1 G1 X 2 V1 0 _ _ hm1 hx hy (by omega) (Nat.le_trans hlo hvv.size) hXe o1 (gate_not o2.1 o2.2)).mono ?_
      rintro e w2 ⟨G2, rfl, hm2, hv2⟩
      go_wp2
      go_ret
      exact ⟨G2, rfl, hm2, hvv.trans_ hv2⟩
    | false =>
      have HM : Hid (made X gs ⟨true, tw, false⟩ = (Z1, V1)) := Lib.hid (by rw [← hZ1.out, ← hV1.out]; rfl)
      rw [HM.out, show sW ⟨true, tw, false⟩ = -1 from rfl, show sT ⟨true, tw, false⟩ = 1 from rfl]
      have hmA := hm.alloc_ (.cells #[.int .i64 (-1), .int .i64 1] 118)
      have hvA := (Mv.refl_ b G w).alloc_ (.cells #[.int .i64 (-1), .int .i64 1] 118)
      have k0 := box_cell w #[.int .i64 (-1), .int .i64 1] (T := 118) 0 (.int .i64 (-1)) rfl
      have k1 := box_cell w #[.int .i64 (-1), .int .i64 1] (T := 118) 1 (.int .i64 1) rfl
      go_enter Try.func94, Try.ntmps94
      go_wp2_with fail
      refine (siGate_any lo b x y Ao no co gs G X 3 0 0 0 _ hmA hx hy (by omega) (Nat.le_trans hlo hvA.size) hXe hgs (gate_one 0)).mono ?_
      rintro e w1 ⟨G1, rfl, hm1, hv1⟩
      have k2' := hv1.cellF k1 off
      rw [hZ1.out] at hm1
      rw [hV1.out]
      go_wp2
      go_ret
      exact ⟨G1, rfl, hm1, hvA.trans_ hv1⟩
  | false =>
    have hb2 := ht rfl
    dsimp only at hb2
    obtain ⟨hb0, hb1⟩ := hb2
    cases tu with
    | true =>
      have HM : Hid (made X gs ⟨false, tw, true⟩ = (onceG gs ⟨2, tw, 0⟩, onceW X gs ⟨2, tw, 0⟩)) := Lib.hid rfl
      rw [HM.out, show sW ⟨false, tw, true⟩ = tw from rfl, show sT ⟨false, tw, true⟩ = 1 from rfl]
      have hmA := hm.alloc_ (.cells #[.int .i64 tw, .int .i64 1] 118)
      have hvA := (Mv.refl_ b G w).alloc_ (.cells #[.int .i64 tw, .int .i64 1] 118)
      have k0 := box_cell w #[.int .i64 tw, .int .i64 1] (T := 118) 0 (.int .i64 tw) rfl
      have k1 := box_cell w #[.int .i64 tw, .int .i64 1] (T := 118) 1 (.int .i64 1) rfl
      go_enter Try.func94, Try.ntmps94
      go_wp2_with fail
      refine (siGate_any lo b x y Ao no co gs G X 2 tw 0 _ _ hmA hx hy (by omega) (Nat.le_trans hlo hvA.size) hXe hgs (gate_not hb0 hb1)).mono ?_
      rintro e w2 ⟨G2, rfl, hm2, hv2⟩
      go_wp2
      go_ret
      exact ⟨G2, rfl, hm2, hvA.trans_ hv2⟩
    | false =>
      have HM : Hid (made X gs ⟨false, tw, false⟩ = (gs, tw)) := Lib.hid rfl
      rw [HM.out, show sW ⟨false, tw, false⟩ = tw from rfl, show sT ⟨false, tw, false⟩ = 0 from rfl]
      have hmA := hm.alloc_ (.cells #[.int .i64 tw, .int .i64 0] 118)
      have hvA := (Mv.refl_ b G w).alloc_ (.cells #[.int .i64 tw, .int .i64 0] 118)
      have k0 := box_cell w #[.int .i64 tw, .int .i64 0] (T := 118) 0 (.int .i64 tw) rfl
      have k1 := box_cell w #[.int .i64 tw, .int .i64 0] (T := 118) 1 (.int .i64 0) rfl
      go_enter Try.func94, Try.ntmps94
      go_wp2
      go_ret
      exact ⟨G, rfl, hmA, hvA⟩

/-- A box of two cells. -/
def Bx2 (w : World) (b : Nat) (u0 u1 : Value) : Prop := w.cell? ⟨b, 0, none⟩ = some u0 ∧ w.cell? ⟨b, 1, none⟩ = some u1
theorem Bx2.new (w : World) (u0 u1 : Value) (T : TypeId) : Bx2 (w.alloc (.cells #[u0, u1] T)) w.heap.size u0 u1 := ⟨box_cell w _ 0 _ rfl, box_cell w _ 1 _ rfl⟩
section
variable {w w' : World} {b : Nat} {u0 u1 v0 v1 : Value} {B : Nat}
theorem Bx2.lt (h : Bx2 w b u0 u1) : b < w.heap.size := World.block_lt_of_cell? w _ h.1
theorem Bx2.bel (h : Bx2 w b u0 u1) (k : Below B w w') (hb : b < B) : Bx2 w' b u0 u1 :=
  have hc : ∀ {q : Nat} {v : Value}, w.cell? ⟨b, q, none⟩ = some v → w'.cell? ⟨b, q, none⟩ = some v := fun {q v} hv => (k.cell (p := ⟨b, q, none⟩) hb).trans hv
  ⟨hc h.1, hc h.2⟩
theorem Bx2.mv {B : Nat} {G G1 : Option Nat} (h : Bx2 w b u0 u1) (k : Mv B G G1 w w') (ho : OffB B G b) : Bx2 w' b u0 u1 := ⟨k.cellF h.1 ho, k.cellF h.2 ho⟩
theorem Bx2.set (h : Bx2 w b v0 v1) (u0 u1 : Value) : Bx2 ((w.setCell ⟨b, 0, none⟩ u0).setCell ⟨b, 1, none⟩ u1) b u0 u1 := by
  have h1 : Bx2 (w.setCell ⟨b, 0, none⟩ u0) b u0 v1 := ⟨World.cell?_setCell_same _ _ _ h.1, (World.cell?_setCell_other _ _ _ _ (by simp)).trans h.2⟩
  exact ⟨(World.cell?_setCell_other _ _ _ _ (by simp)).trans h1.1, World.cell?_setCell_same _ _ _ h1.2⟩
theorem Mv.set2 {B : Nat} {G G1 : Option Nat} {W : World} (h : Mv B G G1 W w) (hb : W.heap.size ≤ b) (u0 u1 : Value) : Mv B G G1 W ((w.setCell ⟨b, 0, none⟩ u0).setCell ⟨b, 1, none⟩ u1) :=
  (h.set ⟨b, 0, none⟩ u0 hb).set ⟨b, 1, none⟩ u1 hb
theorem MkO.set2 {lo c : Nat} {x y : Int} {Ao : Option Addr} {no co : Nat} {gs : List G3} {G : Option Nat} (h : MkO w lo c x y Ao no co gs G) (hp : OffB c G b) (u0 u1 : Value) : MkO ((w.setCell ⟨b, 0, none⟩ u0).setCell ⟨b, 1, none⟩ u1) lo c x y Ao no co gs G :=
  (h.set_ ⟨b, 0, none⟩ u0 (And.left hp) (And.right hp)).set_ ⟨b, 1, none⟩ u1 (And.left hp) (And.right hp)
end

end Go.Proofs.Ytapemogbphlnoaa

namespace Go.Proofs.Ytapemogbphlnoaa
open Go.RowKit
set_option linter.unusedVariables false
set_option linter.unusedSimpArgs false

theorem sT_bit (t : Tb) : sT t = if (t.c != t.t) then 1 else 0 := by
  obtain ⟨c, w, u⟩ := t; cases c <;> cases u <;> rfl
theorem sT_xor {t u : Tb} (z : Tb) {a d : Int} (ha : sT t = a) (hd : sT u = d) (h : (z.c != z.t) = ((t.c != t.t) != (u.c != u.t))) : sT z = bits .xor .i64 a d := by
  subst ha; subst hd
  rw [sT_bit, sT_bit, sT_bit, h]
  cases (t.c != t.t) <;> cases (u.c != u.t) <;> rfl

set_option maxRecDepth 100000 in
set_option maxHeartbeats 4000000 in
theorem siXor_any (lo b : Nat) (x y : Int) (Ao : Option Addr) (no co : Nat) (gs : List G3) (G : Option Nat) (X : Nat) (t u : Tb) (w : World) (hm : MkO w lo b x y Ao no co gs G) (hx : 0 ≤ x ∧ x ≤ 20) (hy : 0 ≤ y ∧ y ≤ 20) (hn : gs.length ≤ 80000) (hlo : lo ≤ w.heap.size) (hXe : Hid (x + y = (X : Int))) (hgs : GsOk X gs) (ht : TbOk ((X : Int) + gs.length) t) (hu : TbOk ((X : Int) + gs.length) u) :
    Calls Try.prog 92 #[.pointer (some ⟨b, 0, none⟩), .agg #[.int .i64 (sW t), .int .i64 (sT t)], .agg #[.int .i64 (sW u), .int .i64 (sT u)]] w (RetVO lo b x y Ao no co (xorT X gs t u).1 G (.agg #[.int .i64 (sW (xorT X gs t u).2), .int .i64 (sT (xorT X gs t u).2)]) w) := by
  obtain ⟨c1, w1, t1⟩ := t
  obtain ⟨c2, w2, t2⟩ := u
  obtain ⟨a, ha⟩ : ∃ a, Hid (sT ⟨c1, w1, t1⟩ = a) := ⟨_, Lib.hid rfl⟩
  obtain ⟨d, hd⟩ : ∃ a, Hid (sT ⟨c2, w2, t2⟩ = a) := ⟨_, Lib.hid rfl⟩
  have BX := fun (z : Tb) (h : (z.c != z.t) = ((c1 != t1) != (c2 != t2))) => Lib.hid (sT_xor z ha.out hd.out h)
  rw [ha.out, hd.out]
  cases c1 with
  | true =>
    obtain ⟨q, hq⟩ : ∃ a, Hid (sW ⟨c2, w2, t2⟩ = a) := ⟨_, Lib.hid rfl⟩
    have HG : Hid ((xorT X gs ⟨true, w1, t1⟩ ⟨c2, w2, t2⟩).1 = gs) := Lib.hid (by simp [xorT])
    have HV1 : Hid (sW (xorT X gs ⟨true, w1, t1⟩ ⟨c2, w2, t2⟩).2 = q) := Lib.hid (by rw [← hq.out]; simp [xorT, sW, Tb.by_])
    have HV2 : Hid (sT (xorT X gs ⟨true, w1, t1⟩ ⟨c2, w2, t2⟩).2 = bits .xor .i64 a d) := (BX _ (by cases c2 <;> cases t1 <;> cases t2 <;> simp [xorT, Tb.by_]))
    rw [show sW ⟨true, w1, t1⟩ = -1 from rfl, hq.out]
    clear ht hu
    go_enter Try.func92, Try.ntmps92
    go_wp2
    have q9 : Bx2 (((w.alloc (.cells #[.int .i64 (-1), .int .i64 a] 118)).alloc (.cells #[.int .i64 q, .int .i64 d] 118)).alloc (.cells #[.int .i64 q, .int .i64 (bits .xor .i64 a d)] 118)) (w.heap.size + 2) (.int .i64 q) (.int .i64 (bits .xor .i64 a d)) := by
      simpa using Bx2.new ((w.alloc (.cells #[.int .i64 (-1), .int .i64 a] 118)).alloc (.cells #[.int .i64 q, .int .i64 d] 118)) (.int .i64 q) (.int .i64 (bits .xor .i64 a d)) 118
    obtain ⟨q0, q1⟩ := q9
    refine bodyPost_ret (v := .agg #[.int .i64 q, .int .i64 (bits .xor .i64 a d)]) (by simp [results, Try.results92, go_sem, q0, q1]) rfl ?_
    exact ⟨G, by rw [HV1.out, HV2.out], by rw [HG.out]; exact ((hm.alloc_ _).alloc_ _).alloc_ _, (((Mv.refl_ b G w).alloc_ _).alloc_ _).alloc_ _⟩
  | false =>
    have hb1 := ht rfl
    dsimp only at hb1
    obtain ⟨p0, p1⟩ := hb1
    cases c2 with
    | true =>
      have HG : Hid ((xorT X gs ⟨false, w1, t1⟩ ⟨true, w2, t2⟩).1 = gs) := Lib.hid (by simp [xorT])
      have HV1 : Hid (sW (xorT X gs ⟨false, w1, t1⟩ ⟨true, w2, t2⟩).2 = w1) := Lib.hid (by simp [xorT, sW, Tb.by_])
      have HV2 : Hid (sT (xorT X gs ⟨false, w1, t1⟩ ⟨true, w2, t2⟩).2 = bits .xor .i64 a d) := (BX _ (by cases t1 <;> cases t2 <;> simp [xorT, Tb.by_]))
      rw [show sW ⟨true, w2, t2⟩ = -1 from rfl, show sW ⟨false, w1, t1⟩ = w1 from rfl]
      clear ht hu
      go_enter Try.func92, Try.ntmps92
      go_wp2
      have q9 : Bx2 (((w.alloc (.cells #[.int .i64 w1, .int .i64 a] 118)).alloc (.cells #[.int .i64 (-1), .int .i64 d] 118)).alloc (.cells #[.int .i64 w1, .int .i64 (bits .xor .i64 a d)] 118)) (w.heap.size + 2) (.int .i64 w1) (.int .i64 (bits .xor .i64 a d)) := by
        simpa using Bx2.new ((w.alloc (.cells #[.int .i64 w1, .int .i64 a] 118)).alloc (.cells #[.int .i64 (-1), .int .i64 d] 118)) (.int .i64 w1) (.int .i64 (bits .xor .i64 a d)) 118
      obtain ⟨q0, q1⟩ := q9
      refine bodyPost_ret (v := .agg #[.int .i64 w1, .int .i64 (bits .xor .i64 a d)]) (by simp [results, Try.results92, go_sem, q0, q1]) rfl ?_
      exact ⟨G, by rw [HV1.out, HV2.out], by rw [HG.out]; exact ((hm.alloc_ _).alloc_ _).alloc_ _, (((Mv.refl_ b G w).alloc_ _).alloc_ _).alloc_ _⟩
    | false =>
      have hb2 := hu rfl
      dsimp only at hb2
      obtain ⟨q0, q1⟩ := hb2
      rw [show sW ⟨false, w2, t2⟩ = w2 from rfl, show sW ⟨false, w1, t1⟩ = w1 from rfl]
      by_cases hw : w1 = w2
      · subst hw
        have HG : Hid ((xorT X gs ⟨false, w1, t1⟩ ⟨false, w1, t2⟩).1 = gs) := Lib.hid (by simp [xorT])
        have HV1 : Hid (sW (xorT X gs ⟨false, w1, t1⟩ ⟨false, w1, t2⟩).2 = -1) := Lib.hid (by simp [xorT, sW])
        have HV2 : Hid (sT (xorT X gs ⟨false, w1, t1⟩ ⟨false, w1, t2⟩).2 = bits .xor .i64 a d) := (BX _ (by cases t1 <;> cases t2 <;> simp [xorT]))
        clear ht hu
        go_enter Try.func92, Try.ntmps92
        go_wp2
        have q9 : Bx2 (((w.alloc (.cells #[.int .i64 w1, .int .i64 a] 118)).alloc (.cells #[.int .i64 w1, .int .i64 d] 118)).alloc (.cells #[.int .i64 (-1), .int .i64 (bits .xor .i64 a d)] 118)) (w.heap.size + 2) (.int .i64 (-1)) (.int .i64 (bits .xor .i64 a d)) := by
          simpa using Bx2.new ((w.alloc (.cells #[.int .i64 w1, .int .i64 a] 118)).alloc (.cells #[.int .i64 w1, .int .i64 d] 118)) (.int .i64 (-1)) (.int .i64 (bits .xor .i64 a d)) 118
        obtain ⟨q0, q1⟩ := q9
        refine bodyPost_ret (v := .agg #[.int .i64 (-1), .int .i64 (bits .xor .i64 a d)]) (by simp [results, Try.results92, go_sem, q0, q1]) rfl ?_
        exact ⟨G, by rw [HV1.out, HV2.out], by rw [HG.out]; exact ((hm.alloc_ _).alloc_ _).alloc_ _, (((Mv.refl_ b G w).alloc_ _).alloc_ _).alloc_ _⟩
      · have z1 : (w1 == w2) = false := by simpa using hw
        obtain ⟨Z, hZ⟩ : ∃ Z, Hid (onceG gs ⟨0, w1, w2⟩ = Z) := ⟨_, Lib.hid rfl⟩
        obtain ⟨V, hV⟩ : ∃ Z, Hid (onceW X gs ⟨0, w1, w2⟩ = Z) := ⟨_, Lib.hid rfl⟩
        have HG : Hid ((xorT X gs ⟨false, w1, t1⟩ ⟨false, w2, t2⟩).1 = Z) := Lib.hid (by rw [← hZ.out]; simp [xorT, hw])
        have HV1 : Hid (sW (xorT X gs ⟨false, w1, t1⟩ ⟨false, w2, t2⟩).2 = V) := Lib.hid (by rw [← hV.out]; simp [xorT, hw, sW])
        have HV2 : Hid (sT (xorT X gs ⟨false, w1, t1⟩ ⟨false, w2, t2⟩).2 = bits .xor .i64 a d) := (BX _ (by cases t1 <;> cases t2 <;> simp [xorT, hw]))
        clear ht hu hw
        obtain ⟨W3, hW3⟩ : ∃ W3, W3 = (((w.alloc (.cells #[.int .i64 w1, .int .i64 a] 118)).alloc (.cells #[.int .i64 w2, .int .i64 d] 118)).alloc (.cells #[.int .i64 0, .int .i64 0] 118)) := ⟨_, rfl⟩
        have hbA : Below w.heap.size w W3 := by subst hW3; exact (((Below.refl _ _).alloc (Nat.le_refl _) _).alloc (by simp) _).alloc (by first | (simp; done) | (simp; omega)) _
        have hsA : W3.heap.size = w.heap.size + 3 := by subst hW3; simp
        have x4 : Bx2 W3 w.heap.size (.int .i64 w1) (.int .i64 a) := by subst hW3; exact (Bx2.new w _ _ _).bel (B := w.heap.size + 1) (((Below.refl _ _).alloc (by simp) _).alloc (by first | (simp; done) | (simp; omega)) _) (by omega)
        have y4 : Bx2 W3 (w.heap.size + 1) (.int .i64 w2) (.int .i64 d) := by
          subst hW3
          have h := (Bx2.new (w.alloc (.cells #[.int .i64 w1, .int .i64 a] 118)) (.int .i64 w2) (.int .i64 d) 118).bel (B := w.heap.size + 2) ((Below.refl _ _).alloc (by simp) (.cells #[.int .i64 0, .int .i64 0] 118)) (by simp)
          simpa using h
        have r4 : Bx2 W3 (w.heap.size + 2) (.int .i64 0) (.int .i64 0) := by
          subst hW3
          simpa using Bx2.new ((w.alloc (.cells #[.int .i64 w1, .int .i64 a] 118)).alloc (.cells #[.int .i64 w2, .int .i64 d] 118)) (.int .i64 0) (.int .i64 0) 118
        have f4 : Fz W3 (w.heap.size + 2) := by
          subst hW3
          simpa using Fz.new ((w.alloc (.cells #[.int .i64 w1, .int .i64 a] 118)).alloc (.cells #[.int .i64 w2, .int .i64 d] 118)) #[.int .i64 0, .int .i64 0] 118
        have hmA := hm.below_ hbA (Nat.le_refl _)
        have hvA := (Mv.refl_ b G w).below_ hbA (Nat.le_refl _)
        have off : ∀ i, w.heap.size ≤ i → OffB b G i := fun i hi => ⟨by have := hm.1; omega, fun hc => by have := (hm.lt _ hc).2; omega⟩
        have hlA := Nat.le_trans hlo hvA.size
        have HWW := Lib.hid hW3; clear hW3
        go_enter Try.func92, Try.ntmps92
        go_wp2_with fail
        rw [← HWW.out]
        refine (siGate_any lo b x y Ao no co gs G X 0 w1 w2 _ _ hmA hx hy (by omega) hlA hXe hgs (gate_xor p0 p1 q0 q1)).mono ?_
        rintro e w5 ⟨G5, rfl, hm5, hv5⟩
        rw [hZ.out] at hm5
        rw [hV.out]
        clear q0 q1
        have hr9 := r4.mv hv5 (off _ (by omega)); obtain ⟨j0, j1⟩ := hr9
        have hf9 := f4.mvO hv5 (by omega) (off _ (by omega))
        have e0 := hf9 0; have e1 := hf9 1
        have q9 := (r4.mv hv5 (off _ (by omega))).set (.int .i64 V) (.int .i64 (bits .xor .i64 a d))
        go_wp2
        obtain ⟨q0, q1⟩ := q9
        refine bodyPost_ret (v := .agg #[.int .i64 V, .int .i64 (bits .xor .i64 a d)]) (by simp [results, Try.results92, go_sem, q0, q1]) rfl ?_
        exact ⟨G5, by rw [HV1.out, HV2.out], by rw [HG.out]; exact (hm5).set2 (hv5.offF (by omega) (off _ (by omega))) _ _, (hvA.trans_ hv5).set2 (by omega) _ _⟩

set_option maxRecDepth 100000 in
set_option maxHeartbeats 4000000 in
theorem siAnd_any (lo b : Nat) (x y : Int) (Ao : Option Addr) (no co : Nat) (gs : List G3) (G : Option Nat) (X : Nat) (t u : Tb) (w : World) (hm : MkO w lo b x y Ao no co gs G) (hx : 0 ≤ x ∧ x ≤ 20) (hy : 0 ≤ y ∧ y ≤ 20) (hn : gs.length ≤ 80000) (hlo : lo ≤ w.heap.size) (hXe : Hid (x + y = (X : Int))) (hgs : GsOk X gs) (ht : TbOk ((X : Int) + gs.length) t) (hu : TbOk ((X : Int) + gs.length) u) :
    Calls Try.prog 93 #[.pointer (some ⟨b, 0, none⟩), .agg #[.int .i64 (sW t), .int .i64 (sT t)], .agg #[.int .i64 (sW u), .int .i64 (sT u)]] w (RetVO lo b x y Ao no co (andT X gs t u).1 G (.agg #[.int .i64 (sW (andT X gs t u).2), .int .i64 (sT (andT X gs t u).2)]) w) := by
  obtain ⟨c1, w1, t1⟩ := t
  obtain ⟨c2, w2, t2⟩ := u
  cases c1 with
  | true =>
    cases t1 with
    | true =>
      obtain ⟨q, hq⟩ : ∃ a, Hid (sW ⟨c2, w2, t2⟩ = a) := ⟨_, Lib.hid rfl⟩
      obtain ⟨d, hd⟩ : ∃ a, Hid (sT ⟨c2, w2, t2⟩ = a) := ⟨_, Lib.hid rfl⟩
      rw [hq.out, hd.out]
      rw [show sW ⟨true, w1, true⟩ = -1 from rfl, show sT ⟨true, w1, true⟩ = 0 from rfl]
      clear ht hu
      have HG : Hid ((andT X gs ⟨true, w1, true⟩ ⟨c2, w2, t2⟩).1 = gs) := Lib.hid (by simp [andT, sW, sT])
      have HV1 : Hid (sW (andT X gs ⟨true, w1, true⟩ ⟨c2, w2, t2⟩).2 = -1) := Lib.hid (by simp [andT, sW, sT])
      have HV2 : Hid (sT (andT X gs ⟨true, w1, true⟩ ⟨c2, w2, t2⟩).2 = 0) := Lib.hid (by simp [andT, sW, sT])
      go_enter Try.func93, Try.ntmps93
      go_wp2
      have q9 : Bx2 (((w.alloc (.cells #[.int .i64 (-1), .int .i64 0] 118)).alloc (.cells #[.int .i64 q, .int .i64 d] 118)).alloc (.cells #[.int .i64 (-1), .int .i64 0] 118)) (w.heap.size + 2) (.int .i64 (-1)) (.int .i64 0) := by
        simpa using Bx2.new ((w.alloc (.cells #[.int .i64 (-1), .int .i64 0] 118)).alloc (.cells #[.int .i64 q, .int .i64 d] 118)) (.int .i64 (-1)) (.int .i64 0) 118
      obtain ⟨q0, q1⟩ := q9
      refine bodyPost_ret (v := .agg #[.int .i64 (-1), .int .i64 0]) (by simp [results, Try.results93, go_sem, q0, q1]) rfl ?_
      exact ⟨G, by rw [HV1.out, HV2.out], by rw [HG.out]; exact ((hm.alloc_ _).alloc_ _).alloc_ _, (((Mv.refl_ b G w).alloc_ _).alloc_ _).alloc_ _⟩
    | false =>
      cases c2 with
      | true =>
        cases t2 with
        | true =>
          rw [show sW ⟨true, w1, false⟩ = -1 from rfl, show sT ⟨true, w1, false⟩ = 1 from rfl, show sW ⟨true, w2, true⟩ = -1 from rfl, show sT ⟨true, w2, true⟩ = 0 from rfl]
          clear ht hu
          have HG : Hid ((andT X gs ⟨true, w1, false⟩ ⟨true, w2, true⟩).1 = gs) := Lib.hid (by simp [andT, sW, sT])
          have HV1 : Hid (sW (andT X gs ⟨true, w1, false⟩ ⟨true, w2, true⟩).2 = (-1)) := Lib.hid (by simp [andT, sW, sT])
          have HV2 : Hid (sT (andT X gs ⟨true, w1, false⟩ ⟨true, w2, true⟩).2 = 0) := Lib.hid (by simp [andT, sW, sT])
          go_enter Try.func93, Try.ntmps93
          go_wp2
          have q9 : Bx2 (((w.alloc (.cells #[.int .i64 (-1), .int .i64 1] 118)).alloc (.cells #[.int .i64 (-1), .int .i64 0] 118)).alloc (.cells #[.int .i64 (-1), .int .i64 0] 118)) (w.heap.size + 2) (.int .i64 (-1)) (.int .i64 0) := by
            simpa using Bx2.new ((w.alloc (.cells #[.int .i64 (-1), .int .i64 1] 118)).alloc (.cells #[.int .i64 (-1), .int .i64 0] 118)) (.int .i64 (-1)) (.int .i64 0) 118
          obtain ⟨q0, q1⟩ := q9
          refine bodyPost_ret (v := .agg #[.int .i64 (-1), .int .i64 0]) (by simp [results, Try.results93, go_sem, q0, q1]) rfl ?_
          exact ⟨G, by rw [HV1.out, HV2.out], by rw [HG.out]; exact ((hm.alloc_ _).alloc_ _).alloc_ _, (((Mv.refl_ b G w).alloc_ _).alloc_ _).alloc_ _⟩
        | false =>
          rw [show sW ⟨true, w1, false⟩ = -1 from rfl, show sT ⟨true, w1, false⟩ = 1 from rfl, show sW ⟨true, w2, false⟩ = -1 from rfl, show sT ⟨true, w2, false⟩ = 1 from rfl]
          clear ht hu
          have HG : Hid ((andT X gs ⟨true, w1, false⟩ ⟨true, w2, false⟩).1 = gs) := Lib.hid (by simp [andT, sW, sT])
          have HV1 : Hid (sW (andT X gs ⟨true, w1, false⟩ ⟨true, w2, false⟩).2 = (-1)) := Lib.hid (by simp [andT, sW, sT])
          have HV2 : Hid (sT (andT X gs ⟨true, w1, false⟩ ⟨true, w2, false⟩).2 = 1) := Lib.hid (by simp [andT, sW, sT])
          go_enter Try.func93, Try.ntmps93
          go_wp2
          have q9 : Bx2 (((w.alloc (.cells #[.int .i64 (-1), .int .i64 1] 118)).alloc (.cells #[.int .i64 (-1), .int .i64 1] 118)).alloc (.cells #[.int .i64 (-1), .int .i64 1] 118)) (w.heap.size + 2) (.int .i64 (-1)) (.int .i64 1) := by
            simpa using Bx2.new ((w.alloc (.cells #[.int .i64 (-1), .int .i64 1] 118)).alloc (.cells #[.int .i64 (-1), .int .i64 1] 118)) (.int .i64 (-1)) (.int .i64 1) 118
          obtain ⟨q0, q1⟩ := q9
          refine bodyPost_ret (v := .agg #[.int .i64 (-1), .int .i64 1]) (by simp [results, Try.results93, go_sem, q0, q1]) rfl ?_
          exact ⟨G, by rw [HV1.out, HV2.out], by rw [HG.out]; exact ((hm.alloc_ _).alloc_ _).alloc_ _, (((Mv.refl_ b G w).alloc_ _).alloc_ _).alloc_ _⟩
      | false =>
        rw [show sW ⟨true, w1, false⟩ = -1 from rfl, show sT ⟨true, w1, false⟩ = 1 from rfl]
        rw [show sW ⟨false, w2, t2⟩ = w2 from rfl]
        obtain ⟨d, hd⟩ : ∃ a, Hid (sT ⟨false, w2, t2⟩ = a) := ⟨_, Lib.hid rfl⟩
        rw [hd.out]
        have hb2 := hu rfl
        dsimp only at hb2
        obtain ⟨q0, q1⟩ := hb2
        clear ht hu
        have HG : Hid ((andT X gs ⟨true, w1, false⟩ ⟨false, w2, t2⟩).1 = gs) := Lib.hid (by first | (rw [← hd.out]; simp [andT]; done) | simp [andT, sW])
        have HV1 : Hid (sW (andT X gs ⟨true, w1, false⟩ ⟨false, w2, t2⟩).2 = w2) := Lib.hid (by first | (rw [← hd.out]; simp [andT]; done) | simp [andT, sW])
        have HV2 : Hid (sT (andT X gs ⟨true, w1, false⟩ ⟨false, w2, t2⟩).2 = d) := Lib.hid (by first | (rw [← hd.out]; simp [andT]; done) | simp [andT, sW])
        go_enter Try.func93, Try.ntmps93
        go_wp2
        have q9 : Bx2 (((w.alloc (.cells #[.int .i64 (-1), .int .i64 1] 118)).alloc (.cells #[.int .i64 w2, .int .i64 d] 118)).alloc (.cells #[.int .i64 w2, .int .i64 d] 118)) (w.heap.size + 2) (.int .i64 w2) (.int .i64 d) := by
          simpa using Bx2.new ((w.alloc (.cells #[.int .i64 (-1), .int .i64 1] 118)).alloc (.cells #[.int .i64 w2, .int .i64 d] 118)) (.int .i64 w2) (.int .i64 d) 118
        obtain ⟨q0, q1⟩ := q9
        refine bodyPost_ret (v := .agg #[.int .i64 w2, .int .i64 d]) (by simp [results, Try.results93, go_sem, q0, q1]) rfl ?_
        exact ⟨G, by rw [HV1.out, HV2.out], by rw [HG.out]; exact ((hm.alloc_ _).alloc_ _).alloc_ _, (((Mv.refl_ b G w).alloc_ _).alloc_ _).alloc_ _⟩
  | false =>
    have hb1 := ht rfl
    dsimp only at hb1
    obtain ⟨p0, p1⟩ := hb1
    obtain ⟨a, ha⟩ : ∃ a, Hid (sT ⟨false, w1, t1⟩ = a) := ⟨_, Lib.hid rfl⟩
    rw [ha.out]
    rw [show sW ⟨false, w1, t1⟩ = w1 from rfl]
    cases c2 with
    | true =>
      cases t2 with
      | true =>
        rw [show sW ⟨true, w2, true⟩ = -1 from rfl, show sT ⟨true, w2, true⟩ = 0 from rfl]
        clear ht hu
        have HG : Hid ((andT X gs ⟨false, w1, t1⟩ ⟨true, w2, true⟩).1 = gs) := Lib.hid (by simp [andT, sW, sT])
        have HV1 : Hid (sW (andT X gs ⟨false, w1, t1⟩ ⟨true, w2, true⟩).2 = -1) := Lib.hid (by simp [andT, sW, sT])
        have HV2 : Hid (sT (andT X gs ⟨false, w1, t1⟩ ⟨true, w2, true⟩).2 = 0) := Lib.hid (by simp [andT, sW, sT])
        go_enter Try.func93, Try.ntmps93
        go_wp2
        have q9 : Bx2 (((w.alloc (.cells #[.int .i64 w1, .int .i64 a] 118)).alloc (.cells #[.int .i64 (-1), .int .i64 0] 118)).alloc (.cells #[.int .i64 (-1), .int .i64 0] 118)) (w.heap.size + 2) (.int .i64 (-1)) (.int .i64 0) := by
          simpa using Bx2.new ((w.alloc (.cells #[.int .i64 w1, .int .i64 a] 118)).alloc (.cells #[.int .i64 (-1), .int .i64 0] 118)) (.int .i64 (-1)) (.int .i64 0) 118
        obtain ⟨q0, q1⟩ := q9
        refine bodyPost_ret (v := .agg #[.int .i64 (-1), .int .i64 0]) (by simp [results, Try.results93, go_sem, q0, q1]) rfl ?_
        exact ⟨G, by rw [HV1.out, HV2.out], by rw [HG.out]; exact ((hm.alloc_ _).alloc_ _).alloc_ _, (((Mv.refl_ b G w).alloc_ _).alloc_ _).alloc_ _⟩
      | false =>
        rw [show sW ⟨true, w2, false⟩ = -1 from rfl, show sT ⟨true, w2, false⟩ = 1 from rfl]
        clear ht hu
        have HG : Hid ((andT X gs ⟨false, w1, t1⟩ ⟨true, w2, false⟩).1 = gs) := Lib.hid (by first | (rw [← ha.out]; simp [andT]; done) | simp [andT, sW])
        have HV1 : Hid (sW (andT X gs ⟨false, w1, t1⟩ ⟨true, w2, false⟩).2 = w1) := Lib.hid (by first | (rw [← ha.out]; simp [andT]; done) | simp [andT, sW])
        have HV2 : Hid (sT (andT X gs ⟨false, w1, t1⟩ ⟨true, w2, false⟩).2 = a) := Lib.hid (by first | (rw [← ha.out]; simp [andT]; done) | simp [andT, sW])
        go_enter Try.func93, Try.ntmps93
        go_wp2
        have q9 : Bx2 (((w.alloc (.cells #[.int .i64 w1, .int .i64 a] 118)).alloc (.cells #[.int .i64 (-1), .int .i64 1] 118)).alloc (.cells #[.int .i64 w1, .int .i64 a] 118)) (w.heap.size + 2) (.int .i64 w1) (.int .i64 a) := by
          simpa using Bx2.new ((w.alloc (.cells #[.int .i64 w1, .int .i64 a] 118)).alloc (.cells #[.int .i64 (-1), .int .i64 1] 118)) (.int .i64 w1) (.int .i64 a) 118
        obtain ⟨q0, q1⟩ := q9
        refine bodyPost_ret (v := .agg #[.int .i64 w1, .int .i64 a]) (by simp [results, Try.results93, go_sem, q0, q1]) rfl ?_
        exact ⟨G, by rw [HV1.out, HV2.out], by rw [HG.out]; exact ((hm.alloc_ _).alloc_ _).alloc_ _, (((Mv.refl_ b G w).alloc_ _).alloc_ _).alloc_ _⟩
    | false =>
      have ht9 := ht; have hu9 := hu
      have hb2 := hu rfl
      dsimp only at hb2
      obtain ⟨q0, q1⟩ := hb2
      clear ht hu
      rw [show sW ⟨false, w2, t2⟩ = w2 from rfl]
      by_cases hw : w1 = w2
      · subst hw
        by_cases htt : t1 = t2
        · subst htt
          rw [ha.out]
          have HG : Hid ((andT X gs ⟨false, w1, t1⟩ ⟨false, w1, t1⟩).1 = gs) := Lib.hid (by first | (rw [← ha.out]; simp [andT]; done) | simp [andT, sW])
          have HV1 : Hid (sW (andT X gs ⟨false, w1, t1⟩ ⟨false, w1, t1⟩).2 = w1) := Lib.hid (by first | (rw [← ha.out]; simp [andT]; done) | simp [andT, sW])
          have HV2 : Hid (sT (andT X gs ⟨false, w1, t1⟩ ⟨false, w1, t1⟩).2 = a) := Lib.hid (by first | (rw [← ha.out]; simp [andT]; done) | simp [andT, sW])
          go_enter Try.func93, Try.ntmps93
          go_wp2
          have q9 : Bx2 (((w.alloc (.cells #[.int .i64 w1, .int .i64 a] 118)).alloc (.cells #[.int .i64 w1, .int .i64 a] 118)).alloc (.cells #[.int .i64 w1, .int .i64 a] 118)) (w.heap.size + 2) (.int .i64 w1) (.int .i64 a) := by
            simpa using Bx2.new ((w.alloc (.cells #[.int .i64 w1, .int .i64 a] 118)).alloc (.cells #[.int .i64 w1, .int .i64 a] 118)) (.int .i64 w1) (.int .i64 a) 118
          obtain ⟨q0, q1⟩ := q9
          refine bodyPost_ret (v := .agg #[.int .i64 w1, .int .i64 a]) (by simp [results, Try.results93, go_sem, q0, q1]) rfl ?_
          exact ⟨G, by rw [HV1.out, HV2.out], by rw [HG.out]; exact ((hm.alloc_ _).alloc_ _).alloc_ _, (((Mv.refl_ b G w).alloc_ _).alloc_ _).alloc_ _⟩
        · obtain ⟨d, hd⟩ : ∃ a, Hid (sT ⟨false, w1, t2⟩ = a) := ⟨_, Lib.hid rfl⟩
          rw [hd.out]
          have z2 : (a == d) = false := by rw [← ha.out, ← hd.out]; revert htt; cases t1 <;> cases t2 <;> simp [sT]
          have HG : Hid ((andT X gs ⟨false, w1, t1⟩ ⟨false, w1, t2⟩).1 = gs) := Lib.hid (by simp [andT, htt, sW, sT])
          have HV1 : Hid (sW (andT X gs ⟨false, w1, t1⟩ ⟨false, w1, t2⟩).2 = -1) := Lib.hid (by simp [andT, htt, sW, sT])
          have HV2 : Hid (sT (andT X gs ⟨false, w1, t1⟩ ⟨false, w1, t2⟩).2 = 0) := Lib.hid (by simp [andT, htt, sW, sT])
          go_enter Try.func93, Try.ntmps93
          go_wp2
          have q9 : Bx2 (((w.alloc (.cells #[.int .i64 w1, .int .i64 a] 118)).alloc (.cells #[.int .i64 w1, .int .i64 d] 118)).alloc (.cells #[.int .i64 (-1), .int .i64 0] 118)) (w.heap.size + 2) (.int .i64 (-1)) (.int .i64 0) := by
            simpa using Bx2.new ((w.alloc (.cells #[.int .i64 w1, .int .i64 a] 118)).alloc (.cells #[.int .i64 w1, .int .i64 d] 118)) (.int .i64 (-1)) (.int .i64 0) 118
          obtain ⟨q0, q1⟩ := q9
          refine bodyPost_ret (v := .agg #[.int .i64 (-1), .int .i64 0]) (by simp [results, Try.results93, go_sem, q0, q1]) rfl ?_
          exact ⟨G, by rw [HV1.out, HV2.out], by rw [HG.out]; exact ((hm.alloc_ _).alloc_ _).alloc_ _, (((Mv.refl_ b G w).alloc_ _).alloc_ _).alloc_ _⟩
      · have z1 : (w1 == w2) = false := by simpa using hw
        obtain ⟨d, hd⟩ : ∃ a, Hid (sT ⟨false, w2, t2⟩ = a) := ⟨_, Lib.hid rfl⟩
        rw [hd.out]
        obtain ⟨⟨a1, a2, a3⟩, a4, a5⟩ := made_ok hgs ht9
        have hu2 := hu9.mono (m := (X : Int) + (made X gs ⟨false, w1, t1⟩).1.length) (by omega)
        obtain ⟨⟨b1, b2, b3⟩, b4, b5⟩ := made_ok a1 hu2
        obtain ⟨Z1, hZ1⟩ : ∃ Z, Hid ((made X gs ⟨false, w1, t1⟩).1 = Z) := ⟨_, Lib.hid rfl⟩
        obtain ⟨V1, hV1⟩ : ∃ Z, Hid ((made X gs ⟨false, w1, t1⟩).2 = Z) := ⟨_, Lib.hid rfl⟩
        rw [hZ1.out] at a1 a3 a4 a5 hu2 b1 b2 b3 b4 b5
        rw [hV1.out] at a2 a3
        obtain ⟨Z2, hZ2⟩ : ∃ Z, Hid ((made X Z1 ⟨false, w2, t2⟩).1 = Z) := ⟨_, Lib.hid rfl⟩
        obtain ⟨V2, hV2⟩ : ∃ Z, Hid ((made X Z1 ⟨false, w2, t2⟩).2 = Z) := ⟨_, Lib.hid rfl⟩
        rw [hZ2.out] at b1 b3 b4 b5
        rw [hV2.out] at b2 b3
        have hgA : GateIs ⟨1, V1, V2⟩ ((X : Int) + Z2.length) := gate_and a2 (by omega) b2 b3
        obtain ⟨Z, hZ⟩ : ∃ Z, Hid (onceG Z2 ⟨1, V1, V2⟩ = Z) := ⟨_, Lib.hid rfl⟩
        obtain ⟨V, hV⟩ : ∃ Z, Hid (onceW X Z2 ⟨1, V1, V2⟩ = Z) := ⟨_, Lib.hid rfl⟩
        have HX : Hid (andT X gs ⟨false, w1, t1⟩ ⟨false, w2, t2⟩ = (Z, ⟨false, V, false⟩)) := Lib.hid (by rw [← hZ.out, ← hV.out, ← hZ2.out, ← hV2.out, ← hZ1.out, ← hV1.out]; simp [andT, hw, andG])
        have HG : Hid ((andT X gs ⟨false, w1, t1⟩ ⟨false, w2, t2⟩).1 = Z) := Lib.hid (by rw [HX.out])
        have HV1 : Hid (sW (andT X gs ⟨false, w1, t1⟩ ⟨false, w2, t2⟩).2 = V) := Lib.hid (by rw [HX.out]; rfl)
        have HV2 : Hid (sT (andT X gs ⟨false, w1, t1⟩ ⟨false, w2, t2⟩).2 = 0) := Lib.hid (by rw [HX.out]; rfl)
        have hl1 : Z1.length ≤ 90000 := by omega
        have hl2 : Z2.length ≤ 100000 := by omega
        have HA1 := Lib.hid (show sW ⟨false, w1, t1⟩ = w1 from rfl)
        have HA2 := Lib.hid (show sW ⟨false, w2, t2⟩ = w2 from rfl)
        have hA := fun W' h1 h2 => siPlain_any lo b x y Ao no co gs G X ⟨false, w1, t1⟩ W' h1 hx hy (by omega) h2 hXe hgs ht9
        rw [HA1.out, ha.out, hZ1.out, hV1.out] at hA
        have hB := fun G' W' h1 h2 => siPlain_any lo b x y Ao no co Z1 G' X ⟨false, w2, t2⟩ W' h1 hx hy hl1 h2 hXe a1 hu2
        rw [HA2.out, hd.out, hZ2.out, hV2.out] at hB
        have hC := fun G' W' h1 h2 => siGate_any lo b x y Ao no co Z2 G' X 1 V1 V2 _ W' h1 hx hy hl2 h2 hXe b1 hgA
        rw [hZ.out, hV.out] at hC
        have HA := Lib.hid hA; have HB := Lib.hid hB; have HC := Lib.hid hC
        clear hA hB hC hw ht9 hu9 hu2 a1 a2 a3 a4 a5 b1 b2 b3 b4 b5 hgA HX
        obtain ⟨W3, hW3⟩ : ∃ W3, W3 = (((w.alloc (.cells #[.int .i64 w1, .int .i64 a] 118)).alloc (.cells #[.int .i64 w2, .int .i64 d] 118)).alloc (.cells #[.int .i64 0, .int .i64 0] 118)) := ⟨_, rfl⟩
        have hbA : Below w.heap.size w W3 := by subst hW3; exact (((Below.refl _ _).alloc (Nat.le_refl _) _).alloc (by simp) _).alloc (by first | (simp; done) | (simp; omega)) _
        have hsA : W3.heap.size = w.heap.size + 3 := by subst hW3; simp
        have x4 : Bx2 W3 w.heap.size (.int .i64 w1) (.int .i64 a) := by subst hW3; exact (Bx2.new w _ _ _).bel (B := w.heap.size + 1) (((Below.refl _ _).alloc (by simp) _).alloc (by first | (simp; done) | (simp; omega)) _) (by omega)
        have y4 : Bx2 W3 (w.heap.size + 1) (.int .i64 w2) (.int .i64 d) := by
          subst hW3
          have h := (Bx2.new (w.alloc (.cells #[.int .i64 w1, .int .i64 a] 118)) (.int .i64 w2) (.int .i64 d) 118).bel (B := w.heap.size + 2) ((Below.refl _ _).alloc (by simp) (.cells #[.int .i64 0, .int .i64 0] 118)) (by simp)
          simpa using h
        have r4 : Bx2 W3 (w.heap.size + 2) (.int .i64 0) (.int .i64 0) := by
          subst hW3
          simpa using Bx2.new ((w.alloc (.cells #[.int .i64 w1, .int .i64 a] 118)).alloc (.cells #[.int .i64 w2, .int .i64 d] 118)) (.int .i64 0) (.int .i64 0) 118
        have f4 : Fz W3 (w.heap.size + 2) := by
          subst hW3
          simpa using Fz.new ((w.alloc (.cells #[.int .i64 w1, .int .i64 a] 118)).alloc (.cells #[.int .i64 w2, .int .i64 d] 118)) #[.int .i64 0, .int .i64 0] 118
        have hmA := hm.below_ hbA (Nat.le_refl _)
        have hvA := (Mv.refl_ b G w).below_ hbA (Nat.le_refl _)
        have off : ∀ i, w.heap.size ≤ i → OffB b G i := fun i hi => ⟨by have := hm.1; omega, fun hc => by have := (hm.lt _ hc).2; omega⟩
        have hlA := Nat.le_trans hlo hvA.size
        have HWW := Lib.hid hW3; clear hW3
        go_enter Try.func93, Try.ntmps93
        go_wp2_with fail
        rw [← HWW.out]
        refine (HA.out _ hmA hlA).mono ?_
        rintro e w5 ⟨G5, rfl, hm5, hv5⟩
        have y5 := y4.mv hv5 (off _ (by omega))
        have r5 := r4.mv hv5 (off _ (by omega))
        have f5 := f4.mvO hv5 (by omega) (off _ (by omega))
        have o5 := hv5.offF (k := w.heap.size + 2) (by omega) (off _ (by omega))
        have hz5 := hv5.size
        have hq9 := y5; obtain ⟨l0, l1⟩ := hq9
        go_wp2_with fail
        refine (HB.out _ _ hm5 (by omega)).mono ?_
        rintro e w6 ⟨G6, rfl, hm6, hv6⟩
        have r6 := r5.mv hv6 o5
        have f6 := f5.mvO hv6 (by omega) o5
        have o6 := hv6.offF (k := w.heap.size + 2) (by omega) o5
        have hz6 := hv6.size
        clear l0 l1 q0 q1
        go_wp2_with fail
        refine (HC.out _ _ hm6 (by omega)).mono ?_
        rintro e w7 ⟨G7, rfl, hm7, hv7⟩
        have o7 := hv7.offF (k := w.heap.size + 2) (by omega) o6
        have hr9 := r6.mv hv7 o6; obtain ⟨j0, j1⟩ := hr9
        have hf9 := f6.mvO hv7 (by omega) o6
        have e0 := hf9 0; have e1 := hf9 1
        have q9 := (r6.mv hv7 o6).set (.int .i64 V) (.int .i64 0)
        go_wp2
        obtain ⟨q0, q1⟩ := q9
        refine bodyPost_ret (v := .agg #[.int .i64 V, .int .i64 0]) (by simp [results, Try.results93, go_sem, q0, q1]) rfl ?_
        exact ⟨G7, by rw [HV1.out, HV2.out], by rw [HG.out]; exact (hm7).set2 o7 _ _, (((hvA.trans_ hv5).trans_ hv6).trans_ hv7).set2 (by omega) _ _⟩

end Go.Proofs.Ytapemogbphlnoaa
