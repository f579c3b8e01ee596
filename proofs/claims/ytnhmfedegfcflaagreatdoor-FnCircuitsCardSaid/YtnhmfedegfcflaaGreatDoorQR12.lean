/- Drawn inputs: rows of bits, two of them; a drawn circuit with two rows. -/
import Derived.Test.YtnhmfedegfcflaaGreatDoorQR11
namespace Go.Proofs.YtnhmfedegfcflaaGreatDoor
open Go.RowKit
set_option linter.unusedVariables false
set_option linter.unusedSimpArgs false
attribute [local go_sem] sepAt sepUpon pureAt pureUpon
def tblk (Y : Option Addr) (n : Nat) : Nat → Prop := fun q => 0 < n ∧ ∃ o, Y = some ⟨q, o, none⟩
theorem Cur.new {w : World} {Y : Option Addr} {n c : Nat} (hY : RY w Y n) : Cur (w.alloc (.cells #[.slice Y n c, .int .i64 0, .int .u64 0] 59)) w.heap.size (tblk Y n) 0 :=
 ⟨Fz.new w _ _, by simp, Y, n, c, 0, 0, Zal _ _ 0 _ rfl, Zal _ _ 1 _ rfl, Zal _ _ 2 _ rfl, Nat.le_refl _, hY.alt (Alt.of_new (S := fun _ => False) (bA)) (fun _ _ _ _ h => h), fun hn q o hq => ⟨⟨hn, o, hq⟩, by
  obtain ⟨b, o', h1, h2, _⟩ := hY.2 hn
  rw [hq] at h1; injection h1 with h1; injection h1 with h3 h4; omega⟩⟩
theorem tblk_lt {w : World} {Y : Option Addr} {n : Nat} (hY : RY w Y n) : ∀ i, tblk Y n i → i < w.heap.size := by
 rintro i ⟨hn, o, hq⟩
 obtain ⟨b, o', h1, h2, _⟩ := hY.2 hn
 rw [hq] at h1; injection h1 with h1; injection h1 with h3 h4; omega
def RetDb (w : World) (e : Ending) (w' : World) : Prop :=
 ∃ (C D : Ci) (A : Option Addr) (ca : Nat) (O : Option Addr) (co : Nat) (A2 : Option Addr) (ca2 : Nat) (O2 : Option Addr) (co2 : Nat), e = .returned (.tuple #[.agg #[.int .i64 C.i0, .int .i64 C.i1, .slice A C.gs.length ca, .slice O C.os.length co], .agg #[.int .i64 D.i0, .int .i64 D.i1, .slice A2 D.gs.length ca2, .slice O2 D.os.length co2]]) ∧
  OwnC w' w.heap.size w'.heap.size A C.gs.length ca O C.os.length co C.gs C.os ∧ C.gs.length ≤ 310 ∧ C.os.length ≤ 50 ∧ OwnC w' w.heap.size w'.heap.size A2 D.gs.length ca2 O2 D.os.length co2 D.gs D.os ∧ D.gs.length ≤ 310 ∧ D.os.length ≤ 50 ∧ Below w.heap.size w w'
end Go.Proofs.YtnhmfedegfcflaaGreatDoor
namespace Go.Proofs.YtnhmfedegfcflaaGreatDoor
open Go.RowKit
set_option linter.unusedVariables false
set_option linter.unusedSimpArgs false
attribute [local go_sem] sepAt sepUpon pureAt pureUpon
theorem leastV_any (a b : Int) (w : World) : Calls Tryz.prog 42 #[.int .i64 a, .int .i64 b] w fun e w' => e = .returned (.int .i64 (min a b)) ∧ w = w' := by
 by_cases h : a<b
 ·have hm : Hid (min a b = a) := zH (by omega)
  go_enter Tryz.func42, Tryz.ntmps42
  go_wp2
  go_ret
  exact ⟨by rw [hm.out]; rfl, rfl⟩
 ·have hm : Hid (min a b = b) := zH (by omega)
  go_enter Tryz.func42, Tryz.ntmps42
  go_wp2
  go_ret
  exact ⟨by rw [hm.out]; rfl, rfl⟩
def RetBi (b : Nat) (R : Nat → Prop) (T k : Nat) (w : World) (e : Ending) (w' : World) : Prop :=
 ∃ (xs : List Int) (A : Option Addr) (c : Nat), e = .returned (.slice A k c) ∧ Own w' w.heap.size w'.heap.size (.slice A k c) k xs ∧ Cur w' b R T ∧ Alt (fun i => i = b) w w'
set_option maxHeartbeats 1000000 in
theorem bitsI_any (z : Int) (b : Nat) (R : Nat → Prop) (T : Nat) (w : World) (h : Cur w b R T) (hT : T < 700000000) (hz : z ≤ 100) (hR : ∀ i, R i → i < w.heap.size) (hRb : ¬ R b) :
 Calls Tryz.prog 93 #[.pointer (some ⟨b, 0, none⟩), .int .i64 z] w (RetBi b R (T + 200) z.toNat w) := by
 have hb := h.lt
 go_enter Tryz.func93, Tryz.ntmps93
 go_wp2
 go_loopw [5, 1] (fun v n wr => ∃ (i : Nat) (A : Option Addr) (c : Nat) (xs : List Int), i ≤ z.toNat ∧ n = .int .i64 (z - (i : Int)) ∧ v = .slice A i c ∧ Own wr w.heap.size wr.heap.size (.slice A i c) i xs ∧ Cur wr b R (T + 2 * i) ∧ Alt (fun i => i = b) w wr) (fun _ n _ => (intOf n).toNat)
 case atStart => exact ⟨0, _, _, [], Nat.zero_le _, by simp, rfl, Own.none_ _ _ _, h.mono (by omega), Alt.refl_ _ _⟩
 case round =>
  obtain ⟨i, A, c, xs, hi, rfl, rfl, ho, hu, ha⟩ := hrel
  clear h
  have hs := ha.size
  by_cases hlt : i < z.toNat
  ·have hp : (0 : Int) < z - (i : Int) := by omega
   go_wp2_with fail
   refine (Zaj 2 b R _ _ hu (by omega) (by omega)).mono ?_
   rintro e w2 ⟨v, hv, hv2, rfl, u2, k2, z2⟩
   have ho2 := (ho.alt k2 (fun g hg e => by have := (ho.lt g hg).1; omega)).now
   have ha2 := ha.trans_ k2 (fun _ _ h => h)
   have hz2 := ha2.size
   have hoA := ho2.alloc (.cells #[.int .i64 v] 3)
   have haA := ha2.alloc_ (.cells #[.int .i64 v] 3)
   have uA := u2.alt ((Alt.refl_ (fun _ => False) w2).alloc_ (.cells #[.int .i64 v] 3)) (fun h => h) (fun _ _ h => h)
   clear ho ha hu k2 u2 ha2 z2
   go_wp2_with (at_builtin; refine Zaw _ rfl _ _ rfl rfl hoA rfl (Zbj _ _ _ _ (by simp)) (by omega) oM ?_; intro A5 c5 w5 hown5 hg5 hat5)
   have a5 := haA.trans_ (Alt.of_grown (S := fun j => (Value.slice A i c).ownBlock = some j) hg5 (fun j hj => hj)) (fun j hj h => by have := (hoA.lt j h).1; omega)
   have u5 := uA.alt (Alt.of_grown (S := fun j => (Value.slice A i c).ownBlock = some j) hg5 (fun j hj => hj)) (fun h => by have := (hoA.lt b h).1; omega) (fun j hj h => by have := (hoA.lt j h).1; have := hR j hj; omega)
   clear hoA haA uA hg5 hat5
   go_wp2
   go_roundw
   case rel => exact ⟨i + 1, _, _, _, by omega, congrArg (Value.int .i64) (by omega), rfl, hown5, u5.mono (by omega), a5⟩
   case measure => simp [intOf]; omega
  ·have hp : ¬ (0 : Int) < z - (i : Int) := by omega
   obtain rfl : i = z.toNat := by omega
   go_wp2
   go_ret
   exact ⟨xs, _, _, rfl, ho, hu.mono (by omega), ha⟩
def RetIn (b : Nat) (R : Nat → Prop) (T : Nat) (w : World) (e : Ending) (w' : World) : Prop :=
 ∃ (xs ys : List Int) (A : Option Addr) (n c : Nat) (B : Option Addr) (m d : Nat), e = .returned (.tuple #[.slice A n c, .slice B m d]) ∧ Own w' w.heap.size w'.heap.size (.slice A n c) n xs ∧ Own w' w.heap.size w'.heap.size (.slice B m d) m ys ∧ n ≤ 40 ∧ m ≤ 40 ∧ Cur w' b R T ∧ Alt (fun i => i = b) w w'
set_option maxRecDepth 100000 in
set_option maxHeartbeats 4000000 in
theorem inputs_any (x y : Int) (Ag : Option Addr) (ng cg : Nat) (Ao : Option Addr) (no co : Nat) (b : Nat) (R : Nat → Prop) (T : Nat) (w : World) (h : Cur w b R T) (hT : T < 700000) (hR : ∀ i, R i → i < w.heap.size) (hRb : ¬ R b) :
 Calls Tryz.prog 66 #[.pointer (some ⟨b, 0, none⟩), .agg #[.int .i64 x, .int .i64 y, .slice Ag ng cg, .slice Ao no co]] w (RetIn b R (T + 500) w) := by
 have hb := h.lt
 have hB : Below w.heap.size w (w.alloc (.cells #[.int .i64 x, .int .i64 y, .slice Ag ng cg, .slice Ao no co] 27)) := bA
 have hx0 : BxC (w.alloc (.cells #[.int .i64 x, .int .i64 y, .slice Ag ng cg, .slice Ao no co] 27)) w.heap.size x y Ag ng cg Ao no co := BxC.new w _
 have c0 := h.alt (Alt.of_new (S := fun _ => False) hB) (fun h => h) (fun _ _ h => h)
 have k0 : Alt (fun i => i = b) w (w.alloc (.cells #[.int .i64 x, .int .i64 y, .slice Ag ng cg, .slice Ao no co] 27)) := Alt.of_new hB
 have hs0 : (w.alloc (.cells #[.int .i64 x, .int .i64 y, .slice Ag ng cg, .slice Ao no co] 27)).heap.size = w.heap.size + 1 := by simp
 obtain ⟨q0, q1, q2, q3⟩ := hx0
 clear q2 q3 h hB
 obtain ⟨N1, hN1⟩ := lT ((min x 30).toNat)
 obtain ⟨N2, hN2⟩ := lT ((min y 30).toNat)
 have hn1 : N1 ≤ 30 := by have := hN1.out; omega
 have hn2 : N2 ≤ 30 := by have := hN2.out; omega
 have hwb : ¬ w.heap.size = b := by omega
 have hR0 : ∀ i, R i → i < (w.alloc (.cells #[.int .i64 x, .int .i64 y, .slice Ag ng cg, .slice Ao no co] 27)).heap.size := fun i hi => by have := hR i hi; omega
 go_enter Tryz.func66, Tryz.ntmps66
 go_wp2_with fail
 generalize w.alloc (.cells #[.int .i64 x, .int .i64 y, .slice Ag ng cg, .slice Ao no co] 27) = w0 at *
 go_region_held3 (fun w' => w'.cell? ⟨w.heap.size, 0, none⟩ = some (.int .i64 x) ∧ w'.cell? ⟨w.heap.size, 1, none⟩ = some (.int .i64 y))
  (first | (go_keep; done) | (exact ⟨k1.cell_ q0 hwb, k1.cell_ q1 hwb⟩) | (go_split_ands; exact ⟨k2.cell_ (by assumption) hwb, k2.cell_ (by assumption) hwb⟩))
  (first | (go_at_call 42; refine (leastV_any _ _ _).mono ?_; rintro e w9 ⟨rfl, rfl⟩) | (go_at_call_of 93 (Value.int IntKind.i64 (min x 30)); refine (bitsI_any (min x 30) b R T _ (c0.alt ((Alt.refl_ (fun _ => False) w0).drewN_ _) (fun h => h) (fun _ _ h => h)) (by omega) (by omega) hR0 hRb).mono ?_; rintro e w1 ⟨xs, A, ca, rfl, o1, c1, k1⟩; rw [hN1.out] at o1 ⊢) | (go_at_call_of 93 (Value.int IntKind.i64 (min y 30)); refine (bitsI_any (min y 30) b R (T + 200) _ c1 (by omega) (by omega) (fun i hi => Nat.lt_of_lt_of_le (hR0 i hi) k1.size) hRb).mono ?_; rintro e w2 ⟨ys, B, cb, rfl, o2, c2, k2⟩; rw [hN2.out] at o2 ⊢))
 have ka : Alt (fun i => i = b) w w2 := ((k0.drewN_ 1).trans_ k1 (fun _ _ h => h)).trans_ k2 (fun _ _ h => h)
 have hz1 : w.heap.size + 1 ≤ w1.heap.size := by have := k1.size; have h2 : (w0.drewN 1).heap.size = w0.heap.size := rfl; omega
 have o1b : Own w1 w.heap.size w1.heap.size (.slice A N1 ca) N1 xs := o1.lo_ (by have h2 : (w0.drewN 1).heap.size = w0.heap.size := rfl; omega)
 have o1c := o1b.alt k2 (fun g hg e => by have := (o1b.lt g hg).1; omega)
 have hz2 := k2.size
 clear o1 o1b k0 k1 k2 c0 c1 q0 q1 hs0 hR0 hN1 hN2
 (try go_wp2_with fail)
 refine (Zaj 30 b R (T + 400) _ c2 (by omega) (by omega)).mono ?_
 rintro e w3 ⟨u, h1, h2, rfl, c3, k3, z3⟩
 have p1 := o1c.alt k3 (fun g hg e => by have := (o1c.lt g hg).1; omega)
 have p2 := o2.alt k3 (fun g hg e => by have := (o2.lt g hg).1; omega)
 have kb := ka.trans_ k3 (fun _ _ h => h)
 have hz3 : w2.heap.size ≤ w3.heap.size := by omega
 clear h1 h2 z3 o1c o2 ka k3 c2
 have hu : u = 0 ∨ u = 1 ∨ 2 ≤ u := by omega
 rcases hu with rfl | rfl | hu
 ·have pA := p1.alloc (.cells #[.int .i64 0] 3)
  have pB := p2.alloc (.cells #[.int .i64 0] 3)
  have cA := c3.alt ((Alt.refl_ (fun _ => False) w3).alloc_ (.cells #[.int .i64 0] 3)) (fun h => h) (fun _ _ h => h)
  have kA := kb.alloc_ (.cells #[.int .i64 0] 3)
  have ap : Apart (.slice B N2 cb) (.slice A N1 ca) := fun g e1 e2 => by have := (p2.lt g e1).1; have := (p1.lt g e2).2.1; omega
  go_wp2_with (at_builtin; refine Zaw _ rfl _ _ rfl rfl pA rfl (Zbj _ _ _ _ (by simp)) (by omega) oM ?_; intro A5 c5 w5 hown5 hg5 hat5)
  have kg := Alt.of_grown (S := fun j => (Value.slice A N1 ca).ownBlock = some j) hg5 (fun j hj => hj)
  have k5 := kA.trans_ kg (fun j hj h => by have := (pA.lt j h).1; omega)
  have cu5 := cA.alt kg (fun h => by have := (pA.lt b h).1; omega) (fun j hj h => by have := (pA.lt j h).1; have := hR j hj; omega)
  have p5 := (pB.apart hg5 ap).now
  clear kg kA cA pA pB hg5 hat5 p1 p2
  go_wp2
  go_ret2
  exact ⟨_, ys, A5, N1 + 1, c5, B, N2, cb, rfl, hown5, p5.lo_ (by omega), by omega, by omega, cu5.mono (by omega), k5⟩
 ·have pA := p2.alloc (.cells #[.int .i64 2] 3)
  have pB := p1.alloc (.cells #[.int .i64 2] 3)
  have cA := c3.alt ((Alt.refl_ (fun _ => False) w3).alloc_ (.cells #[.int .i64 2] 3)) (fun h => h) (fun _ _ h => h)
  have kA := kb.alloc_ (.cells #[.int .i64 2] 3)
  have ap : Apart (.slice A N1 ca) (.slice B N2 cb) := fun g e2 e1 => by have := (p2.lt g e1).1; have := (p1.lt g e2).2.1; omega
  go_wp2_with (at_builtin; refine Zaw _ rfl _ _ rfl rfl pA rfl (Zbj _ _ _ _ (by simp)) (by omega) oM ?_; intro A5 c5 w5 hown5 hg5 hat5)
  have kg := Alt.of_grown (S := fun j => (Value.slice B N2 cb).ownBlock = some j) hg5 (fun j hj => hj)
  have k5 := kA.trans_ kg (fun j hj h => by have := (pA.lt j h).1; omega)
  have cu5 := cA.alt kg (fun h => by have := (pA.lt b h).1; omega) (fun j hj h => by have := (pA.lt j h).1; have := hR j hj; omega)
  have p5 := (pB.apart hg5 ap).now
  clear kg kA cA pA pB hg5 hat5 p1 p2
  go_wp2
  go_ret2
  exact ⟨xs, _, A, N1, ca, A5, N2 + 1, c5, rfl, p5, hown5.lo_ (by omega), by omega, by omega, cu5.mono (by omega), k5⟩
 ·have t0 : ((u : Int) == 0) = false := by simp; omega
  have t1 : ((u : Int) == 1) = false := by simp; omega
  go_wp2
  go_ret2
  exact ⟨xs, ys, A, N1, ca, B, N2, cb, rfl, p1.now, p2.now.lo_ (by omega), by omega, by omega, c3.mono (by omega), kb⟩
def RetWv (w : World) (e : Ending) (w' : World) : Prop :=
 ∃ (C : Ci) (A : Option Addr) (ca : Nat) (O : Option Addr) (co : Nat) (xs ys : List Int) (U : Option Addr) (n c : Nat) (V : Option Addr) (m d : Nat), e = .returned (.tuple #[.agg #[.int .i64 C.i0, .int .i64 C.i1, .slice A C.gs.length ca, .slice O C.os.length co], .slice U n c, .slice V m d]) ∧
  OwnC w' w.heap.size w'.heap.size A C.gs.length ca O C.os.length co C.gs C.os ∧ C.gs.length ≤ 310 ∧ C.os.length ≤ 50 ∧ Own w' w.heap.size w'.heap.size (.slice U n c) n xs ∧ Own w' w.heap.size w'.heap.size (.slice V m d) m ys ∧ n ≤ 40 ∧ m ≤ 40 ∧ Below w.heap.size w w'
set_option maxRecDepth 100000 in
set_option maxHeartbeats 3000000 in
theorem DrawWireValues_any (Y : Option Addr) (n c : Nat) (w : World) (hY : RY w Y n) :
 Calls Tryz.prog 23 #[.slice Y n c] w (RetWv w) := by
 have hA1 : Below w.heap.size w (w.alloc (.cells #[.int .i64 0, .int .i64 0, .slice none 0 0, .slice none 0 0] 27)) := bA
 have hr0 : BxC (w.alloc (.cells #[.int .i64 0, .int .i64 0, .slice none 0 0, .slice none 0 0] 27)) w.heap.size 0 0 none 0 0 none 0 0 := BxC.new w _
 have hs0 : (w.alloc (.cells #[.int .i64 0, .int .i64 0, .slice none 0 0, .slice none 0 0] 27)).heap.size = w.heap.size + 1 := by simp
 have hfz : Fz (w.alloc (.cells #[.int .i64 0, .int .i64 0, .slice none 0 0, .slice none 0 0] 27)) w.heap.size := Fz.new w _ _
 have hY1 := hY.alt (Alt.of_new (S := fun _ => False) hA1) (fun _ _ _ _ h => h)
 have hc0 := Cur.new (c := c) hY1
 have hA2 : Below (w.alloc (.cells #[.int .i64 0, .int .i64 0, .slice none 0 0, .slice none 0 0] 27)).heap.size (w.alloc (.cells #[.int .i64 0, .int .i64 0, .slice none 0 0, .slice none 0 0] 27)) ((w.alloc (.cells #[.int .i64 0, .int .i64 0, .slice none 0 0, .slice none 0 0] 27)).alloc (.cells #[.slice Y n c, .int .i64 0, .int .u64 0] 59)) := bA
 have hR : ∀ i, tblk Y n i → i < w.heap.size := tblk_lt hY
 have hs1 : ((w.alloc (.cells #[.int .i64 0, .int .i64 0, .slice none 0 0, .slice none 0 0] 27)).alloc (.cells #[.slice Y n c, .int .i64 0, .int .u64 0] 59)).heap.size = w.heap.size + 2 := by simp
 rw [hs0] at hc0
 have hRb : ¬ tblk Y n (w.heap.size + 1) := fun h => by have := hR _ h; omega
 generalize tblk Y n = R at hc0 hR hRb
 go_enter Tryz.func23, Tryz.ntmps23
 go_wp2_with fail
 refine (Zci (w.heap.size + 1) R 0 _ hc0 (by omega) (fun i hi => by have := hR i hi; omega) hRb).mono ?_
 rintro e a1 ⟨⟨x, y, gs, os⟩, A, ca, O, co, rfl, ho1, hx, hy, hng, hno, c1, k1⟩
 dsimp only at ho1 hx hy hng hno ⊢
 have hz1 := k1.size
 rw [hs1] at ho1 hz1
 have kb : Alt (fun i => i = w.heap.size + 1) (w.alloc (.cells #[.int .i64 0, .int .i64 0, .slice none 0 0, .slice none 0 0] 27)) a1 := (Alt.of_new (S := fun i => i = w.heap.size + 1) hA2).trans_ k1 (fun _ _ h => h)
 have k2 := kb.alloc_ (.cells #[.int .i64 x, .int .i64 y, .slice A gs.length ca, .slice O os.length co] 27)
 have hal := (Below.refl a1.heap.size a1).alloc lR (.cells #[.int .i64 x, .int .i64 y, .slice A gs.length ca, .slice O os.length co] 27)
 have c2 := c1.alt (Alt.of_new (S := fun _ => False) hal) (fun h => h) (fun _ _ h => h)
 have hb2 : BxC (a1.alloc (.cells #[.int .i64 x, .int .i64 y, .slice A gs.length ca, .slice O os.length co] 27)) a1.heap.size x y A gs.length ca O os.length co := BxC.new a1 _
 have ho2 := ho1.below hal (.inl lR)
 have hz2 : (a1.alloc (.cells #[.int .i64 x, .int .i64 y, .slice A gs.length ca, .slice O os.length co] 27)).heap.size = a1.heap.size + 1 := by simp
 obtain ⟨K, hK⟩ : ∃ K, a1.heap.size = K := ⟨_, rfl⟩
 rw [hK] at hb2 hz2 hz1 ho2
 clear hc0 hA2 hY1 c1 k1 kb ho1
 have hq := hb2; obtain ⟨m0, m1, m2, m3⟩ := hq
 go_wp2_with fail
 clear hK
 generalize a1.alloc (.cells #[.int .i64 x, .int .i64 y, .slice A gs.length ca, .slice O os.length co] 27) = a2 at *
 refine (inputs_any x y A gs.length ca O os.length co (w.heap.size + 1) R _ _ c2 (by omega) (fun i hi => by have := hR i hi; omega) hRb).mono ?_
 rintro e a3 ⟨xs, ys, U, p, pc, V, q, qc, rfl, u1, u2, hp, hq, c3, k3⟩
 have hz3 := k3.size
 have kc := k2.trans_ k3 (fun _ _ h => h)
 have kw : Alt (fun i => i = w.heap.size + 1) w a3 := (Alt.of_new (S := fun i => i = w.heap.size + 1) hA1).trans_ kc (fun _ _ h => h)
 have hr9 := hr0.alt kc (by omega)
 have hF := Fz.alt hfz kc (by omega) (by omega)
 have hb3 := hb2.alt k3 (by omega)
 have ho3 : OwnC a3 (w.heap.size + 2) K A gs.length ca O os.length co gs os := ⟨ho2.1.alt k3 (fun g hg h => by have := (ho2.1.lt g hg).1; omega), ho2.2.1.alt k3 (fun g hg h => by have := (ho2.2.1.lt g hg).1; omega), ho2.2.2⟩
 clear m0 m1 m2 m3 hb2 ho2 k3 k2 kc c2 c3 hr0 hfz hal hA1
 have f0 := hF 0; have f1 := hF 1; have f2 := hF 2; have f3 := hF 3
 have hq := hr9; obtain ⟨r0, r1, r2, r3⟩ := hq
 have hq := hb3; obtain ⟨m0, m1, m2, m3⟩ := hq
 go_wp2
 have t1 := BxC.set4 hr9 x y A gs.length ca O os.length co
 have kq : Alt (fun i => i = w.heap.size) a3 ((((a3.setCell ⟨w.heap.size, 0, none⟩ (.int .i64 x)).setCell ⟨w.heap.size, 1, none⟩ (.int .i64 y)).setCell ⟨w.heap.size, 2, none⟩ (.slice A gs.length ca)).setCell ⟨w.heap.size, 3, none⟩ (.slice O os.length co)) := Zbh (Alt.refl_ (fun i => i = w.heap.size) a3) (fun _ => rfl) x y A gs.length ca O os.length co
 obtain ⟨q0, q1, q2, q3⟩ := t1
 refine bodyPost_ret (v := .tuple #[.agg #[.int .i64 x, .int .i64 y, .slice A gs.length ca, .slice O os.length co], .slice U p pc, .slice V q qc]) (by simp [results, Tryz.results23, go_sem, q0, q1, q2, q3]) rfl ?_
 exact ⟨⟨x, y, gs, os⟩, A, ca, O, co, xs, ys, U, p, pc, V, q, qc, rfl, ⟨(ho3.1.alt kq (fun g hg h => by have := (ho3.1.lt g hg).1; omega)).now.lo_ (by omega), (ho3.2.1.alt kq (fun g hg h => by have := (ho3.2.1.lt g hg).1; omega)).now.lo_ (by omega), ho3.2.2⟩, hng, hno, (u1.alt kq (fun g hg h => by have := (u1.lt g hg).1; omega)).now.lo_ (by omega), (u2.alt kq (fun g hg h => by have := (u2.lt g hg).1; omega)).now.lo_ (by omega), hp, hq, Zan (kw.below_ lR (fun i hi h => by omega)) lR _ _ _ _ _ _ _ _⟩
set_option maxHeartbeats 1000000 in
theorem DrawEvalCircuit_any (Y : Option Addr) (n c : Nat) (w : World) (hY : RY w Y n) :
 Calls Tryz.prog 5 #[.slice Y n c] w (RetWv w) := by
 have hA1 : Below w.heap.size w (w.alloc (.cells #[.int .i64 0, .int .i64 0, .slice none 0 0, .slice none 0 0] 27)) := bA
 have hr0 : BxC (w.alloc (.cells #[.int .i64 0, .int .i64 0, .slice none 0 0, .slice none 0 0] 27)) w.heap.size 0 0 none 0 0 none 0 0 := BxC.new w _
 have hs0 : (w.alloc (.cells #[.int .i64 0, .int .i64 0, .slice none 0 0, .slice none 0 0] 27)).heap.size = w.heap.size + 1 := by simp
 have hfz : Fz (w.alloc (.cells #[.int .i64 0, .int .i64 0, .slice none 0 0, .slice none 0 0] 27)) w.heap.size := Fz.new w _ _
 have hY1 := hY.alt (Alt.of_new (S := fun _ => False) hA1) (fun _ _ _ _ h => h)
 go_enter Tryz.func5, Tryz.ntmps5
 go_wp2_with fail
 refine (DrawWireValues_any Y n c _ hY1).mono ?_
 rintro e a3 ⟨⟨x, y, gs, os⟩, A, ca, O, co, xs, ys, U, p, pc, V, q, qc, rfl, hr, hng, hno, hu, hv, hp, hq, k1⟩
 dsimp only at hr hng hno ⊢
 have hr9 := hr0.below k1
 have kb := Alt.of_new (S := fun _ => False) k1
 have kw : Alt (fun _ => False) w a3 := (Alt.of_new (S := fun _ => False) hA1).trans_ kb (fun _ _ h => h)
 have hF := Fz.alt hfz kb (by omega) (fun h => h)
 have f0 := hF 0; have f1 := hF 1; have f2 := hF 2; have f3 := hF 3
 have hq9 := hr9; obtain ⟨r0, r1, r2, r3⟩ := hq9
 go_wp2
 have t1 := BxC.set4 hr9 x y A gs.length ca O os.length co
 have kq : Alt (fun i => i = w.heap.size) a3 ((((a3.setCell ⟨w.heap.size, 0, none⟩ (.int .i64 x)).setCell ⟨w.heap.size, 1, none⟩ (.int .i64 y)).setCell ⟨w.heap.size, 2, none⟩ (.slice A gs.length ca)).setCell ⟨w.heap.size, 3, none⟩ (.slice O os.length co)) := Zbh (Alt.refl_ (fun i => i = w.heap.size) a3) (fun _ => rfl) x y A gs.length ca O os.length co
 obtain ⟨q0, q1, q2, q3⟩ := t1
 rw [hs0] at hr hu hv
 refine bodyPost_ret (v := .tuple #[.agg #[.int .i64 x, .int .i64 y, .slice A gs.length ca, .slice O os.length co], .slice U p pc, .slice V q qc]) (by simp [results, Tryz.results5, go_sem, q0, q1, q2, q3]) rfl ?_
 exact ⟨⟨x, y, gs, os⟩, A, ca, O, co, xs, ys, U, p, pc, V, q, qc, rfl, ⟨(hr.1.alt kq (fun g hg h => by have := (hr.1.lt g hg).1; omega)).now.lo_ (by omega), (hr.2.1.alt kq (fun g hg h => by have := (hr.2.1.lt g hg).1; omega)).now.lo_ (by omega), hr.2.2⟩, hng, hno, (hu.alt kq (fun g hg h => by have := (hu.lt g hg).1; omega)).now.lo_ (by omega), (hv.alt kq (fun g hg h => by have := (hv.lt g hg).1; omega)).now.lo_ (by omega), hp, hq, Zan (kw.below_ lR (fun i hi h => h)) lR _ _ _ _ _ _ _ _⟩
end Go.Proofs.YtnhmfedegfcflaaGreatDoor
