/- Contracts: a circuit that is valid or not; gates moved by a closure. -/
import Derived.Test.YtjeojnfpeppclaaQR05
import Derived.Deep.RegionLaw
namespace Go.Proofs.Ytjeojnfpeppclaa
open Go.RowKit
set_option linter.unusedVariables false
set_option linter.unusedSimpArgs false
structure Alt (S : Nat → Prop) (w w' : World) : Prop where
 os : w'.os = w.os
 tape : w'.tape = w.tape
 output : w'.output = w.output
 size : w.heap.size ≤ w'.heap.size
 block : ∀ k, k < w.heap.size → ¬ S k → w'.heap[k]? = w.heap[k]?
section
variable {S T : Nat → Prop} {a b c w w' : World}
theorem Alt.refl_ (S : Nat → Prop) (w : World) : Alt S w w := ⟨rfl, rfl, rfl, Nat.le_refl _, fun _ _ _ => rfl⟩
theorem Alt.trans_ (h : Alt S a b) (k : Alt T b c) (hs : ∀ i, i < a.heap.size → T i → S i) : Alt S a c :=
 ⟨k.os.trans h.os, k.tape.trans h.tape, k.output.trans h.output, Nat.le_trans h.size k.size, fun i hi hn => (k.block i (Nat.lt_of_lt_of_le hi h.size) (fun ht => hn (hs i hi ht))).trans (h.block i hi hn)⟩
theorem Alt.mono_ (h : Alt S a b) (hs : ∀ i, i < a.heap.size → S i → T i) : Alt T a b := (Alt.refl_ T a).trans_ h hs
theorem Alt.of_below {B : Nat} (h : Below B a b) (hs : ∀ i, i < a.heap.size → B ≤ i → S i) : Alt S a b :=
 ⟨h.os, h.tape, h.output, h.size, fun i hi hn => h.block i (Nat.lt_of_not_le fun hc => hn (hs i hi hc))⟩
theorem Alt.of_new (h : Below a.heap.size a b) : Alt S a b := Alt.of_below h fun i hi hB => by omega
theorem Alt.of_grown {r : Option Nat} (h : a.grownBy b r) (hs : ∀ i, r = some i → S i) : Alt S a b :=
 ⟨h.os, h.tape, h.output, h.size, fun i hi hn => h.block i hi fun he => hn (hs i he.symm)⟩
theorem Alt.new_ (h : Alt S a b) (k : Below b.heap.size b c) : Alt S a c := h.trans_ (T := S) (Alt.of_new k) fun _ _ h => h
theorem Alt.set_ (h : Alt S a b) (p : Addr) (v : Value) (hp : p.block < a.heap.size → S p.block) : Alt S a (b.setCell p v) := by
 have k := (Below.refl p.block b).setCell (p := p) lR v
 exact ⟨k.os.trans h.os, k.tape.trans h.tape, k.output.trans h.output, Nat.le_trans h.size k.size, fun i hi hn => (Below.heap_setCell b p v i (fun he => hn (by subst he; exact hp hi))).trans (h.block i hi hn)⟩
theorem Alt.drewN_ (h : Alt S a b) (n : Nat) : Alt S a (b.drewN n) := ⟨h.os, h.tape, h.output, h.size, h.block⟩
theorem Alt.below_ {B : Nat} (h : Alt S a b) (hB : B ≤ a.heap.size) (hs : ∀ i, i < B → ¬ S i) : Below B a b :=
 ⟨h.os, h.tape, h.output, h.size, fun i hi => h.block i (by omega) (hs i hi)⟩
theorem Alt.cell_ {p : Addr} {v : Value} (k : Alt S w w') (h : w.cell? p = some v) (hp : ¬ S p.block) : w'.cell? p = some v :=
 (World.cell?_of_block (w := w) (k.block p.block (World.block_lt_of_cell? w _ h) hp)).trans h
end
section
variable {S : Nat → Prop} {w w' : World} {lo hi n b : Nat} {v : Value} {A : Option Addr}
theorem RI.alt {xs : List Int} (h : RI w A n xs) (k : Alt S w w') (hs : 0 < n → ∀ b o, A = some ⟨b, o, none⟩ → ¬ S b) : RI w' A n xs :=
 ⟨h.1, fun hn => by
  obtain ⟨b, o, hA, hlt, hc⟩ := h.2 hn
  exact ⟨b, o, hA, Nat.lt_of_lt_of_le hlt k.size, fun j hj => k.cell_ (hc j hj) (hs hn b o hA)⟩⟩
theorem Own.alt {xs : List Int} (h : Own w lo hi v n xs) (k : Alt S w w') (hs : ∀ g, v.ownBlock = some g → ¬ S g) : Own w' lo hi v n xs := by
 refine ⟨⟨h.1.1, ?_⟩, h.2⟩
 rcases h.1.2 with h1 | ⟨g, cap, cur, rfl, hlo, hg, r⟩
 ·exact .inl h1
 ·have hl := h.lt g (by simp [Value.ownBlock])
  exact .inr ⟨g, cap, cur, rfl, hlo, by rw [k.block g hl.2.2 (hs g (by simp [Value.ownBlock]))]; exact hg, r⟩
theorem OwnG.alt {xs : List G3} (h : OwnG w lo hi v n xs) (k : Alt S w w') (hs : ∀ g, v.ownBlock = some g → ¬ S g) : OwnG w' lo hi v n xs := by
 refine ⟨⟨h.1.1, ?_⟩, h.2⟩
 rcases h.1.2 with h1 | ⟨g, cap, cur, rfl, hlo, hg, r⟩
 ·exact .inl h1
 ·have hl := h.lt g (by simp [Value.ownBlock])
  exact .inr ⟨g, cap, cur, rfl, hlo, by rw [k.block g hl.2.2 (hs g (by simp [Value.ownBlock]))]; exact hg, r⟩
theorem Fz.alt (h : Fz w b) (k : Alt S w w') (hb : b < w.heap.size) (hs : ¬ S b) : Fz w' b := fun q => (World.frozen?_of_block (w := w) (a := ⟨b, q, none⟩) (k.block b hb hs)).trans (h q)
theorem BxC.alt {x y : Int} {Ag : Option Addr} {ng cg : Nat} {Ao : Option Addr} {no co : Nat} (h : BxC w b x y Ag ng cg Ao no co) (k : Alt S w w') (hs : ¬ S b) : BxC w' b x y Ag ng cg Ao no co :=
 ⟨k.cell_ h.1 hs, k.cell_ h.2.1 hs, k.cell_ h.2.2.1 hs, k.cell_ h.2.2.2 hs⟩
theorem BxC.lt {x y : Int} {Ag : Option Addr} {ng cg : Nat} {Ao : Option Addr} {no co : Nat} (h : BxC w b x y Ag ng cg Ao no co) : b < w.heap.size := World.block_lt_of_cell? w _ h.1
end
def RY (w : World) (A : Option Addr) (n : Nat) : Prop := n ≤ 2097152 ∧ (0 < n → ∃ b o, A = some ⟨b, o, none⟩ ∧ b < w.heap.size ∧ ∀ i, i < n → ∃ x : Nat, x < 256 ∧ w.cell? ⟨b, o + i, none⟩ = some (.int .u8 x))
theorem RY.alt {S : Nat → Prop} {w w' : World} {A : Option Addr} {n : Nat} (h : RY w A n) (k : Alt S w w') (hs : 0 < n → ∀ b o, A = some ⟨b, o, none⟩ → ¬ S b) : RY w' A n :=
 ⟨h.1, fun hn => by
  obtain ⟨b, o, hA, hlt, hc⟩ := h.2 hn
  exact ⟨b, o, hA, Nat.lt_of_lt_of_le hlt k.size, fun j hj => by
   obtain ⟨x, hx, h1⟩ := hc j hj
   exact ⟨x, hx, k.cell_ h1 (hs hn b o hA)⟩⟩⟩
structure Cur (w : World) (b : Nat) (R : Nat → Prop) (T : Nat) : Prop where
 fz : Fz w b
 lt : b < w.heap.size
 got : ∃ (A : Option Addr) (n c p : Nat) (z : Int), w.cell? ⟨b, 0, none⟩ = some (.slice A n c) ∧ w.cell? ⟨b, 1, none⟩ = some (.int .i64 p) ∧ w.cell? ⟨b, 2, none⟩ = some (.int .u64 z) ∧ p ≤ T ∧ RY w A n ∧ (0 < n → ∀ q o, A = some ⟨q, o, none⟩ → R q ∧ q ≠ b)
theorem Cur.alt {S R : Nat → Prop} {w w' : World} {b T : Nat} (h : Cur w b R T) (k : Alt S w w') (hb : ¬ S b) (hs : ∀ i, R i → ¬ S i) : Cur w' b R T := by
 obtain ⟨A, n, c, p, z, c0, c1, c2, hp, hr, hq⟩ := h.got
 exact ⟨h.fz.alt k h.lt hb, Nat.lt_of_lt_of_le h.lt k.size, A, n, c, p, z, k.cell_ c0 hb, k.cell_ c1 hb, k.cell_ c2 hb, hp, hr.alt k (fun hn q o hA => hs q (hq hn q o hA).1), hq⟩
theorem Cur.mono {R : Nat → Prop} {w : World} {b T U : Nat} (h : Cur w b R T) (hT : T ≤ U) : Cur w b R U := by
 obtain ⟨A, n, c, p, z, c0, c1, c2, hp, hr⟩ := h.got
 exact ⟨h.fz, h.lt, A, n, c, p, z, c0, c1, c2, by omega, hr⟩
def RetCur (w : World) (b : Nat) (R : Nat → Prop) (T m : Nat) (e : Ending) (w' : World) : Prop :=
 ∃ v : Nat, v < m ∧ e = .returned (.int .i64 v) ∧ Cur w' b R T ∧ Alt (fun i => i = b) w w' ∧ w'.heap.size = w.heap.size
theorem and255 (x : Int) : ∃ v : Nat, v < 256 ∧ bits .and .u64 x 255 = (v : Int) := by
 refine ⟨(BitVec.ofInt 64 x &&& BitVec.ofInt 64 255).toNat, ?_, ?_⟩
 ·have h : (BitVec.ofInt 64 x &&& BitVec.ofInt 64 255).toNat ≤ (BitVec.ofInt 64 255).toNat := by
   rw [BitVec.toNat_and]; exact Nat.and_le_right
  have h2 : (BitVec.ofInt 64 255).toNat = 255 := by decide
  omega
 ·show IntKind.u64.wrap ((BitVec.ofInt 64 x &&& BitVec.ofInt 64 255).toNat : Int) = _
  have h : (BitVec.ofInt 64 x &&& BitVec.ofInt 64 255).toNat < 2 ^ 64 := BitVec.isLt _
  rw [IntKind.wrap_u64]; omega
theorem and255w (x : Int) : ∃ v : Nat, v < 256 ∧ wrap64 (bits .and .u64 x 255) = (v : Int) := by
 obtain ⟨v, hv, e⟩ := and255 x
 refine ⟨v, hv, ?_⟩
 rw [e]; unfold wrap64; omega
theorem cur_step {w : World} {b : Nat} {R : Nat → Prop} {T n c p : Nat} {A : Option Addr} {z : Int} (hf : Fz w b) (hb : b < w.heap.size) (c0 : w.cell? ⟨b, 0, none⟩ = some (.slice A n c)) (c1 : w.cell? ⟨b, 1, none⟩ = some (.int .i64 p)) (c2 : w.cell? ⟨b, 2, none⟩ = some (.int .u64 z)) (hp : p ≤ T) (hr : RY w A n) (hq : 0 < n → ∀ q o, A = some ⟨q, o, none⟩ → R q ∧ q ≠ b) (y : Int) (k m : Nat) :
 Cur ((((w.drewN k).setCell ⟨b, 1, none⟩ (.int .i64 ((p : Int) + 1))).setCell ⟨b, 2, none⟩ (.int .u64 y)).drewN m) b R (T + 1)
 ∧ Alt (fun i => i = b) w ((((w.drewN k).setCell ⟨b, 1, none⟩ (.int .i64 ((p : Int) + 1))).setCell ⟨b, 2, none⟩ (.int .u64 y)).drewN m)
 ∧ ((((w.drewN k).setCell ⟨b, 1, none⟩ (.int .i64 ((p : Int) + 1))).setCell ⟨b, 2, none⟩ (.int .u64 y)).drewN m).heap.size = w.heap.size := by
 have hA : Alt (fun i => i = b) w ((((w.drewN k).setCell ⟨b, 1, none⟩ (.int .i64 ((p : Int) + 1))).setCell ⟨b, 2, none⟩ (.int .u64 y)).drewN m) :=
  ((((Alt.refl_ (fun i => i = b) w).drewN_ k).set_ ⟨b, 1, none⟩ _ (fun _ => rfl)).set_ ⟨b, 2, none⟩ _ (fun _ => rfl)).drewN_ m
 refine ⟨⟨fun q => ?_, Nat.lt_of_lt_of_le hb hA.size, A, n, c, p + 1, y, ?_, ?_, ?_, by omega, hr.alt hA (fun hn q o h => (hq hn q o h).2), hq⟩, hA, by simp⟩
 ·rw [World.frozen?_drewN, World.frozen?_setCell, World.frozen?_setCell]; exact hf q
 ·rw [World.cell?_drewN, World.cell?_setCell_other _ _ _ _ (by simp), World.cell?_setCell_other _ _ _ _ (by simp)]; exact c0
 ·rw [World.cell?_drewN, World.cell?_setCell_other _ _ _ _ (by simp), World.cell?_setCell_same (w.drewN k) ⟨b, 1, none⟩ _ c1]; rfl
 ·exact World.cell?_setCell_same _ _ _ ((World.cell?_setCell_other _ _ _ _ (by simp)).trans c2)
theorem next_any (b : Nat) (R : Nat → Prop) (T : Nat) (w : World) (h : Cur w b R T) (hT : T < 1000000000) :
 Calls Try.prog 66 #[.pointer (some ⟨b, 0, none⟩)] w (RetCur w b R (T + 1) 256) := by
 obtain ⟨A, n, c, p, z, c0, c1, c2, hp, hr, hq⟩ := h.got
 have hb := h.lt
 have f1 := h.fz 1; have f2 := h.fz 2
 have hn := hr.1
 go_enter Try.func66, Try.ntmps66
 by_cases hlt : p < n
 ·obtain ⟨q, o, rfl, hqb, hc⟩ := hr.2 (by omega)
  obtain ⟨x, hx, d⟩ := hc p hlt
  have hqn := (hq (by omega) q o rfl).2
  go_wp2
  go_quiet (fail)
  go_wp2
  go_quiet (fail)
  go_wp2
  go_quiet (fail)
  go_wp2
  go_ret
  exact ⟨x, hx, rfl, cur_step (c := c) h.fz hb c0 c1 c2 hp hr hq _ _ _⟩
 ·go_wp2
  go_quiet (fail)
  go_wp2
  go_quiet (fail)
  go_wp2
  obtain ⟨v, hv, e⟩ := and255w (IntKind.u64.wrap (IntKind.u64.wrap (IntKind.u64.wrap (z * 6364136223846793005)) + 1442695040888963407) / 1099511627776)
  rw [e]
  go_ret
  exact ⟨v, hv, rfl, cur_step (c := c) h.fz hb c0 c1 c2 hp hr hq _ _ _⟩
def RetPick (w : World) (b : Nat) (R : Nat → Prop) (T : Nat) (n : Int) (e : Ending) (w' : World) : Prop :=
 ∃ v : Nat, ((v : Int) < n ∨ v = 0) ∧ v ≤ 65535 ∧ e = .returned (.int .i64 v) ∧ Cur w' b R T ∧ Alt (fun i => i = b) w w' ∧ w'.heap.size = w.heap.size
theorem emod_nat {x n : Int} (hx : 0 ≤ x) (h : 1 < n) : ∃ v : Nat, ((v : Int) < n ∨ v = 0) ∧ (v : Int) ≤ x ∧ x % n = (v : Int) := by
 have h1 := Int.emod_lt_of_pos x (show 0 < n by omega)
 have h2 := Int.emod_nonneg x (show n ≠ 0 by omega)
 have h3 : x % n ≤ x := by
  have h4 := Int.mul_ediv_add_emod x n
  have h5 : 0 ≤ n * (x / n) := Int.mul_nonneg (by omega) (Int.ediv_nonneg hx (by omega))
  omega
 exact ⟨(x % n).toNat, by omega, by omega, by omega⟩
theorem Zap (n : Int) (b : Nat) (R : Nat → Prop) (T : Nat) (w : World) (h : Cur w b R T) (hT : T < 900000000) (hn : n ≤ 2147483648) :
 Calls Try.prog 40 #[.pointer (some ⟨b, 0, none⟩), .int .i64 n] w (RetPick w b R (T + 2) n) := by
 go_enter Try.func40, Try.ntmps40
 by_cases h1 : n ≤ 1
 ·go_wp2
  go_ret
  exact ⟨0, .inr rfl, by omega, rfl, h.mono (by omega), Alt.refl_ _ _, rfl⟩
 ·have h0 : ¬ n = 0 := by omega
  go_wp2_with fail
  refine (next_any b R T _ h (by omega)).mono ?_
  rintro e w1 ⟨v, hv, rfl, c1, k1, z1⟩
  by_cases h2 : 200 < n
  ·go_wp2_with fail
   refine (next_any b R (T + 1) _ c1 (by omega)).mono ?_
   rintro e w2 ⟨u, hu, rfl, c2, k2, z2⟩
   go_wp2
   obtain ⟨r, hr, hr2, hr3⟩ := emod_nat (x := (v : Int) * 256 + u) (n := n) (by omega) (by omega)
   rw [hr3]
   go_ret
   exact ⟨r, hr, by omega, rfl, c2, k1.trans_ k2 (fun _ _ h => h), by omega⟩
  ·go_wp2
   obtain ⟨r, hr, hr2, hr3⟩ := emod_nat (x := (v : Int)) (n := n) (by omega) (by omega)
   rw [hr3]
   go_ret
   exact ⟨r, hr, by omega, rfl, c1.mono (by omega), k1, z1⟩
def RetOne (w : World) (b : Nat) (R : Nat → Prop) (T : Nat) (e : Ending) (w' : World) : Prop :=
 ∃ t : Bool, e = .returned (.bool t) ∧ Cur w' b R T ∧ Alt (fun i => i = b) w w' ∧ w'.heap.size = w.heap.size
theorem one_any (n : Int) (b : Nat) (R : Nat → Prop) (T : Nat) (w : World) (h : Cur w b R T) (hT : T < 900000000) (hn : n ≤ 2147483648) :
 Calls Try.prog 65 #[.pointer (some ⟨b, 0, none⟩), .int .i64 n] w (RetOne w b R (T + 2)) := by
 go_enter Try.func65, Try.ntmps65
 go_wp2_with fail
 refine (Zap n b R T _ h hT hn).mono ?_
 rintro e w1 ⟨v, hv, hv2, rfl, c1, k1, z1⟩
 go_wp2
 go_ret
 exact ⟨_, rfl, c1, k1, z1⟩
def RetAmong (w : World) (b : Nat) (R : Nat → Prop) (T : Nat) (xs : List Int) (e : Ending) (w' : World) : Prop :=
 ∃ x : Int, x ∈ xs ∧ e = .returned (.int .i64 x) ∧ Cur w' b R T ∧ Alt (fun i => i = b) w w' ∧ w'.heap.size = w.heap.size
theorem among_any (A : Option Addr) (n c : Nat) (xs : List Int) (b : Nat) (R : Nat → Prop) (T : Nat) (w : World) (h : Cur w b R T) (hT : T < 900000000) (hr : RI w A n xs) (hn : 0 < n) (hn2 : n ≤ 2147483648) (hq : ∀ q o, A = some ⟨q, o, none⟩ → q ≠ b) :
 Calls Try.prog 64 #[.pointer (some ⟨b, 0, none⟩), .slice A n c] w (RetAmong w b R (T + 2) xs) := by
 have hl := hr.1
 obtain ⟨q, o, rfl, hqb, hc⟩ := hr.2 hn
 have hq2 := hq q o rfl
 clear hq
 go_enter Try.func64, Try.ntmps64
 go_wp2_with fail
 refine (Zap n b R T _ h hT (by omega)).mono ?_
 rintro e w1 ⟨v, hv, hv2, rfl, c1, k1, z1⟩
 have hvn : v < n := by omega
 have d := k1.cell_ (hc v hvn) hq2
 go_wp2
 go_ret
 exact ⟨_, gi_mem (by omega), rfl, c1, k1, z1⟩
end Go.Proofs.Ytjeojnfpeppclaa
namespace Go.Proofs.Ytjeojnfpeppclaa
open Go.ChangeShapes Go.WideShapes Go.ChangeAt Go.RowKit
set_option linter.unusedVariables false
set_option linter.unusedSimpArgs false
def RY0 (w : World) (A : Option Addr) (n : Nat) : Prop := 0 < n → ∃ b o, A = some ⟨b, o, none⟩ ∧ b < w.heap.size ∧ ∀ i, i < n → ∃ x : Nat, x < 256 ∧ w.cell? ⟨b, o + i, none⟩ = some (.int .u8 x)
theorem RY0.ry {w : World} {A : Option Addr} {n : Nat} (h : RY0 w A n) (hn : n ≤ 2097152) : RY w A n := ⟨hn, h⟩
set_option maxRecDepth 100000 in
theorem RY_of_trod {H : Type} {enc : TypeId × Value → H} {W : World} {base : Nat} {v : Value} {d : DataW H} {p : List MemPlace} (hval : Value.okWide Try.prog W .any base 22 v)
 (h : DataW.Trod enc Try.prog W 0 (fun _ => true) true 22 v d p) : ∃ a n c, v = .slice a n c ∧ RY0 W a n ∧ (n = 0 ∨ ∃ es sp, d = .slice es sp ∧ n ≤ es.length) := by
 obtain ⟨a, n, c, rfl⟩ := okWide_slice Try.underlying22 hval
 obtain ⟨fuel, hf⟩ := h
 refine ⟨a, n, c, rfl, ?_⟩
 rcases open_ints Try.underlying22 Try.underlying5 (by kernel_rfl) hf with ⟨hcs, _⟩ | ⟨x, l, c', zs, hcs, _, hl, hm, hz, hx, hcell, hwz⟩
 ·simp [Value.cells] at hcs
  obtain ⟨rfl, rfl, rfl⟩ := hcs
  exact ⟨fun h => absurd h (by omega), .inl rfl⟩
 ·simp [Value.cells] at hcs
  obtain ⟨rfl, rfl, rfl⟩ := hcs
  simp only [if_true] at hz
  simp only [Prod.mk.injEq] at hx
  refine ⟨fun hn => ?_, .inr ⟨_, _, hx.1, by simp [lits]; omega⟩⟩
  obtain ⟨b, o, spot⟩ := x
  have hc := hcell 0 (by omega)
  have hspot : spot = none := by simpa [Addr.add] using World.cell?_spot hc
  subst hspot
  refine ⟨b, o, rfl, World.block_lt_of_cell? W _ (by simpa [Addr.add] using hc), fun j hj => ?_⟩
  have h1 := hcell j (by omega)
  have h2 : (⟨b, o, none⟩ : Addr).add j = ⟨b, o + j, none⟩ := by
   unfold Addr.add; split
   ·rename_i h; subst h; rfl
   ·rfl
  rw [h2] at h1
  have hr := range_u8 hwz j
  refine ⟨(zs.getD j 0).toNat, ?_, ?_⟩
  ·rw [List.getD_eq_getElem?_getD]; omega
  ·rw [h1, List.getD_eq_getElem?_getD, Int.toNat_of_nonneg hr.1]
end Go.Proofs.Ytjeojnfpeppclaa
namespace Go.Proofs.Ytjeojnfpeppclaa
open Go.RowKit
set_option linter.unusedVariables false
set_option linter.unusedSimpArgs false
theorem info_ints : (Try.prog.info? 34).map (fun i => (i.zero, i.size, i.bytes)) = some (some (.slice none 0 0), 1, 24) := by kernel_rfl
def gl (xss : List (List Int)) (j : Nat) : List Int := xss.getD j []
theorem gl_append_lt {xss yss : List (List Int)} {j : Nat} (h : j < xss.length) : gl (xss ++ yss) j = gl xss j := by
 unfold gl; rw [List.getD_eq_getElem?_getD, List.getD_eq_getElem?_getD, List.getElem?_append_left h]
theorem gl_append_eq {xss : List (List Int)} {ys : List Int} : gl (xss ++ [ys]) xss.length = ys := by simp [gl]
def RII (w : World) (A : Option Addr) (n : Nat) (xss : List (List Int)) : Prop :=
 xss.length = n ∧ (0 < n → ∃ b o, A = some ⟨b, o, none⟩ ∧ b < w.heap.size ∧ ∀ j, j < n → ∃ A' m c', w.cell? ⟨b, o + j, none⟩ = some (.slice A' m c') ∧ RI w A' m (gl xss j))
theorem RII.len {w : World} {A : Option Addr} {n : Nat} {xss : List (List Int)} (h : RII w A n xss) : xss.length = n := h.1
theorem RII.at_ {w : World} {A : Option Addr} {n : Nat} {xss : List (List Int)} {k : Nat} (h : RII w A n xss) (hk : k < n) :
 ∃ b o A' m c', A = some ⟨b, o, none⟩ ∧ b < w.heap.size ∧ w.cell? ⟨b, o + k, none⟩ = some (.slice A' m c') ∧ RI w A' m (gl xss k) := by
 obtain ⟨b, o, hA, hb, hc⟩ := h.2 (by omega)
 obtain ⟨A', m, c', h1, h2⟩ := hc k hk
 exact ⟨b, o, A', m, c', hA, hb, h1, h2⟩
theorem RII.below {w w' : World} {A : Option Addr} {n : Nat} {xss : List (List Int)} (h : RII w A n xss) {B : Nat} (hb : Below B w w') (hB : w.heap.size ≤ B) : RII w' A n xss :=
 ⟨h.1, fun hn => by
  obtain ⟨b, o, hA, hlt, hc⟩ := h.2 hn
  refine ⟨b, o, hA, Nat.lt_of_lt_of_le hlt hb.size, fun j hj => ?_⟩
  obtain ⟨A', m, c', h1, h2⟩ := hc j hj
  exact ⟨A', m, c', (hb.cell (p := ⟨b, o + j, none⟩) (by exact Nat.lt_of_lt_of_le hlt hB)).trans h1, h2.below hb hB⟩⟩
theorem ofInt_i64 {a : Nat} (ha : a < 9223372036854775808) : (BitVec.ofInt 64 (a : Int)).toNat = a := by
 rw [BitVec.ofInt_natCast, BitVec.toNat_ofNat]; exact Nat.mod_eq_of_lt (by omega)
theorem bor_nat {a b : Nat} (ha : a < 4611686018427387904) (hb : b < 4611686018427387904) : bits .or .i64 (a : Int) (b : Int) = ((a ||| b : Nat) : Int) := by
 have hx : a ||| b < 2 ^ 62 := Nat.or_lt_two_pow (by omega) (by omega)
 show IntKind.i64.wrap ((BitVec.ofInt 64 (a : Int) ||| BitVec.ofInt 64 (b : Int)).toNat : Int) = _
 rw [BitVec.toNat_or, ofInt_i64 (by omega), ofInt_i64 (by omega)]
 exact IntWalk.i64_in _ (by omega)
theorem band_nat {a b : Nat} (ha : a < 4611686018427387904) (hb : b < 4611686018427387904) : bits .and .i64 (a : Int) (b : Int) = ((a &&& b : Nat) : Int) := by
 have hx : a &&& b < 2 ^ 62 := Nat.and_lt_two_pow _ (by omega)
 show IntKind.i64.wrap ((BitVec.ofInt 64 (a : Int) &&& BitVec.ofInt 64 (b : Int)).toNat : Int) = _
 rw [BitVec.toNat_and, ofInt_i64 (by omega), ofInt_i64 (by omega)]
 exact IntWalk.i64_in _ (by omega)
theorem and_one (n : Nat) : n &&& 1 = n % 2 := Nat.and_one_is_mod n
theorem or_place {a b i : Nat} (h : a < 2 ^ i) : a ||| (b * 2 ^ i) = a + b * 2 ^ i := by
 rw [Nat.or_comm, ← Nat.shiftLeft_eq, ← Nat.shiftLeft_add_eq_or_of_lt h, Nat.add_comm]
def bitsN (n k : Nat) : List Int := tab k fun i => ((n / 2 ^ i % 2 : Nat) : Int)
theorem Zat (n k : Nat) : (bitsN n k).length = k := tab_len _ _
theorem bitsN_snoc (n k : Nat) : bitsN n (k + 1) = bitsN n k ++ [((n / 2 ^ k % 2 : Nat) : Int)] := tab_snoc _ _
theorem bitsN_bd (n k : Nat) : allB 0 1 (bitsN n k) = true := allB_iff.2 fun x hx => by
 obtain ⟨j, _, rfl⟩ := mem_tab hx; omega
def numN : List Int → Int
 | [] => 0
 | b :: l => b + 2 * numN l
theorem numN_snoc (l : List Int) (b : Int) : numN (l ++ [b]) = numN l + b * 2 ^ l.length := by
 induction l with
 | nil => simp [numN]
 | cons c l ih =>
  simp only [List.cons_append, numN, ih, List.length_cons, Int.pow_succ]
  have : 2 * (b * 2 ^ l.length) = b * (2 ^ l.length * 2) := by rw [Int.mul_comm 2, Int.mul_assoc]
  omega
theorem numN_bd {l : List Int} (h : allB 0 1 l = true) : 0 ≤ numN l ∧ numN l < 2 ^ l.length := by
 induction l with
 | nil => simp [numN]
 | cons c l ih =>
  simp only [allB, List.all_cons, Bool.and_eq_true] at h
  have h1 := inB_iff.1 h.1
  obtain ⟨h2, h3⟩ := ih h.2
  simp only [numN, List.length_cons, Int.pow_succ]
  omega
theorem allB_take_ {lo hi : Int} {l : List Int} (h : allB lo hi l = true) (k : Nat) : allB lo hi (l.take k) = true := allB_iff.2 fun x hx => allB_iff.1 h x (List.mem_of_mem_take hx)
theorem allB_drop_ {lo hi : Int} {l : List Int} (h : allB lo hi l = true) (k : Nat) : allB lo hi (l.drop k) = true := allB_iff.2 fun x hx => allB_iff.1 h x (List.mem_of_mem_drop hx)
theorem pick_bd {lo hi : Int} {l os : List Int} (h : allB lo hi l = true) (ho : allB 0 (l.length - 1) os = true) : allB lo hi (pick l os) = true := allB_iff.2 fun x hx => by
 simp only [pick, List.mem_map] at hx
 obtain ⟨o, hm, rfl⟩ := hx
 have := allB_iff.1 ho o hm
 exact Zbk h (by omega)
theorem valid_f (x y : Int) (Ag : Option Addr) (ng cg : Nat) (Ao : Option Addr) (no co : Nat) (gs : List G3) (os : List Int) (w : World) (hg : RG w Ag ng gs) (ho : RI w Ao no os) (hng : ng ≤ 2097152) (hno : no ≤ 2097152) (hv : circB x y gs os = false) :
 Calls Try.prog 45 #[.agg #[.int .i64 x, .int .i64 y, .slice Ag ng cg, .slice Ao no co]] w fun e w' => e = .returned (.tuple #[.agg #[.int .i64 0, .int .i64 0, .slice none 0 0, .slice none 0 0], .bool false]) ∧ Below w.heap.size w w' := by
 have H0 := zH hv; clear hv
 have hB1 : Below w.heap.size w (w.alloc (.cells #[.int .i64 x, .int .i64 y, .slice Ag ng cg, .slice Ao no co] 43)) := bA
 have hB : Below w.heap.size w ((w.alloc (.cells #[.int .i64 x, .int .i64 y, .slice Ag ng cg, .slice Ao no co] 43)).alloc (.cells #[.int .i64 0, .int .i64 0, .slice none 0 0, .slice none 0 0] 43)) := hB1.alloc (by simp) _
 have hx0 : BxC ((w.alloc (.cells #[.int .i64 x, .int .i64 y, .slice Ag ng cg, .slice Ao no co] 43)).alloc (.cells #[.int .i64 0, .int .i64 0, .slice none 0 0, .slice none 0 0] 43)) w.heap.size x y Ag ng cg Ao no co := (BxC.new w _).below (bA)
 have hr0 : BxC ((w.alloc (.cells #[.int .i64 x, .int .i64 y, .slice Ag ng cg, .slice Ao no co] 43)).alloc (.cells #[.int .i64 0, .int .i64 0, .slice none 0 0, .slice none 0 0] 43)) (w.heap.size + 1) 0 0 none 0 0 none 0 0 := by simpa using BxC.new (x := 0) (y := 0) (Ag := none) (ng := 0) (cg := 0) (Ao := none) (no := 0) (co := 0) (w.alloc (.cells #[.int .i64 x, .int .i64 y, .slice Ag ng cg, .slice Ao no co] 43)) 43
 have f0 : Fz ((w.alloc (.cells #[.int .i64 x, .int .i64 y, .slice Ag ng cg, .slice Ao no co] 43)).alloc (.cells #[.int .i64 0, .int .i64 0, .slice none 0 0, .slice none 0 0] 43)) (w.heap.size + 1) := by simpa using Fz.new (w.alloc (.cells #[.int .i64 x, .int .i64 y, .slice Ag ng cg, .slice Ao no co] 43)) #[.int .i64 0, .int .i64 0, .slice none 0 0, .slice none 0 0] 43
 go_enter Try.func45, Try.ntmps45
 have hq := hx0; obtain ⟨k0, k1, k2, k3⟩ := hq
 go_wp2_with fail
 refine (Zcd x y Ag ng cg Ao no co gs os _ (hg.below hB lR) (ho.below hB lR) hng hno).mono ?_
 rintro e v1 ⟨rfl, hb1⟩
 rw [H0.out]
 have hx1 := hx0.below hb1
 clear k0 k1 k2 k3
 obtain ⟨k0, k1, k2, k3⟩ := hx1
 have hr1 := hr0.below hb1
 have f1 := f0.below hb1 (by simp)
 have hq := hr1; obtain ⟨r0, r1, r2, r3⟩ := hq
 have g0 := f1 0; have g1 := f1 1; have g2 := f1 2; have g3 := f1 3
 have hB2 := hB.trans (hb1.mono hB.size)
 go_wp2
 have hq9 := BxC.set4 (hr1) 0 0 none 0 0 none 0 0
 obtain ⟨q0, q1, q2, q3⟩ := hq9
 refine bodyPost_ret (v := .tuple #[.agg #[.int .i64 0, .int .i64 0, .slice none 0 0, .slice none 0 0], .bool false]) (by simp [results, Try.results45, go_sem, q0, q1, q2, q3]) rfl ?_
 exact ⟨rfl, Zai hB2 (by omega) _ _ _ _ _ _ _ _⟩
theorem ciIf_f (x y : Int) (Ag : Option Addr) (ng cg : Nat) (Ao : Option Addr) (no co : Nat) (gs : List G3) (os : List Int) (w : World) (hg : RG w Ag ng gs) (ho : RI w Ao no os) (hng : ng ≤ 2097152) (hno : no ≤ 2097152) (hv : circB x y gs os = false) :
 Calls Try.prog 50 #[.agg #[.int .i64 x, .int .i64 y, .slice Ag ng cg, .slice Ao no co]] w fun e w' => e = .returned (.tuple #[.agg #[.int .i64 0, .int .i64 0, .slice none 0 0, .slice none 0 0], .bool false]) ∧ Below w.heap.size w w' := by
 have H0 := zH hv; clear hv
 have hB1 : Below w.heap.size w (w.alloc (.cells #[.int .i64 x, .int .i64 y, .slice Ag ng cg, .slice Ao no co] 43)) := bA
 have hB : Below w.heap.size w ((w.alloc (.cells #[.int .i64 x, .int .i64 y, .slice Ag ng cg, .slice Ao no co] 43)).alloc (.cells #[.int .i64 0, .int .i64 0, .slice none 0 0, .slice none 0 0] 43)) := hB1.alloc (by simp) _
 have hx0 : BxC ((w.alloc (.cells #[.int .i64 x, .int .i64 y, .slice Ag ng cg, .slice Ao no co] 43)).alloc (.cells #[.int .i64 0, .int .i64 0, .slice none 0 0, .slice none 0 0] 43)) w.heap.size x y Ag ng cg Ao no co := (BxC.new w _).below (bA)
 have hr0 : BxC ((w.alloc (.cells #[.int .i64 x, .int .i64 y, .slice Ag ng cg, .slice Ao no co] 43)).alloc (.cells #[.int .i64 0, .int .i64 0, .slice none 0 0, .slice none 0 0] 43)) (w.heap.size + 1) 0 0 none 0 0 none 0 0 := by simpa using BxC.new (x := 0) (y := 0) (Ag := none) (ng := 0) (cg := 0) (Ao := none) (no := 0) (co := 0) (w.alloc (.cells #[.int .i64 x, .int .i64 y, .slice Ag ng cg, .slice Ao no co] 43)) 43
 have f0 : Fz ((w.alloc (.cells #[.int .i64 x, .int .i64 y, .slice Ag ng cg, .slice Ao no co] 43)).alloc (.cells #[.int .i64 0, .int .i64 0, .slice none 0 0, .slice none 0 0] 43)) (w.heap.size + 1) := by simpa using Fz.new (w.alloc (.cells #[.int .i64 x, .int .i64 y, .slice Ag ng cg, .slice Ao no co] 43)) #[.int .i64 0, .int .i64 0, .slice none 0 0, .slice none 0 0] 43
 go_enter Try.func50, Try.ntmps50
 have hq := hx0; obtain ⟨k0, k1, k2, k3⟩ := hq
 go_wp2_with fail
 refine (ciGood_any x y Ag ng cg Ao no co gs os _ (hg.below hB lR) (ho.below hB lR) hng hno).mono ?_
 rintro e v1 ⟨rfl, hb1⟩
 rw [H0.out]
 have hx1 := hx0.below hb1
 clear k0 k1 k2 k3
 obtain ⟨k0, k1, k2, k3⟩ := hx1
 have hr1 := hr0.below hb1
 have f1 := f0.below hb1 (by simp)
 have hq := hr1; obtain ⟨r0, r1, r2, r3⟩ := hq
 have g0 := f1 0; have g1 := f1 1; have g2 := f1 2; have g3 := f1 3
 have hB2 := hB.trans (hb1.mono hB.size)
 go_wp2
 have hq9 := BxC.set4 (hr1) 0 0 none 0 0 none 0 0
 obtain ⟨q0, q1, q2, q3⟩ := hq9
 refine bodyPost_ret (v := .tuple #[.agg #[.int .i64 0, .int .i64 0, .slice none 0 0, .slice none 0 0], .bool false]) (by simp [results, Try.results50, go_sem, q0, q1, q2, q3]) rfl ?_
 exact ⟨rfl, Zai hB2 (by omega) _ _ _ _ _ _ _ _⟩
theorem ciIf_t (x y : Int) (Ag : Option Addr) (ng cg : Nat) (Ao : Option Addr) (no co : Nat) (gs : List G3) (os : List Int) (w : World) (hg : RG w Ag ng gs) (ho : RI w Ao no os) (hng : ng ≤ 2097152) (hno : no ≤ 2097152) (hv : circB x y gs os = true) :
 Calls Try.prog 50 #[.agg #[.int .i64 x, .int .i64 y, .slice Ag ng cg, .slice Ao no co]] w fun e w' => e = .returned (.tuple #[.agg #[.int .i64 x, .int .i64 y, .slice Ag ng cg, .slice Ao no co], .bool true]) ∧ Below w.heap.size w w' := by
 have H0 := zH hv; clear hv
 have hB1 : Below w.heap.size w (w.alloc (.cells #[.int .i64 x, .int .i64 y, .slice Ag ng cg, .slice Ao no co] 43)) := bA
 have hB : Below w.heap.size w ((w.alloc (.cells #[.int .i64 x, .int .i64 y, .slice Ag ng cg, .slice Ao no co] 43)).alloc (.cells #[.int .i64 0, .int .i64 0, .slice none 0 0, .slice none 0 0] 43)) := hB1.alloc (by simp) _
 have hx0 : BxC ((w.alloc (.cells #[.int .i64 x, .int .i64 y, .slice Ag ng cg, .slice Ao no co] 43)).alloc (.cells #[.int .i64 0, .int .i64 0, .slice none 0 0, .slice none 0 0] 43)) w.heap.size x y Ag ng cg Ao no co := (BxC.new w _).below (bA)
 have hr0 : BxC ((w.alloc (.cells #[.int .i64 x, .int .i64 y, .slice Ag ng cg, .slice Ao no co] 43)).alloc (.cells #[.int .i64 0, .int .i64 0, .slice none 0 0, .slice none 0 0] 43)) (w.heap.size + 1) 0 0 none 0 0 none 0 0 := by simpa using BxC.new (x := 0) (y := 0) (Ag := none) (ng := 0) (cg := 0) (Ao := none) (no := 0) (co := 0) (w.alloc (.cells #[.int .i64 x, .int .i64 y, .slice Ag ng cg, .slice Ao no co] 43)) 43
 have f0 : Fz ((w.alloc (.cells #[.int .i64 x, .int .i64 y, .slice Ag ng cg, .slice Ao no co] 43)).alloc (.cells #[.int .i64 0, .int .i64 0, .slice none 0 0, .slice none 0 0] 43)) (w.heap.size + 1) := by simpa using Fz.new (w.alloc (.cells #[.int .i64 x, .int .i64 y, .slice Ag ng cg, .slice Ao no co] 43)) #[.int .i64 0, .int .i64 0, .slice none 0 0, .slice none 0 0] 43
 go_enter Try.func50, Try.ntmps50
 have hq := hx0; obtain ⟨k0, k1, k2, k3⟩ := hq
 go_wp2_with fail
 refine (ciGood_any x y Ag ng cg Ao no co gs os _ (hg.below hB lR) (ho.below hB lR) hng hno).mono ?_
 rintro e v1 ⟨rfl, hb1⟩
 rw [H0.out]
 have hx1 := hx0.below hb1
 clear k0 k1 k2 k3
 obtain ⟨k0, k1, k2, k3⟩ := hx1
 have hr1 := hr0.below hb1
 have f1 := f0.below hb1 (by simp)
 have hq := hr1; obtain ⟨r0, r1, r2, r3⟩ := hq
 have g0 := f1 0; have g1 := f1 1; have g2 := f1 2; have g3 := f1 3
 have hB2 := hB.trans (hb1.mono hB.size)
 go_wp2
 have hq9 := BxC.set4 (hr1) x y Ag ng cg Ao no co
 obtain ⟨q0, q1, q2, q3⟩ := hq9
 refine bodyPost_ret (v := .tuple #[.agg #[.int .i64 x, .int .i64 y, .slice Ag ng cg, .slice Ao no co], .bool true]) (by simp [results, Try.results50, go_sem, q0, q1, q2, q3]) rfl ?_
 exact ⟨rfl, Zai hB2 (by omega) _ _ _ _ _ _ _ _⟩
section
variable {w w' : World} {b : Nat} {k a c : Int}
end
end Go.Proofs.Ytjeojnfpeppclaa
