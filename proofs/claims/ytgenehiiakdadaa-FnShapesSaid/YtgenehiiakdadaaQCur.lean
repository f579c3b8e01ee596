/- The reader of choices: a box of a text of bytes, a place and a number. What it answers is any number below the bound; it changes its own box alone. -/
import Derived.Test.YtgenehiiakdadaaQAlt
import Derived.BigQuiet
namespace Go.Proofs.Ytgenehiiakdadaa
open Go.RowKit
set_option linter.unusedVariables false
set_option linter.unusedSimpArgs false

/-- A row of bytes that is read. -/
def RY (w : World) (A : Option Addr) (n : Nat) : Prop := n ≤ 2097152 ∧ (0 < n → ∃ b o, A = some ⟨b, o, none⟩ ∧ b < w.heap.size ∧ ∀ i, i < n → ∃ x : Nat, x < 256 ∧ w.cell? ⟨b, o + i, none⟩ = some (.int .u8 x))
theorem RY.alt {S : Nat → Prop} {w w' : World} {A : Option Addr} {n : Nat} (h : RY w A n) (k : Alt S w w') (hs : 0 < n → ∀ b o, A = some ⟨b, o, none⟩ → ¬ S b) : RY w' A n :=
  ⟨h.1, fun hn => by
    obtain ⟨b, o, hA, hlt, hc⟩ := h.2 hn
    exact ⟨b, o, hA, Nat.lt_of_lt_of_le hlt k.size, fun j hj => by
      obtain ⟨x, hx, h1⟩ := hc j hj
      exact ⟨x, hx, k.cell_ h1 (hs hn b o hA)⟩⟩⟩
/-- A reader in block b, its place at most T; its text lies in a block of R alone. -/
structure Cur (w : World) (b : Nat) (R : Nat → Prop) (T : Nat) : Prop where
  fz : Fz w b
  lt : b < w.heap.size
  got : ∃ (A : Option Addr) (n c p : Nat) (z : Int), w.cell? ⟨b, 0, none⟩ = some (.slice A n c) ∧ w.cell? ⟨b, 1, none⟩ = some (.int .i64 p) ∧ w.cell? ⟨b, 2, none⟩ = some (.int .u64 z) ∧ p ≤ T ∧ RY w A n ∧ (0 < n → ∀ q o, A = some ⟨q, o, none⟩ → R q ∧ q ≠ b)
theorem Cur.alt {S R : Nat → Prop} {w w' : World} {b T : Nat} (h : Cur w b R T) (k : Alt S w w') (hb : ¬ S b) (hs : ∀ i, R i → ¬ S i) : Cur w' b R T := by
  obtain ⟨A, n, c, p, z, c0, c1, c2, hp, hr, hq⟩ := h.got
  exact ⟨h.fz.alt k h.lt hb, Nat.lt_of_lt_of_le h.lt k.size, A, n, c, p, z, k.cell_ c0 hb, k.cell_ c1 hb, k.cell_ c2 hb, hp, hr.alt k (fun hn q o hA => hs q (hq hn q o hA).1), hq⟩
theorem Cur.mono {R : Nat → Prop} {w : World} {b T U : Nat} (h : Cur w b R T) (hT : T ≤ U) : Cur w b R U := by
  obtain ⟨A, n, c, p, z, c0, c1, c2, hp, hr⟩ := h.got
  exact ⟨h.fz, h.lt, A, n, c, p, z, c0, c1, c2, by omega, hr⟩
/-- A number below m; the reader's box alone is another. -/
def RetCur (w : World) (b : Nat) (R : Nat → Prop) (T m : Nat) (e : Ending) (w' : World) : Prop :=
  ∃ v : Nat, v < m ∧ e = .returned (.int .i64 v) ∧ Cur w' b R T ∧ Alt (fun i => i = b) w w' ∧ w'.heap.size = w.heap.size
/-- The low bits of what a shift leaves. -/
theorem and255 (x : Int) : ∃ v : Nat, v < 256 ∧ bits .and .u64 x 255 = (v : Int) := by
  refine ⟨(BitVec.ofInt 64 x &&& BitVec.ofInt 64 255).toNat, ?_, ?_⟩
  · have h : (BitVec.ofInt 64 x &&& BitVec.ofInt 64 255).toNat ≤ (BitVec.ofInt 64 255).toNat := by
      rw [BitVec.toNat_and]; exact Nat.and_le_right
    have h2 : (BitVec.ofInt 64 255).toNat = 255 := by decide
    omega
  · show IntKind.u64.wrap ((BitVec.ofInt 64 x &&& BitVec.ofInt 64 255).toNat : Int) = _
    have h : (BitVec.ofInt 64 x &&& BitVec.ofInt 64 255).toNat < 2 ^ 64 := BitVec.isLt _
    rw [IntKind.wrap_u64]; omega

theorem and255w (x : Int) : ∃ v : Nat, v < 256 ∧ wrap64 (bits .and .u64 x 255) = (v : Int) := by
  obtain ⟨v, hv, e⟩ := and255 x
  refine ⟨v, hv, ?_⟩
  rw [e]; unfold wrap64; omega
/-- The stores of a step. -/
theorem cur_step {w : World} {b : Nat} {R : Nat → Prop} {T n c p : Nat} {A : Option Addr} {z : Int} (hf : Fz w b) (hb : b < w.heap.size) (c0 : w.cell? ⟨b, 0, none⟩ = some (.slice A n c)) (c1 : w.cell? ⟨b, 1, none⟩ = some (.int .i64 p)) (c2 : w.cell? ⟨b, 2, none⟩ = some (.int .u64 z)) (hp : p ≤ T) (hr : RY w A n) (hq : 0 < n → ∀ q o, A = some ⟨q, o, none⟩ → R q ∧ q ≠ b) (y : Int) (k m : Nat) :
    Cur ((((w.drewN k).setCell ⟨b, 1, none⟩ (.int .i64 ((p : Int) + 1))).setCell ⟨b, 2, none⟩ (.int .u64 y)).drewN m) b R (T + 1)
    ∧ Alt (fun i => i = b) w ((((w.drewN k).setCell ⟨b, 1, none⟩ (.int .i64 ((p : Int) + 1))).setCell ⟨b, 2, none⟩ (.int .u64 y)).drewN m)
    ∧ ((((w.drewN k).setCell ⟨b, 1, none⟩ (.int .i64 ((p : Int) + 1))).setCell ⟨b, 2, none⟩ (.int .u64 y)).drewN m).heap.size = w.heap.size := by
  have hA : Alt (fun i => i = b) w ((((w.drewN k).setCell ⟨b, 1, none⟩ (.int .i64 ((p : Int) + 1))).setCell ⟨b, 2, none⟩ (.int .u64 y)).drewN m) :=
    ((((Alt.refl_ (fun i => i = b) w).drewN_ k).set_ ⟨b, 1, none⟩ _ (fun _ => rfl)).set_ ⟨b, 2, none⟩ _ (fun _ => rfl)).drewN_ m
  refine ⟨⟨fun q => ?_, Nat.lt_of_lt_of_le hb hA.size, A, n, c, p + 1, y, ?_, ?_, ?_, by omega, hr.alt hA (fun hn q o h => (hq hn q o h).2), hq⟩, hA, by simp⟩
  · rw [World.frozen?_drewN, World.frozen?_setCell, World.frozen?_setCell]; exact hf q
  · rw [World.cell?_drewN, World.cell?_setCell_other _ _ _ _ (by simp), World.cell?_setCell_other _ _ _ _ (by simp)]; exact c0
  · rw [World.cell?_drewN, World.cell?_setCell_other _ _ _ _ (by simp), World.cell?_setCell_same (w.drewN k) ⟨b, 1, none⟩ _ c1]; rfl
  · exact World.cell?_setCell_same _ _ _ ((World.cell?_setCell_other _ _ _ _ (by simp)).trans c2)

theorem next_any (b : Nat) (R : Nat → Prop) (T : Nat) (w : World) (h : Cur w b R T) (hT : T < 1000000000) :
    Calls Try.prog 66 #[.pointer (some ⟨b, 0, none⟩)] w (RetCur w b R (T + 1) 256) := by
  obtain ⟨A, n, c, p, z, c0, c1, c2, hp, hr, hq⟩ := h.got
  have hb := h.lt
  have f1 := h.fz 1; have f2 := h.fz 2
  have hn := hr.1
  go_enter Try.func66, Try.ntmps66
  by_cases hlt : p < n
  · obtain ⟨q, o, rfl, hqb, hc⟩ := hr.2 (by omega)
    obtain ⟨x, hx, d⟩ := hc p hlt
    have hqn := (hq (by omega) q o rfl).2
    go_wp2
    go_quiet (fail)
    go_wp2
    go_quiet (fail)
    go_wp2
    go_quiet (fail)
    go_wp2
    go_ret
    exact ⟨x, hx, rfl, cur_step (c := c) h.fz hb c0 c1 c2 hp hr hq _ _ _⟩
  · go_wp2
    go_quiet (fail)
    go_wp2
    go_quiet (fail)
    go_wp2
    obtain ⟨v, hv, e⟩ := and255w (IntKind.u64.wrap (IntKind.u64.wrap (IntKind.u64.wrap (z * 6364136223846793005)) + 1442695040888963407) / 1099511627776)
    rw [e]
    go_ret
    exact ⟨v, hv, rfl, cur_step (c := c) h.fz hb c0 c1 c2 hp hr hq _ _ _⟩

/-- A number from nought to n - 1, or nought. -/
def RetPick (w : World) (b : Nat) (R : Nat → Prop) (T : Nat) (n : Int) (e : Ending) (w' : World) : Prop :=
  ∃ v : Nat, ((v : Int) < n ∨ v = 0) ∧ v ≤ 65535 ∧ e = .returned (.int .i64 v) ∧ Cur w' b R T ∧ Alt (fun i => i = b) w w' ∧ w'.heap.size = w.heap.size
theorem emod_nat {x n : Int} (hx : 0 ≤ x) (h : 1 < n) : ∃ v : Nat, ((v : Int) < n ∨ v = 0) ∧ (v : Int) ≤ x ∧ x % n = (v : Int) := by
  have h1 := Int.emod_lt_of_pos x (show 0 < n by omega)
  have h2 := Int.emod_nonneg x (show n ≠ 0 by omega)
  have h3 : x % n ≤ x := by
    have h4 := Int.mul_ediv_add_emod x n
    have h5 : 0 ≤ n * (x / n) := Int.mul_nonneg (by omega) (Int.ediv_nonneg hx (by omega))
    omega
  exact ⟨(x % n).toNat, by omega, by omega, by omega⟩
theorem pick_any (n : Int) (b : Nat) (R : Nat → Prop) (T : Nat) (w : World) (h : Cur w b R T) (hT : T < 900000000) (hn : n ≤ 2147483648) :
    Calls Try.prog 44 #[.pointer (some ⟨b, 0, none⟩), .int .i64 n] w (RetPick w b R (T + 2) n) := by
  go_enter Try.func44, Try.ntmps44
  by_cases h1 : n ≤ 1
  · go_wp2
    go_ret
    exact ⟨0, .inr rfl, by omega, rfl, h.mono (by omega), Alt.refl_ _ _, rfl⟩
  · have h0 : ¬ n = 0 := by omega
    go_wp2_with fail
    refine (next_any b R T _ h (by omega)).mono ?_
    rintro e w1 ⟨v, hv, rfl, c1, k1, z1⟩
    by_cases h2 : 200 < n
    · go_wp2_with fail
      refine (next_any b R (T + 1) _ c1 (by omega)).mono ?_
      rintro e w2 ⟨u, hu, rfl, c2, k2, z2⟩
      go_wp2
      obtain ⟨r, hr, hr2, hr3⟩ := emod_nat (x := (v : Int) * 256 + u) (n := n) (by omega) (by omega)
      rw [hr3]
      go_ret
      exact ⟨r, hr, by omega, rfl, c2, k1.trans_ k2 (fun _ _ h => h), by omega⟩
    · go_wp2
      obtain ⟨r, hr, hr2, hr3⟩ := emod_nat (x := (v : Int)) (n := n) (by omega) (by omega)
      rw [hr3]
      go_ret
      exact ⟨r, hr, by omega, rfl, c1.mono (by omega), k1, z1⟩

/-- A bool. -/
def RetOne (w : World) (b : Nat) (R : Nat → Prop) (T : Nat) (e : Ending) (w' : World) : Prop :=
  ∃ t : Bool, e = .returned (.bool t) ∧ Cur w' b R T ∧ Alt (fun i => i = b) w w' ∧ w'.heap.size = w.heap.size
theorem one_any (n : Int) (b : Nat) (R : Nat → Prop) (T : Nat) (w : World) (h : Cur w b R T) (hT : T < 900000000) (hn : n ≤ 2147483648) :
    Calls Try.prog 60 #[.pointer (some ⟨b, 0, none⟩), .int .i64 n] w (RetOne w b R (T + 2)) := by
  go_enter Try.func60, Try.ntmps60
  go_wp2_with fail
  refine (pick_any n b R T _ h hT hn).mono ?_
  rintro e w1 ⟨v, hv, hv2, rfl, c1, k1, z1⟩
  go_wp2
  go_ret
  exact ⟨_, rfl, c1, k1, z1⟩

/-- One of a row's numbers. -/
def RetAmong (w : World) (b : Nat) (R : Nat → Prop) (T : Nat) (xs : List Int) (e : Ending) (w' : World) : Prop :=
  ∃ x : Int, x ∈ xs ∧ e = .returned (.int .i64 x) ∧ Cur w' b R T ∧ Alt (fun i => i = b) w w' ∧ w'.heap.size = w.heap.size
theorem among_any (A : Option Addr) (n c : Nat) (xs : List Int) (b : Nat) (R : Nat → Prop) (T : Nat) (w : World) (h : Cur w b R T) (hT : T < 900000000) (hr : RI w A n xs) (hn : 0 < n) (hn2 : n ≤ 2147483648) (hq : ∀ q o, A = some ⟨q, o, none⟩ → q ≠ b) :
    Calls Try.prog 45 #[.pointer (some ⟨b, 0, none⟩), .slice A n c] w (RetAmong w b R (T + 2) xs) := by
  have hl := hr.1
  obtain ⟨q, o, rfl, hqb, hc⟩ := hr.2 hn
  have hq2 := hq q o rfl
  clear hq
  go_enter Try.func45, Try.ntmps45
  go_wp2_with fail
  refine (pick_any n b R T _ h hT (by omega)).mono ?_
  rintro e w1 ⟨v, hv, hv2, rfl, c1, k1, z1⟩
  have hvn : v < n := by omega
  have d := k1.cell_ (hc v hvn) hq2
  go_wp2
  go_ret
  exact ⟨_, gi_mem (by omega), rfl, c1, k1, z1⟩

end Go.Proofs.Ytgenehiiakdadaa
