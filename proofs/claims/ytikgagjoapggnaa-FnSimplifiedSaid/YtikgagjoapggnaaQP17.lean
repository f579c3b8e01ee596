/- SimplifyCircuit: what it returns, in plain words. No program. A maker whose outs are any slice. Lengths below 2^21. Rows of records of the call's own (what wires become), beside a maker whose outs may grow. Lengths below 2^21. -/
import Derived.Test.YtikgagjoapggnaaQP16
import Derived.Test.YtikgagjoapggnaaQP05
import Derived.Test.YtikgagjoapggnaaQP07
namespace Go.Proofs.Ytikgagjoapggnaa
open Go.RowKit
set_option linter.unusedVariables false
set_option linter.unusedSimpArgs false
structure Tb where
  c : Bool
  w : Int
  t : Bool
def tt (l : List Tb) (j : Nat) : Tb := l.getD j ⟨true, 0, false⟩
theorem tt_append_l {xs ys : List Tb} {j : Nat} (h : j < xs.length) : tt (xs ++ ys) j = tt xs j := by
  unfold tt; rw [List.getD_eq_getElem?_getD, List.getD_eq_getElem?_getD, List.getElem?_append_left h]
theorem tt_append_r (xs : List Tb) (v : Tb) : tt (xs ++ [v]) xs.length = v := by
  unfold tt; simp
def Tb.by_ (x : Tb) (b : Bool) : Tb := ⟨x.c, x.w, x.t != b⟩
def onceG (gs : List G3) (g : G3) : List G3 := if same1 gs g < gs.length then gs else gs ++ [g]
def onceW (X : Nat) (gs : List G3) (g : G3) : Int := (X : Int) + (same1 gs g : Nat)
def made1 (X : Nat) (gs : List G3) (x : Tb) : List G3 × Int := if x.c then (onceG gs ⟨3, 0, 0⟩, onceW X gs ⟨3, 0, 0⟩) else (gs, x.w)
def made2 (X : Nat) (s : List G3 × Int) (t : Bool) : List G3 × Int := if t then (onceG s.1 ⟨2, s.2, 0⟩, onceW X s.1 ⟨2, s.2, 0⟩) else s
def made (X : Nat) (gs : List G3) (x : Tb) : List G3 × Int := made2 X (made1 X gs x) x.t
def xorT (X : Nat) (gs : List G3) (x y : Tb) : List G3 × Tb :=
  if x.c then (gs, y.by_ (!x.t)) else if y.c then (gs, x.by_ (!y.t)) else if x.w = y.w then (gs, ⟨true, 0, x.t == y.t⟩)
  else (onceG gs ⟨0, x.w, y.w⟩, ⟨false, onceW X gs ⟨0, x.w, y.w⟩, x.t != y.t⟩)
def andG (X : Nat) (gs : List G3) (x y : Tb) : List G3 × Tb :=
  (onceG (made X (made X gs x).1 y).1 ⟨1, (made X gs x).2, (made X (made X gs x).1 y).2⟩, ⟨false, onceW X (made X (made X gs x).1 y).1 ⟨1, (made X gs x).2, (made X (made X gs x).1 y).2⟩, false⟩)
def andT (X : Nat) (gs : List G3) (x y : Tb) : List G3 × Tb :=
  if (x.c && x.t) || (y.c && y.t) then (gs, ⟨true, 0, true⟩) else if x.c then (gs, y) else if y.c then (gs, x)
  else if x.w = y.w then (if x.t = y.t then (gs, x) else (gs, ⟨true, 0, true⟩)) else andG X gs x y
def gateT (X : Nat) (gs : List G3) (l : List Tb) (g : G3) : List G3 × Tb :=
  if g.k = 0 then xorT X gs (tt l g.a.toNat) (tt l g.b.toNat) else if g.k = 1 then andT X gs (tt l g.a.toNat) (tt l g.b.toNat)
  else if g.k = 2 then (gs, (tt l g.a.toNat).by_ true) else (gs, ⟨true, 0, false⟩)
def wiresT (X : Nat) : List Tb := (List.range X).map fun i : Nat => ⟨false, (i : Int), false⟩
def smp (X : Nat) (gs : List G3) : Nat → List G3 × List Tb
  | 0 => ([], wiresT X)
  | k + 1 => ((gateT X (smp X gs k).1 (smp X gs k).2 (gg gs k)).1, (smp X gs k).2 ++ [(gateT X (smp X gs k).1 (smp X gs k).2 (gg gs k)).2])
def smo (X : Nat) (g0 : List G3) (l : List Tb) (os : List Int) : Nat → List G3 × List Int
  | 0 => (g0, [])
  | k + 1 => ((made X (smo X g0 l os k).1 (tt l (gi os k).toNat)).1, (smo X g0 l os k).2 ++ [(made X (smo X g0 l os k).1 (tt l (gi os k).toNat)).2])
theorem wiresT_len (X : Nat) : (wiresT X).length = X := by simp [wiresT]
theorem wiresT_snoc (X : Nat) : wiresT (X + 1) = wiresT X ++ [⟨false, (X : Int), false⟩] := by simp [wiresT, List.range_succ]
theorem wiresT_at {X j : Nat} (h : j < X) : tt (wiresT X) j = ⟨false, (j : Int), false⟩ := by
  unfold tt wiresT; simp [h]
theorem smp_len (X : Nat) (gs : List G3) (k : Nat) : (smp X gs k).2.length = X + k := by
  induction k with
  | zero => exact wiresT_len X
  | succ k ih => simp [smp, ih]; omega
theorem smo_len (X : Nat) (g0 : List G3) (l : List Tb) (os : List Int) (k : Nat) : (smo X g0 l os k).2.length = k := by
  induction k with
  | zero => rfl
  | succ k ih => simp [smo, ih]
def GsOk (X : Nat) (gs : List G3) : Prop := ∀ j : Nat, j < gs.length → GateIs (gg gs j) ((X : Int) + j)
def TbOk (n : Int) (x : Tb) : Prop := x.c = false → 0 ≤ x.w ∧ x.w < n
theorem TbOk.mono {n m : Int} {x : Tb} (h : TbOk n x) (hm : n ≤ m) : TbOk m x := fun hc => by have := h hc; omega
theorem TbOk.by_ {n : Int} {x : Tb} (h : TbOk n x) (b : Bool) : TbOk n (x.by_ b) := h
theorem TbOk.const (n : Int) (t : Bool) : TbOk n ⟨true, 0, t⟩ := fun h => by cases h
theorem GsOk.nil (X : Nat) : GsOk X [] := fun j hj => by simp at hj
theorem GsOk.snoc {X : Nat} {gs : List G3} {g : G3} (h : GsOk X gs) (hg : GateIs g ((X : Int) + gs.length)) : GsOk X (gs ++ [g]) := fun j hj => by
  rcases Nat.lt_or_ge j gs.length with h1 | h1
  · rw [gg_append_l h1]; exact h j h1
  · have hj' : j = gs.length := by simp at hj; omega
    subst hj'; rw [gg_append_r]; exact hg
theorem onceG_le (gs : List G3) (g : G3) : gs.length ≤ (onceG gs g).length ∧ (onceG gs g).length ≤ gs.length + 1 := by
  unfold onceG; split <;> simp
theorem onceG_ok {X : Nat} {gs : List G3} {g : G3} (h : GsOk X gs) (hg : GateIs g ((X : Int) + gs.length)) : GsOk X (onceG gs g) := by
  unfold onceG; split
  · exact h
  · exact h.snoc hg
theorem onceW_bd (X : Nat) (gs : List G3) (g : G3) : 0 ≤ onceW X gs g ∧ onceW X gs g < (X : Int) + (onceG gs g).length := by
  unfold onceW onceG
  have := same1_le gs g
  split
  · omega
  · simp; omega
theorem gate_one (n : Int) : GateIs ⟨3, 0, 0⟩ n := .one_ rfl rfl rfl
theorem gate_not {n a : Int} (h0 : 0 ≤ a) (h1 : a < n) : GateIs ⟨2, a, 0⟩ n := .not_ rfl h0 h1 rfl
theorem gate_xor {n a b : Int} (h0 : 0 ≤ a) (h1 : a < n) (h2 : 0 ≤ b) (h3 : b < n) : GateIs ⟨0, a, b⟩ n := .xor_ rfl h0 h1 h2 h3
theorem gate_and {n a b : Int} (h0 : 0 ≤ a) (h1 : a < n) (h2 : 0 ≤ b) (h3 : b < n) : GateIs ⟨1, a, b⟩ n := .and_ rfl h0 h1 h2 h3
def StOk (X : Nat) (s : List G3 × Int) : Prop := GsOk X s.1 ∧ 0 ≤ s.2 ∧ s.2 < (X : Int) + s.1.length
theorem made1_ok {X : Nat} {gs : List G3} {x : Tb} (h : GsOk X gs) (hx : TbOk ((X : Int) + gs.length) x) : StOk X (made1 X gs x) ∧ gs.length ≤ (made1 X gs x).1.length ∧ (made1 X gs x).1.length ≤ gs.length + 1 := by
  unfold made1 StOk; split
  · exact ⟨⟨onceG_ok h (gate_one _), onceW_bd X gs _⟩, onceG_le gs _⟩
  · rename_i hc
    exact ⟨⟨h, hx (by simpa using hc)⟩, Nat.le_refl _, by simp⟩
theorem made2_ok {X : Nat} {s : List G3 × Int} {t : Bool} (h : StOk X s) : StOk X (made2 X s t) ∧ s.1.length ≤ (made2 X s t).1.length ∧ (made2 X s t).1.length ≤ s.1.length + 1 := by
  unfold made2; split
  · exact ⟨⟨onceG_ok h.1 (gate_not h.2.1 h.2.2), onceW_bd X s.1 _⟩, onceG_le s.1 _⟩
  · exact ⟨h, Nat.le_refl _, by omega⟩
theorem made_ok {X : Nat} {gs : List G3} {x : Tb} (h : GsOk X gs) (hx : TbOk ((X : Int) + gs.length) x) : StOk X (made X gs x) ∧ gs.length ≤ (made X gs x).1.length ∧ (made X gs x).1.length ≤ gs.length + 2 := by
  obtain ⟨h1, h2, h3⟩ := made1_ok h hx
  obtain ⟨h4, h5, h6⟩ := made2_ok (t := x.t) h1
  exact ⟨h4, by unfold made; omega, by unfold made; omega⟩
def NxOk (X : Nat) (n : Nat) (r : List G3 × Tb) : Prop := GsOk X r.1 ∧ TbOk ((X : Int) + r.1.length) r.2 ∧ n ≤ r.1.length ∧ r.1.length ≤ n + 5
theorem xorT_ok {X : Nat} {gs : List G3} {x y : Tb} (h : GsOk X gs) (hx : TbOk ((X : Int) + gs.length) x) (hy : TbOk ((X : Int) + gs.length) y) : NxOk X gs.length (xorT X gs x y) := by
  unfold xorT NxOk
  split
  · exact ⟨h, hy.by_ _, Nat.le_refl _, by simp⟩
  · split
    · exact ⟨h, hx.by_ _, Nat.le_refl _, by simp⟩
    · split
      · exact ⟨h, TbOk.const _ _, Nat.le_refl _, by simp⟩
      · rename_i h1 h2 h3
        have bx := hx (by simpa using h1)
        have hby := hy (by simpa using h2)
        have hl := onceG_le gs ⟨0, x.w, y.w⟩
        exact ⟨onceG_ok h (gate_xor bx.1 bx.2 hby.1 hby.2), fun _ => onceW_bd X gs _, hl.1, by show (onceG gs ⟨0, x.w, y.w⟩).length ≤ _; omega⟩
theorem andG_ok {X : Nat} {gs : List G3} {x y : Tb} (h : GsOk X gs) (hx : TbOk ((X : Int) + gs.length) x) (hy : TbOk ((X : Int) + gs.length) y) : NxOk X gs.length (andG X gs x y) := by
  obtain ⟨⟨a1, a2, a3⟩, a4, a5⟩ := made_ok h hx
  obtain ⟨⟨b1, b2, b3⟩, b4, b5⟩ := made_ok a1 (hy.mono (by omega))
  have hl := onceG_le (made X (made X gs x).1 y).1 ⟨1, (made X gs x).2, (made X (made X gs x).1 y).2⟩
  unfold andG NxOk
  exact ⟨onceG_ok b1 (gate_and a2 (by omega) b2 b3), fun _ => onceW_bd X _ _, by dsimp only; omega, by dsimp only; omega⟩
theorem andT_ok {X : Nat} {gs : List G3} {x y : Tb} (h : GsOk X gs) (hx : TbOk ((X : Int) + gs.length) x) (hy : TbOk ((X : Int) + gs.length) y) : NxOk X gs.length (andT X gs x y) := by
  unfold andT
  split
  · exact ⟨h, TbOk.const _ _, Nat.le_refl _, by simp⟩
  · split
    · exact ⟨h, hy, Nat.le_refl _, by simp⟩
    · split
      · exact ⟨h, hx, Nat.le_refl _, by simp⟩
      · split
        · split
          · exact ⟨h, hx, Nat.le_refl _, by simp⟩
          · exact ⟨h, TbOk.const _ _, Nat.le_refl _, by simp⟩
        · exact andG_ok h hx hy
theorem gateT_ok {X : Nat} {gs : List G3} {l : List Tb} {g : G3} {n : Nat} (h : GsOk X gs) (hl : ∀ j : Nat, j < n → TbOk ((X : Int) + gs.length) (tt l j)) (hg : GateIs g n) : NxOk X gs.length (gateT X gs l g) := by
  obtain ⟨gk, ga, gb⟩ := g
  unfold gateT
  cases hg with
  | xor_ hk a0 a1 b0 b1 => dsimp only at *; subst hk; rw [if_pos rfl]; exact xorT_ok h (hl _ (by omega)) (hl _ (by omega))
  | and_ hk a0 a1 b0 b1 => dsimp only at *; subst hk; rw [if_neg (by decide), if_pos rfl]; exact andT_ok h (hl _ (by omega)) (hl _ (by omega))
  | not_ hk a0 a1 b0 => dsimp only at *; subst hk; rw [if_neg (by decide), if_neg (by decide), if_pos rfl]; exact ⟨h, (hl _ (by omega)).by_ _, Nat.le_refl _, by simp⟩
  | one_ hk a0 b0 => dsimp only at *; subst hk; rw [if_neg (by decide), if_neg (by decide), if_neg (by decide)]; exact ⟨h, TbOk.const _ _, Nat.le_refl _, by simp⟩
structure SmOk (X k : Nat) (s : List G3 × List Tb) : Prop where
  ok : GsOk X s.1
  le : s.1.length ≤ 5 * k
  tb : ∀ j : Nat, j < X + k → TbOk ((X : Int) + s.1.length) (tt s.2 j)
theorem smp_ok {X : Nat} {gs : List G3} {m : Nat} (hg : ∀ k : Nat, k < m → GateIs (gg gs k) ((X : Int) + k)) : ∀ k : Nat, k ≤ m → SmOk X k (smp X gs k) := by
  intro k
  induction k with
  | zero => intro _; exact ⟨GsOk.nil X, by simp [smp], fun j hj => by
      rw [show (smp X gs 0).2 = wiresT X from rfl, wiresT_at (by omega)]; intro _; dsimp only; omega⟩
  | succ k ih =>
    intro hk
    obtain ⟨h1, h2, h3⟩ := ih (by omega)
    have hgk := hg k (by omega)
    obtain ⟨g1, g2, g3, g4⟩ := gateT_ok (n := X + k) h1 h3 (by rw [show ((X + k : Nat) : Int) = (X : Int) + k by omega]; exact hgk)
    have hl := smp_len X gs k
    refine ⟨g1, by show (gateT X (smp X gs k).1 (smp X gs k).2 (gg gs k)).1.length ≤ _; omega, fun j hj => ?_⟩
    show TbOk ((X : Int) + (gateT X (smp X gs k).1 (smp X gs k).2 (gg gs k)).1.length) (tt ((smp X gs k).2 ++ [(gateT X (smp X gs k).1 (smp X gs k).2 (gg gs k)).2]) j)
    rcases Nat.lt_or_ge j (X + k) with h | h
    · rw [tt_append_l (by omega)]; exact (h3 j h).mono (by omega)
    · obtain rfl : j = (smp X gs k).2.length := by omega
      rw [tt_append_r]; exact g2
structure SoOk (X k n0 : Nat) (s : List G3 × List Int) : Prop where
  ok : GsOk X s.1
  le : n0 ≤ s.1.length ∧ s.1.length ≤ n0 + 2 * k
  out : ∀ j : Nat, j < k → 0 ≤ gi s.2 j ∧ gi s.2 j < (X : Int) + s.1.length
theorem smo_ok {X N : Nat} {g0 : List G3} {l : List Tb} {os : List Int} (h0 : GsOk X g0) (hl : ∀ j : Nat, j < N → TbOk ((X : Int) + g0.length) (tt l j)) (ho : ∀ j : Nat, j < os.length → 0 ≤ gi os j ∧ gi os j < N) : ∀ k : Nat, k ≤ os.length → SoOk X k g0.length (smo X g0 l os k) := by
  intro k
  induction k with
  | zero => intro _; exact ⟨h0, ⟨Nat.le_refl _, by simp [smo]⟩, fun j hj => by omega⟩
  | succ k ih =>
    intro hk
    obtain ⟨h1, h2, h3⟩ := ih (by omega)
    have hb := ho k (by omega)
    obtain ⟨⟨m1, m2, m3⟩, m4, m5⟩ := made_ok h1 ((hl (gi os k).toNat (by omega)).mono (by omega))
    have hs := smo_len X g0 l os k
    refine ⟨m1, by show _ ≤ (made X (smo X g0 l os k).1 (tt l (gi os k).toNat)).1.length ∧ (made X (smo X g0 l os k).1 (tt l (gi os k).toNat)).1.length ≤ _; omega, fun j hj => ?_⟩
    show 0 ≤ gi ((smo X g0 l os k).2 ++ [(made X (smo X g0 l os k).1 (tt l (gi os k).toNat)).2]) j ∧ gi ((smo X g0 l os k).2 ++ [(made X (smo X g0 l os k).1 (tt l (gi os k).toNat)).2]) j < (X : Int) + (made X (smo X g0 l os k).1 (tt l (gi os k).toNat)).1.length
    rcases Nat.lt_or_ge j k with h | h
    · rw [gi_append_l (by omega)]; have := h3 j h; omega
    · obtain rfl : j = (smo X g0 l os k).2.length := by omega
      rw [gi_append_r]; exact ⟨m2, m3⟩
def smpG (X : Nat) (gs : List G3) (os : List Int) : List G3 × List Int := smo X (smp X gs gs.length).1 (smp X gs gs.length).2 os os.length
def smpD (X : Nat) (gs : List G3) (os : List Int) : List G3 × List Int := ((drp X (smpG X gs os).1 (usedL X (smpG X gs os).1 (smpG X gs os).2) (smpG X gs os).1.length).1, pick (drp X (smpG X gs os).1 (usedL X (smpG X gs os).1 (smpG X gs os).2) (smpG X gs os).1.length).2 (smpG X gs os).2)
def simpF (x y : Int) (gs : List G3) (os : List Int) : Option Ci :=
  if circB x y gs os then (if circB x y (smpD (x + y).toNat gs os).1 (smpD (x + y).toNat gs os).2 then some ⟨x, y, (smpD (x + y).toNat gs os).1, (smpD (x + y).toNat gs os).2⟩ else none) else none
theorem simpF_len (x y : Int) (gs : List G3) (os : List Int) : ((simpF x y gs os).getD ⟨0, 0, [], []⟩).gs.length ≤ 300 ∧ ((simpF x y gs os).getD ⟨0, 0, [], []⟩).os.length ≤ 40 := by
  unfold simpF
  split
  · split
    · rename_i h
      have h1 := circB_bd h
      simp only [Option.getD_some]; omega
    · simp
  · simp
theorem sameG_comm (o g : G3) : sameG o g = sameG g o := by
  obtain ⟨ok, oa, ob⟩ := o
  obtain ⟨gk, ga, gb⟩ := g
  unfold sameG
  rw [Bool.eq_iff_iff]
  simp only [Bool.and_eq_true, Bool.or_eq_true, beq_iff_eq]
  constructor
  · rintro ⟨rfl, h⟩
    refine ⟨rfl, ?_⟩
    rcases h with ⟨rfl, rfl⟩ | ⟨hk, rfl, rfl⟩
    · exact .inl ⟨rfl, rfl⟩
    · exact .inr ⟨hk, rfl, rfl⟩
  · rintro ⟨rfl, h⟩
    refine ⟨rfl, ?_⟩
    rcases h with ⟨rfl, rfl⟩ | ⟨hk, rfl, rfl⟩
    · exact .inl ⟨rfl, rfl⟩
    · exact .inr ⟨hk, rfl, rfl⟩
def sW (x : Tb) : Int := if x.c then -1 else x.w
def sT (x : Tb) : Int := if x.c = x.t then 0 else 1
def MkO (w : World) (lo b : Nat) (x y : Int) (Ao : Option Addr) (no co : Nat) (gs : List G3) (G : Option Nat) : Prop :=
  b < w.heap.size ∧ G ≠ some b ∧ (∀ q, w.frozen? ⟨b, q, none⟩ = false) ∧ ∃ Ag cg, BxC w b x y Ag gs.length cg Ao no co ∧ OwnG w lo w.heap.size (.slice Ag gs.length cg) gs.length gs ∧ (Value.slice Ag gs.length cg).ownBlock = G
section
variable {w w' : World} {lo b : Nat} {x y : Int} {Ao : Option Addr} {no co : Nat} {gs : List G3} {G : Option Nat}
theorem MkO.lt (h : MkO w lo b x y Ao no co gs G) : ∀ g, G = some g → lo ≤ g ∧ g < w.heap.size := by
  obtain ⟨_, _, _, Ag, cg, _, ho, he⟩ := h
  intro g hg; have := ho.lt g (he.trans hg); omega
theorem MkO.below_ {B : Nat} (h : MkO w lo b x y Ao no co gs G) (k : Below B w w') (hB : w.heap.size ≤ B) : MkO w' lo b x y Ao no co gs G := by
  obtain ⟨h1, h2, hf, Ag, cg, hx, ho, he⟩ := h
  exact ⟨Nat.lt_of_lt_of_le h1 k.size, h2, fun q => (k.frozen (p := ⟨b, q, none⟩) (by show b < B; omega)).trans (hf q), Ag, cg, hx.below (k.mono hB), (ho.below k (.inl hB)).now, he⟩
theorem MkO.alloc_ (h : MkO w lo b x y Ao no co gs G) (o : Obj) : MkO (w.alloc o) lo b x y Ao no co gs G := h.below_ ((Below.refl _ _).alloc (Nat.le_refl _) o) (Nat.le_refl _)
theorem MkO.drewN_ (h : MkO w lo b x y Ao no co gs G) (k : Nat) : MkO (w.drewN k) lo b x y Ao no co gs G := h
theorem MkO.grown_ {r : Option Nat} (h : MkO w lo b x y Ao no co gs G) (k : w.grownBy w' r) (hb : r ≠ some b) (hG : ∀ g, r = some g → G ≠ some g) : MkO w' lo b x y Ao no co gs G := by
  obtain ⟨h1, h2, hf, Ag, cg, hx, ho, he⟩ := h
  have hc : ∀ {q : Nat} {v : Value}, w.cell? ⟨b, q, none⟩ = some v → w'.cell? ⟨b, q, none⟩ = some v := fun {q v} hv => (World.cell?_of_block (w := w) (k.block b h1 (fun e => hb e.symm))).trans hv
  refine ⟨Nat.lt_of_lt_of_le h1 k.size, h2, fun q => (World.frozen?_of_block (w := w) (a := ⟨b, q, none⟩) (k.block b h1 (fun e => hb e.symm))).trans (hf q), Ag, cg, ⟨hc hx.1, hc hx.2.1, hc hx.2.2.1, hc hx.2.2.2⟩, (ho.grown k ?_).now, he⟩
  cases hr : (Value.slice Ag gs.length cg).ownBlock with
  | none => exact .inl rfl
  | some g => exact .inr (fun hq => hG g hq.symm (he ▸ hr))
theorem MkO.new (w : World) (lo : Nat) (x y : Int) (T : TypeId) : MkO (w.alloc (.cells #[.int .i64 x, .int .i64 y, .slice none 0 0, .slice none 0 0] T)) lo w.heap.size x y none 0 0 [] none :=
  ⟨by simp, by simp, fun q => World.frozen?_alloc_at _ _ _ _ rfl, none, 0, BxC.new w T, OwnG.none_ _ _ _, rfl⟩
theorem MkO.made {w5 : World} {gs' : List G3} {Ag A5 : Option Addr} {n cg c5 : Nat} (h1 : b < w.heap.size) (h2 : (Value.slice Ag gs.length cg).ownBlock ≠ some b) (hf : ∀ q, w.frozen? ⟨b, q, none⟩ = false)
    (hbx : BxC w b x y Ag gs.length cg Ao no co) (hown : OwnG w5 lo w5.heap.size (.slice A5 n c5) n gs') (hg : w.grownBy w5 (Value.slice Ag gs.length cg).ownBlock)
    (hat : (Value.slice A5 n c5).ownBlock = (Value.slice Ag gs.length cg).ownBlock ∨ (Value.slice A5 n c5).ownBlock = some w.heap.size) :
    MkO (w5.setCell ⟨b, 2, none⟩ (.slice A5 n c5)) lo b x y Ao no co gs' (Value.slice A5 n c5).ownBlock ∧ Mv b (Value.slice Ag gs.length cg).ownBlock (Value.slice A5 n c5).ownBlock w (w5.setCell ⟨b, 2, none⟩ (.slice A5 n c5)) := by
  have hl := hown.len
  have hne : (Value.slice A5 n c5).ownBlock ≠ some b := by
    rcases hat with h | h
    · rw [h]; exact h2
    · rw [h]; intro hc; injection hc with hc; omega
  have hsz : w.heap.size ≤ w5.heap.size := hg.size
  subst hl
  refine ⟨⟨by simp; omega, hne, fun q => (World.frozen?_setCell _ _ _ _).trans ((World.frozen?_of_block (w := w) (a := ⟨b, q, none⟩) (hg.block b h1 (fun e => h2 e.symm))).trans (hf q)), A5, c5, (hbx.grown hg h2).setG _ _ _, ?_, rfl⟩, ?_⟩
  · simpa using hown.far1 ⟨b, 2, none⟩ (.slice A5 gs'.length c5) hne
  · refine ⟨hg.os, hg.tape, hg.output, by simpa using hsz, fun k hk hkb hkG => ?_, ?_⟩
    · rw [Below.heap_setCell _ _ _ _ hkb]; exact hg.block k hk (fun e => hkG e.symm)
    · rcases hat with h | h
      · exact .inl h
      · exact .inr ⟨_, h, Nat.le_refl _⟩
theorem MkO.outs (h : MkO w lo b x y Ao no co gs G) (A' : Option Addr) (n' c' : Nat) : MkO (w.setCell ⟨b, 3, none⟩ (.slice A' n' c')) lo b x y A' n' c' gs G := by
  obtain ⟨h1, h2, hf, Ag, cg, hx, ho, he⟩ := h
  refine ⟨by simpa using h1, h2, fun q => (World.frozen?_setCell _ _ _ _).trans (hf q), Ag, cg, hx.setO _ _ _, ?_, he⟩
  simpa using ho.far1 ⟨b, 3, none⟩ (.slice A' n' c') (he ▸ h2)
theorem Mv.outs {W : World} {G1 : Option Nat} (h : Mv b G G1 W w) (v : Value) (q : Nat) : Mv b G G1 W (w.setCell ⟨b, q, none⟩ v) :=
  ⟨h.os, h.tape, h.output, by simpa using h.size, fun k hk hkb hkG => by rw [Below.heap_setCell _ _ _ _ hkb]; exact h.block k hk hkb hkG, h.own⟩
end
def encs (f : Tb → List Value) (l : List Tb) : List Value := l.flatMap f
section
variable {f : Tb → List Value} {s : Nat}
theorem encs_append (l m : List Tb) : encs f (l ++ m) = encs f l ++ encs f m := by simp [encs]
theorem encs_one (x : Tb) : encs f [x] = f x := by simp [encs]
theorem encs_at (hf : ∀ x, (f x).length = s) : ∀ (l : List Tb) (j i : Nat), j < l.length → i < s → (encs f l)[j * s + i]? = (f (tt l j))[i]? := by
  intro l
  induction l with
  | nil => intro j i hj; simp at hj
  | cons x l ih =>
    intro j i hj hi
    have hc : encs f (x :: l) = f x ++ encs f l := rfl
    rw [hc]
    cases j with
    | zero =>
      rw [Nat.zero_mul, Nat.zero_add, List.getElem?_append_left (by rw [hf]; exact hi)]; rfl
    | succ j =>
      rw [List.getElem?_append_right (by rw [hf, Nat.succ_mul]; omega), hf, show (j + 1) * s + i - s = j * s + i by rw [Nat.succ_mul]; omega, ih j i (by simpa using hj) hi]; rfl
end
def OwnT (T : TypeId) (s : Nat) (f : Tb → List Value) (w : World) (lo hi : Nat) (v : Value) (n : Nat) (l : List Tb) : Prop :=
  w.ownsRow lo T s v n (encs f l) ∧ l.length = n ∧ ∀ g, v.ownBlock = some g → g < hi
section
variable {T : TypeId} {s : Nat} {f : Tb → List Value} {w w' : World} {lo hi n : Nat} {v : Value} {l : List Tb}
theorem OwnT.len (h : OwnT T s f w lo hi v n l) : l.length = n := h.2.1
theorem OwnT.lt (h : OwnT T s f w lo hi v n l) : ∀ g, v.ownBlock = some g → lo ≤ g ∧ g < hi ∧ g < w.heap.size := fun g hg => ⟨(h.1.lt g hg).1, h.2.2 g hg, (h.1.lt g hg).2⟩
theorem OwnT.none_ (T : TypeId) (s : Nat) (f : Tb → List Value) (w : World) (lo hi : Nat) : OwnT T s f w lo hi (.slice none 0 0) 0 [] := ⟨World.ownsRow_nil w lo _ _, rfl, fun g hg => by simp [Value.ownBlock] at hg⟩
theorem OwnT.new0 (T : TypeId) (s : Nat) (f : Tb → List Value) (w : World) (lo : Nat) (hl : lo ≤ w.heap.size) : OwnT T s f (w.alloc (.cells #[] T)) lo (w.heap.size + 1) (.slice (some ⟨w.heap.size, 0, none⟩) 0 0) 0 [] := by
  have h := World.ownsRow_lit (base := lo) (e := T) (size := s) w #[] 0 hl (by unfold maxLen; omega) (by simp)
  exact ⟨by simpa [encs] using h, rfl, fun g hg => by simp [Value.ownBlock] at hg; omega⟩
theorem OwnT.now (h : OwnT T s f w lo hi v n l) : OwnT T s f w lo w.heap.size v n l := ⟨h.1, h.2.1, fun g hg => (h.lt g hg).2.2⟩
theorem OwnT.alt {S : Nat → Prop} (h : OwnT T s f w lo hi v n l) (k : Alt S w w') (hs : ∀ g, v.ownBlock = some g → ¬ S g) : OwnT T s f w' lo hi v n l := by
  refine ⟨⟨h.1.1, ?_⟩, h.2⟩
  rcases h.1.2 with h1 | ⟨g, cap, cur, rfl, hlo, hg, r⟩
  · exact .inl h1
  · have hl := h.lt g (by simp [Value.ownBlock])
    exact .inr ⟨g, cap, cur, rfl, hlo, by rw [k.block g hl.2.2 (hs g (by simp [Value.ownBlock]))]; exact hg, r⟩
theorem OwnT.below {B : Nat} (h : OwnT T s f w lo hi v n l) (hb : Below B w w') (hB : w.heap.size ≤ B ∨ hi ≤ B) : OwnT T s f w' lo hi v n l :=
  h.alt (Alt.of_below (S := fun i => B ≤ i) hb fun _ _ h => h) fun g hg => by have := h.lt g hg; omega
theorem OwnT.at_ {c : Nat} {A : Option Addr} (hf : ∀ x, (f x).length = s) (h : OwnT T s f w lo hi (.slice A n c) n l) {k : Nat} (hk : k < n) :
    ∃ g, A = some ⟨g, 0, none⟩ ∧ lo ≤ g ∧ g < hi ∧ g < w.heap.size ∧ ∀ i u, (f (tt l k))[i]? = some u → w.cell? ⟨g, k * s + i, none⟩ = some u := by
  have hlen := h.len
  obtain ⟨g, cap, hv, h1, h2⟩ := h.1.form (by omega)
  simp only [Value.slice.injEq, true_and] at hv
  obtain ⟨rfl, rfl⟩ := hv
  refine ⟨g, rfl, h1, h.2.2 g rfl, h2, fun i u hu => ?_⟩
  have hi' : i < s := by
    rcases Nat.lt_or_ge i s with h | h
    · exact h
    · rw [List.getElem?_eq_none (by rw [hf]; exact h)] at hu; cases hu
  have hb : k * s + i < n * s := by
    have := Nat.mul_le_mul_right s (show k + 1 ≤ n by omega)
    rw [Nat.succ_mul] at this; omega
  rw [h.1.cellAt (k * s + i) (by omega), encs_at hf l k i (by omega) hi', hu]
end
section
variable (w : World)
theorem run_appT (P : Program) (t ty T : TypeId) (z : Value) (s bytes : Nat) (f : Tb → List Value) (hf : ∀ x, (f x).length = s) (h1c : ∀ x, ∀ u ∈ f x, u.oneCell' = true) (ht : P.underlying t = some (.slice T)) (hinfo : (P.info? T).map (fun i => (i.zero, i.size, i.bytes)) = some (some z, s, bytes)) (hzs : z.cells.size = s) (hs0 : 0 < s) (hby : bytes ≤ 64)
    (lo hi n c0 c b : Nat) (A0 : Option Addr) (l : List Tb) (x : Tb) (hown : OwnT T s f w lo hi (.slice A0 n c0) n l) (hr : ∀ i u, (f x)[i]? = some u → w.cell? ⟨b, i, none⟩ = some u) (hlen : n ≤ 1048576) (hlo : lo ≤ w.heap.size) :
    ∃ A' c' w', (Builtin.append_ #[t, t] ty #[.slice A0 n c0, .slice (some ⟨b, 0, none⟩) 1 c]).run P w = .ok (.slice A' (n + 1) c') w' ∧
      OwnT T s f w' lo w'.heap.size (.slice A' (n + 1) c') (n + 1) (l ++ [x]) ∧ w.grownBy w' (Value.slice A0 n c0).ownBlock ∧
      ((Value.slice A' (n + 1) c').ownBlock = (Value.slice A0 n c0).ownBlock ∨ (Value.slice A' (n + 1) c').ownBlock = some w.heap.size) ∧ StayA A0 (n * s) w w' := by
  obtain ⟨i, hi0, hz0, hz1, hz2⟩ := info_parts hinfo
  have hrv : RV w (some ⟨b, 0, none⟩) 1 s (f x) := ⟨by rw [hf]; omega, fun _ => ⟨_, rfl, fun j u hu => by rw [addr_add, Nat.zero_add]; exact hr j u hu⟩⟩
  obtain ⟨A', c', w', hrun, h2, h3, h4, h5⟩ := run_appV (P := P) w t ty T i z s bytes ht hi0 hz0 hz1 hz2 hzs hs0 lo n c0 1 c A0 _ _ _ hown.1 hrv (h1c x) (by unfold maxLen; omega) (Nat.le_trans (Nat.mul_le_mul_left _ hby) (by omega)) hlo
  have he : encs f l ++ f x = encs f (l ++ [x]) := by rw [encs_append, encs_one]
  rw [he] at h2
  exact ⟨A', c', w', hrun, ⟨h2, by have := hown.len; simp; omega, fun g hg => (h2.lt g hg).2⟩, h3, h4, h5⟩
end
def OMT (T : TypeId) (s : Nat) (f : Tb → List Value) (w : World) (b : Nat) (G : Option Nat) (lo : Nat) (v : Value) (n : Nat) (l : List Tb) : Prop :=
  OwnT T s f w lo w.heap.size v n l ∧ ∀ g, v.ownBlock = some g → g ≠ b ∧ G ≠ some g
section
variable {T : TypeId} {s : Nat} {f : Tb → List Value} {w w' : World} {lo lo' b n : Nat} {v : Value} {l : List Tb} {G G' : Option Nat} {x y : Int} {Ao : Option Addr} {no co : Nat} {gs : List G3}
theorem OMT.mv (h : OMT T s f w b G lo v n l) (k : Mv b G G' w w') : OMT T s f w' b G' lo v n l := by
  have hal : Alt (fun i => i = b ∨ G = some i) w w' := ⟨k.os, k.tape, k.output, k.size, fun i hi hn => k.block i hi (fun hc => hn (.inl hc)) (fun hc => hn (.inr hc))⟩
  exact ⟨(h.1.alt hal (fun g hg hc => hc.elim (h.2 g hg).1 (h.2 g hg).2)).now, fun g hg => ⟨(h.2 g hg).1, k.off (h.1.lt g hg).2.2 (h.2 g hg).2⟩⟩
theorem OMT.below_ {B : Nat} (h : OMT T s f w b G lo v n l) (k : Below B w w') (hB : w.heap.size ≤ B) : OMT T s f w' b G lo v n l := ⟨(h.1.below k (.inl hB)).now, h.2⟩
theorem OMT.alloc_ (h : OMT T s f w b G lo v n l) (o : Obj) : OMT T s f (w.alloc o) b G lo v n l := h.below_ ((Below.refl _ _).alloc (Nat.le_refl _) o) (Nat.le_refl _)
theorem OMT.app {m c c' : Nat} {A A' : Option Addr} {l' : List Tb} (h : OMT T s f w b G lo (.slice A n c) n l) (hm : MkO w lo' b x y Ao no co gs G)
    (ho : OwnT T s f w' lo w'.heap.size (.slice A' m c') m l') (hat : (Value.slice A' m c').ownBlock = (Value.slice A n c).ownBlock ∨ (Value.slice A' m c').ownBlock = some w.heap.size) : OMT T s f w' b G lo (.slice A' m c') m l' := by
  refine ⟨ho, fun g hg => ?_⟩
  rcases hat with h1 | h1
  · exact h.2 g (h1 ▸ hg)
  · rw [h1] at hg; injection hg with hg; subst hg
    exact ⟨by have := hm.1; omega, fun hc => by have := hm.lt _ hc; omega⟩
theorem MkO.app {c : Nat} {A : Option Addr} (hm : MkO w lo' b x y Ao no co gs G) (h : OMT T s f w b G lo (.slice A n c) n l) (hg : w.grownBy w' (Value.slice A n c).ownBlock) : MkO w' lo' b x y Ao no co gs G :=
  hm.grown_ hg (fun hc => (h.2 b hc).1 rfl) (fun g hc => (h.2 g hc).2)
end
end Go.Proofs.Ytikgagjoapggnaa
