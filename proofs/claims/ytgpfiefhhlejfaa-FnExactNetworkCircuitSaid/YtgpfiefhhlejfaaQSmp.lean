/- SimplifyCircuit: what it returns, in plain words. No program. -/
import Derived.Test.YtgpfiefhhlejfaaQDrp
namespace Go.Proofs.Ytgpfiefhhlejfaa
open Go.RowKit
set_option linter.unusedVariables false
set_option linter.unusedSimpArgs false

/-- What a wire becomes: the constant 1 (c), or the wire w; turned (t) or not. -/
structure Tb where
  c : Bool
  w : Int
  t : Bool
def tt (l : List Tb) (j : Nat) : Tb := l.getD j ⟨true, 0, false⟩
theorem tt_lt {l : List Tb} {j : Nat} (h : j < l.length) : tt l j = l[j] := by simp [tt, h]
theorem tt_append_l {xs ys : List Tb} {j : Nat} (h : j < xs.length) : tt (xs ++ ys) j = tt xs j := by
  unfold tt; rw [List.getD_eq_getElem?_getD, List.getD_eq_getElem?_getD, List.getElem?_append_left h]
theorem tt_append_r (xs : List Tb) (v : Tb) : tt (xs ++ [v]) xs.length = v := by
  unfold tt; simp
def Tb.by_ (x : Tb) (b : Bool) : Tb := ⟨x.c, x.w, x.t != b⟩
/-- The gates behind the making of a gate, if there is none that is the same. -/
def onceG (gs : List G3) (g : G3) : List G3 := if same1 gs g < gs.length then gs else gs ++ [g]
def onceW (X : Nat) (gs : List G3) (g : G3) : Int := (X : Int) + (same1 gs g : Nat)
def made1 (X : Nat) (gs : List G3) (x : Tb) : List G3 × Int := if x.c then (onceG gs ⟨3, 0, 0⟩, onceW X gs ⟨3, 0, 0⟩) else (gs, x.w)
def made2 (X : Nat) (s : List G3 × Int) (t : Bool) : List G3 × Int := if t then (onceG s.1 ⟨2, s.2, 0⟩, onceW X s.1 ⟨2, s.2, 0⟩) else s
def made (X : Nat) (gs : List G3) (x : Tb) : List G3 × Int := made2 X (made1 X gs x) x.t
def xorT (X : Nat) (gs : List G3) (x y : Tb) : List G3 × Tb :=
  if x.c then (gs, y.by_ (!x.t)) else if y.c then (gs, x.by_ (!y.t)) else if x.w = y.w then (gs, ⟨true, 0, x.t == y.t⟩)
  else (onceG gs ⟨0, x.w, y.w⟩, ⟨false, onceW X gs ⟨0, x.w, y.w⟩, x.t != y.t⟩)
def andG (X : Nat) (gs : List G3) (x y : Tb) : List G3 × Tb :=
  (onceG (made X (made X gs x).1 y).1 ⟨1, (made X gs x).2, (made X (made X gs x).1 y).2⟩, ⟨false, onceW X (made X (made X gs x).1 y).1 ⟨1, (made X gs x).2, (made X (made X gs x).1 y).2⟩, false⟩)
def andT (X : Nat) (gs : List G3) (x y : Tb) : List G3 × Tb :=
  if (x.c && x.t) || (y.c && y.t) then (gs, ⟨true, 0, true⟩) else if x.c then (gs, y) else if y.c then (gs, x)
  else if x.w = y.w then (if x.t = y.t then (gs, x) else (gs, ⟨true, 0, true⟩)) else andG X gs x y
def gateT (X : Nat) (gs : List G3) (l : List Tb) (g : G3) : List G3 × Tb :=
  if g.k = 0 then xorT X gs (tt l g.a.toNat) (tt l g.b.toNat) else if g.k = 1 then andT X gs (tt l g.a.toNat) (tt l g.b.toNat)
  else if g.k = 2 then (gs, (tt l g.a.toNat).by_ true) else (gs, ⟨true, 0, false⟩)
def wiresT (X : Nat) : List Tb := (List.range X).map fun i : Nat => ⟨false, (i : Int), false⟩
/-- The gates and what the wires become, behind k gates. -/
def smp (X : Nat) (gs : List G3) : Nat → List G3 × List Tb
  | 0 => ([], wiresT X)
  | k + 1 => ((gateT X (smp X gs k).1 (smp X gs k).2 (gg gs k)).1, (smp X gs k).2 ++ [(gateT X (smp X gs k).1 (smp X gs k).2 (gg gs k)).2])
/-- The gates and the outs, behind k outs. -/
def smo (X : Nat) (g0 : List G3) (l : List Tb) (os : List Int) : Nat → List G3 × List Int
  | 0 => (g0, [])
  | k + 1 => ((made X (smo X g0 l os k).1 (tt l (gi os k).toNat)).1, (smo X g0 l os k).2 ++ [(made X (smo X g0 l os k).1 (tt l (gi os k).toNat)).2])

theorem wiresT_len (X : Nat) : (wiresT X).length = X := by simp [wiresT]
theorem wiresT_snoc (X : Nat) : wiresT (X + 1) = wiresT X ++ [⟨false, (X : Int), false⟩] := by simp [wiresT, List.range_succ]
theorem wiresT_at {X j : Nat} (h : j < X) : tt (wiresT X) j = ⟨false, (j : Int), false⟩ := by
  unfold tt wiresT; simp [h]
theorem smp_len (X : Nat) (gs : List G3) (k : Nat) : (smp X gs k).2.length = X + k := by
  induction k with
  | zero => exact wiresT_len X
  | succ k ih => simp [smp, ih]; omega
theorem smo_len (X : Nat) (g0 : List G3) (l : List Tb) (os : List Int) (k : Nat) : (smo X g0 l os k).2.length = k := by
  induction k with
  | zero => rfl
  | succ k ih => simp [smo, ih]

/-- The gates are valid behind X wires. -/
def GsOk (X : Nat) (gs : List G3) : Prop := ∀ j : Nat, j < gs.length → GateIs (gg gs j) ((X : Int) + j)
/-- A wire is below n. -/
def TbOk (n : Int) (x : Tb) : Prop := x.c = false → 0 ≤ x.w ∧ x.w < n
theorem TbOk.mono {n m : Int} {x : Tb} (h : TbOk n x) (hm : n ≤ m) : TbOk m x := fun hc => by have := h hc; omega
theorem TbOk.by_ {n : Int} {x : Tb} (h : TbOk n x) (b : Bool) : TbOk n (x.by_ b) := h
theorem TbOk.const (n : Int) (t : Bool) : TbOk n ⟨true, 0, t⟩ := fun h => by cases h
theorem GsOk.nil (X : Nat) : GsOk X [] := fun j hj => by simp at hj
theorem GsOk.snoc {X : Nat} {gs : List G3} {g : G3} (h : GsOk X gs) (hg : GateIs g ((X : Int) + gs.length)) : GsOk X (gs ++ [g]) := fun j hj => by
  rcases Nat.lt_or_ge j gs.length with h1 | h1
  · rw [gg_append_l h1]; exact h j h1
  · have hj' : j = gs.length := by simp at hj; omega
    subst hj'; rw [gg_append_r]; exact hg
theorem onceG_le (gs : List G3) (g : G3) : gs.length ≤ (onceG gs g).length ∧ (onceG gs g).length ≤ gs.length + 1 := by
  unfold onceG; split <;> simp
theorem onceG_ok {X : Nat} {gs : List G3} {g : G3} (h : GsOk X gs) (hg : GateIs g ((X : Int) + gs.length)) : GsOk X (onceG gs g) := by
  unfold onceG; split
  · exact h
  · exact h.snoc hg
theorem onceW_bd (X : Nat) (gs : List G3) (g : G3) : 0 ≤ onceW X gs g ∧ onceW X gs g < (X : Int) + (onceG gs g).length := by
  unfold onceW onceG
  have := same1_le gs g
  split
  · omega
  · simp; omega
theorem gate_one (n : Int) : GateIs ⟨3, 0, 0⟩ n := .one_ rfl rfl rfl
theorem gate_not {n a : Int} (h0 : 0 ≤ a) (h1 : a < n) : GateIs ⟨2, a, 0⟩ n := .not_ rfl h0 h1 rfl
theorem gate_xor {n a b : Int} (h0 : 0 ≤ a) (h1 : a < n) (h2 : 0 ≤ b) (h3 : b < n) : GateIs ⟨0, a, b⟩ n := .xor_ rfl h0 h1 h2 h3
theorem gate_and {n a b : Int} (h0 : 0 ≤ a) (h1 : a < n) (h2 : 0 ≤ b) (h3 : b < n) : GateIs ⟨1, a, b⟩ n := .and_ rfl h0 h1 h2 h3
/-- Gates and a wire of theirs. -/
def StOk (X : Nat) (s : List G3 × Int) : Prop := GsOk X s.1 ∧ 0 ≤ s.2 ∧ s.2 < (X : Int) + s.1.length
theorem made1_ok {X : Nat} {gs : List G3} {x : Tb} (h : GsOk X gs) (hx : TbOk ((X : Int) + gs.length) x) : StOk X (made1 X gs x) ∧ gs.length ≤ (made1 X gs x).1.length ∧ (made1 X gs x).1.length ≤ gs.length + 1 := by
  unfold made1 StOk; split
  · exact ⟨⟨onceG_ok h (gate_one _), onceW_bd X gs _⟩, onceG_le gs _⟩
  · rename_i hc
    exact ⟨⟨h, hx (by simpa using hc)⟩, Nat.le_refl _, by simp⟩
theorem made2_ok {X : Nat} {s : List G3 × Int} {t : Bool} (h : StOk X s) : StOk X (made2 X s t) ∧ s.1.length ≤ (made2 X s t).1.length ∧ (made2 X s t).1.length ≤ s.1.length + 1 := by
  unfold made2; split
  · exact ⟨⟨onceG_ok h.1 (gate_not h.2.1 h.2.2), onceW_bd X s.1 _⟩, onceG_le s.1 _⟩
  · exact ⟨h, Nat.le_refl _, by omega⟩
theorem made_ok {X : Nat} {gs : List G3} {x : Tb} (h : GsOk X gs) (hx : TbOk ((X : Int) + gs.length) x) : StOk X (made X gs x) ∧ gs.length ≤ (made X gs x).1.length ∧ (made X gs x).1.length ≤ gs.length + 2 := by
  obtain ⟨h1, h2, h3⟩ := made1_ok h hx
  obtain ⟨h4, h5, h6⟩ := made2_ok (t := x.t) h1
  exact ⟨h4, by unfold made; omega, by unfold made; omega⟩
/-- Gates and what a wire becomes. -/
def NxOk (X : Nat) (n : Nat) (r : List G3 × Tb) : Prop := GsOk X r.1 ∧ TbOk ((X : Int) + r.1.length) r.2 ∧ n ≤ r.1.length ∧ r.1.length ≤ n + 5
theorem xorT_ok {X : Nat} {gs : List G3} {x y : Tb} (h : GsOk X gs) (hx : TbOk ((X : Int) + gs.length) x) (hy : TbOk ((X : Int) + gs.length) y) : NxOk X gs.length (xorT X gs x y) := by
  unfold xorT NxOk
  split
  · exact ⟨h, hy.by_ _, Nat.le_refl _, by simp⟩
  · split
    · exact ⟨h, hx.by_ _, Nat.le_refl _, by simp⟩
    · split
      · exact ⟨h, TbOk.const _ _, Nat.le_refl _, by simp⟩
      · rename_i h1 h2 h3
        have bx := hx (by simpa using h1)
        have hby := hy (by simpa using h2)
        have hl := onceG_le gs ⟨0, x.w, y.w⟩
        exact ⟨onceG_ok h (gate_xor bx.1 bx.2 hby.1 hby.2), fun _ => onceW_bd X gs _, hl.1, by show (onceG gs ⟨0, x.w, y.w⟩).length ≤ _; omega⟩
theorem andG_ok {X : Nat} {gs : List G3} {x y : Tb} (h : GsOk X gs) (hx : TbOk ((X : Int) + gs.length) x) (hy : TbOk ((X : Int) + gs.length) y) : NxOk X gs.length (andG X gs x y) := by
  obtain ⟨⟨a1, a2, a3⟩, a4, a5⟩ := made_ok h hx
  obtain ⟨⟨b1, b2, b3⟩, b4, b5⟩ := made_ok a1 (hy.mono (by omega))
  have hl := onceG_le (made X (made X gs x).1 y).1 ⟨1, (made X gs x).2, (made X (made X gs x).1 y).2⟩
  unfold andG NxOk
  exact ⟨onceG_ok b1 (gate_and a2 (by omega) b2 b3), fun _ => onceW_bd X _ _, by dsimp only; omega, by dsimp only; omega⟩
theorem andT_ok {X : Nat} {gs : List G3} {x y : Tb} (h : GsOk X gs) (hx : TbOk ((X : Int) + gs.length) x) (hy : TbOk ((X : Int) + gs.length) y) : NxOk X gs.length (andT X gs x y) := by
  unfold andT
  split
  · exact ⟨h, TbOk.const _ _, Nat.le_refl _, by simp⟩
  · split
    · exact ⟨h, hy, Nat.le_refl _, by simp⟩
    · split
      · exact ⟨h, hx, Nat.le_refl _, by simp⟩
      · split
        · split
          · exact ⟨h, hx, Nat.le_refl _, by simp⟩
          · exact ⟨h, TbOk.const _ _, Nat.le_refl _, by simp⟩
        · exact andG_ok h hx hy
theorem gateT_ok {X : Nat} {gs : List G3} {l : List Tb} {g : G3} {n : Nat} (h : GsOk X gs) (hl : ∀ j : Nat, j < n → TbOk ((X : Int) + gs.length) (tt l j)) (hg : GateIs g n) : NxOk X gs.length (gateT X gs l g) := by
  obtain ⟨gk, ga, gb⟩ := g
  unfold gateT
  cases hg with
  | xor_ hk a0 a1 b0 b1 => dsimp only at *; subst hk; rw [if_pos rfl]; exact xorT_ok h (hl _ (by omega)) (hl _ (by omega))
  | and_ hk a0 a1 b0 b1 => dsimp only at *; subst hk; rw [if_neg (by decide), if_pos rfl]; exact andT_ok h (hl _ (by omega)) (hl _ (by omega))
  | not_ hk a0 a1 b0 => dsimp only at *; subst hk; rw [if_neg (by decide), if_neg (by decide), if_pos rfl]; exact ⟨h, (hl _ (by omega)).by_ _, Nat.le_refl _, by simp⟩
  | one_ hk a0 b0 => dsimp only at *; subst hk; rw [if_neg (by decide), if_neg (by decide), if_neg (by decide)]; exact ⟨h, TbOk.const _ _, Nat.le_refl _, by simp⟩
/-- Behind k gates: valid gates, not too many; every wire of the list is one of theirs. -/
structure SmOk (X k : Nat) (s : List G3 × List Tb) : Prop where
  ok : GsOk X s.1
  le : s.1.length ≤ 5 * k
  tb : ∀ j : Nat, j < X + k → TbOk ((X : Int) + s.1.length) (tt s.2 j)
theorem smp_ok {X : Nat} {gs : List G3} {m : Nat} (hg : ∀ k : Nat, k < m → GateIs (gg gs k) ((X : Int) + k)) : ∀ k : Nat, k ≤ m → SmOk X k (smp X gs k) := by
  intro k
  induction k with
  | zero => intro _; exact ⟨GsOk.nil X, by simp [smp], fun j hj => by
      rw [show (smp X gs 0).2 = wiresT X from rfl, wiresT_at (by omega)]; intro _; dsimp only; omega⟩
  | succ k ih =>
    intro hk
    obtain ⟨h1, h2, h3⟩ := ih (by omega)
    have hgk := hg k (by omega)
    obtain ⟨g1, g2, g3, g4⟩ := gateT_ok (n := X + k) h1 h3 (by rw [show ((X + k : Nat) : Int) = (X : Int) + k by omega]; exact hgk)
    have hl := smp_len X gs k
    refine ⟨g1, by show (gateT X (smp X gs k).1 (smp X gs k).2 (gg gs k)).1.length ≤ _; omega, fun j hj => ?_⟩
    show TbOk ((X : Int) + (gateT X (smp X gs k).1 (smp X gs k).2 (gg gs k)).1.length) (tt ((smp X gs k).2 ++ [(gateT X (smp X gs k).1 (smp X gs k).2 (gg gs k)).2]) j)
    rcases Nat.lt_or_ge j (X + k) with h | h
    · rw [tt_append_l (by omega)]; exact (h3 j h).mono (by omega)
    · obtain rfl : j = (smp X gs k).2.length := by omega
      rw [tt_append_r]; exact g2
/-- Behind k outs. -/
structure SoOk (X k n0 : Nat) (s : List G3 × List Int) : Prop where
  ok : GsOk X s.1
  le : n0 ≤ s.1.length ∧ s.1.length ≤ n0 + 2 * k
  out : ∀ j : Nat, j < k → 0 ≤ gi s.2 j ∧ gi s.2 j < (X : Int) + s.1.length
theorem smo_ok {X N : Nat} {g0 : List G3} {l : List Tb} {os : List Int} (h0 : GsOk X g0) (hl : ∀ j : Nat, j < N → TbOk ((X : Int) + g0.length) (tt l j)) (ho : ∀ j : Nat, j < os.length → 0 ≤ gi os j ∧ gi os j < N) : ∀ k : Nat, k ≤ os.length → SoOk X k g0.length (smo X g0 l os k) := by
  intro k
  induction k with
  | zero => intro _; exact ⟨h0, ⟨Nat.le_refl _, by simp [smo]⟩, fun j hj => by omega⟩
  | succ k ih =>
    intro hk
    obtain ⟨h1, h2, h3⟩ := ih (by omega)
    have hb := ho k (by omega)
    obtain ⟨⟨m1, m2, m3⟩, m4, m5⟩ := made_ok h1 ((hl (gi os k).toNat (by omega)).mono (by omega))
    have hs := smo_len X g0 l os k
    refine ⟨m1, by show _ ≤ (made X (smo X g0 l os k).1 (tt l (gi os k).toNat)).1.length ∧ (made X (smo X g0 l os k).1 (tt l (gi os k).toNat)).1.length ≤ _; omega, fun j hj => ?_⟩
    show 0 ≤ gi ((smo X g0 l os k).2 ++ [(made X (smo X g0 l os k).1 (tt l (gi os k).toNat)).2]) j ∧ gi ((smo X g0 l os k).2 ++ [(made X (smo X g0 l os k).1 (tt l (gi os k).toNat)).2]) j < (X : Int) + (made X (smo X g0 l os k).1 (tt l (gi os k).toNat)).1.length
    rcases Nat.lt_or_ge j k with h | h
    · rw [gi_append_l (by omega)]; have := h3 j h; omega
    · obtain rfl : j = (smo X g0 l os k).2.length := by omega
      rw [gi_append_r]; exact ⟨m2, m3⟩
/-- The circuit before the last test. -/
def smpG (X : Nat) (gs : List G3) (os : List Int) : List G3 × List Int := smo X (smp X gs gs.length).1 (smp X gs gs.length).2 os os.length
def smpD (X : Nat) (gs : List G3) (os : List Int) : List G3 × List Int := ((drp X (smpG X gs os).1 (usedL X (smpG X gs os).1 (smpG X gs os).2) (smpG X gs os).1.length).1, pick (drp X (smpG X gs os).1 (usedL X (smpG X gs os).1 (smpG X gs os).2) (smpG X gs os).1.length).2 (smpG X gs os).2)
def simpF (x y : Int) (gs : List G3) (os : List Int) : Option Ci :=
  if circB x y gs os then (if circB x y (smpD (x + y).toNat gs os).1 (smpD (x + y).toNat gs os).2 then some ⟨x, y, (smpD (x + y).toNat gs os).1, (smpD (x + y).toNat gs os).2⟩ else none) else none
theorem simpF_len (x y : Int) (gs : List G3) (os : List Int) : ((simpF x y gs os).getD ⟨0, 0, [], []⟩).gs.length ≤ 300 ∧ ((simpF x y gs os).getD ⟨0, 0, [], []⟩).os.length ≤ 40 := by
  unfold simpF
  split
  · split
    · rename_i h
      have h1 := circB_bd h
      simp only [Option.getD_some]; omega
    · simp
  · simp
theorem sameG_comm (o g : G3) : sameG o g = sameG g o := by
  obtain ⟨ok, oa, ob⟩ := o
  obtain ⟨gk, ga, gb⟩ := g
  unfold sameG
  rw [Bool.eq_iff_iff]
  simp only [Bool.and_eq_true, Bool.or_eq_true, beq_iff_eq]
  constructor
  · rintro ⟨rfl, h⟩
    refine ⟨rfl, ?_⟩
    rcases h with ⟨rfl, rfl⟩ | ⟨hk, rfl, rfl⟩
    · exact .inl ⟨rfl, rfl⟩
    · exact .inr ⟨hk, rfl, rfl⟩
  · rintro ⟨rfl, h⟩
    refine ⟨rfl, ?_⟩
    rcases h with ⟨rfl, rfl⟩ | ⟨hk, rfl, rfl⟩
    · exact .inl ⟨rfl, rfl⟩
    · exact .inr ⟨hk, rfl, rfl⟩
/-- The reference's words: the wire (-1: a constant) and whether it is turned. -/
def sW (x : Tb) : Int := if x.c then -1 else x.w
def sT (x : Tb) : Int := if x.c = x.t then 0 else 1

end Go.Proofs.Ytgpfiefhhlejfaa
