/- Plain facts: simplifying a simplified circuit makes no more gates, so it succeeds. No program in sight. -/
import Derived.Test.YtikgagjoapggnaaQP32
namespace Go.Proofs.Ytikgagjoapggnaa
open Go.RowKit
set_option linter.unusedVariables false
set_option linter.unusedSimpArgs false
def Base (X : Nat) (gs : List G3) (z : Nat) : Prop := z < X ∨ ∃ j, j < gs.length ∧ z = X + j ∧ ((gg gs j).k = 0 ∨ (gg gs j).k = 1)
def Und (X : Nat) (gs : List G3) (p u : Nat) : Prop := Base X gs u ∧ (p = u ∨ ∃ j, j < gs.length ∧ p = X + j ∧ gg gs j = ⟨2, u, 0⟩)
inductive SG (X : Nat) (gs : List G3) (g : G3) : Prop
  | xor_ (u v : Nat) : g = ⟨0, u, v⟩ → Base X gs u → Base X gs v → u ≠ v → SG X gs g
  | and_ (p q u v : Nat) : g = ⟨1, p, q⟩ → Und X gs p u → Und X gs q v → u ≠ v → SG X gs g
  | not_ (u : Nat) : g = ⟨2, u, 0⟩ → Base X gs u → SG X gs g
  | nto (j : Nat) : g = ⟨2, ((X + j : Nat) : Int), 0⟩ → j < gs.length → gg gs j = ⟨3, 0, 0⟩ → SG X gs g
  | one_ : g = ⟨3, 0, 0⟩ → SG X gs g
def Dist (gs : List G3) : Prop := ∀ i j, i < gs.length → j < gs.length → sameG (gg gs i) (gg gs j) = true → i = j
structure Pre (gs hs : List G3) : Prop where
  len : gs.length ≤ hs.length
  at_ : ∀ j, j < gs.length → gg hs j = gg gs j
theorem Pre.refl (gs : List G3) : Pre gs gs := ⟨Nat.le_refl _, fun _ _ => rfl⟩
theorem Pre.trans {a b c : List G3} (h : Pre a b) (k : Pre b c) : Pre a c := ⟨Nat.le_trans h.len k.len, fun j hj => (k.at_ j (Nat.lt_of_lt_of_le hj h.len)).trans (h.at_ j hj)⟩
theorem Pre.snoc (gs : List G3) (g : G3) : Pre gs (gs ++ [g]) := ⟨by simp, fun j hj => gg_append_l hj⟩
theorem Base.pre {X : Nat} {gs hs : List G3} {z : Nat} (h : Base X gs z) (p : Pre gs hs) : Base X hs z := by
  rcases h with h | ⟨j, hj, hz, hk⟩
  · exact .inl h
  · exact .inr ⟨j, Nat.lt_of_lt_of_le hj p.len, hz, by rw [p.at_ j hj]; exact hk⟩
theorem Und.pre {X : Nat} {gs hs : List G3} {a u : Nat} (h : Und X gs a u) (p : Pre gs hs) : Und X hs a u := by
  refine ⟨h.1.pre p, ?_⟩
  rcases h.2 with h | ⟨j, hj, hz, hk⟩
  · exact .inl h
  · exact .inr ⟨j, Nat.lt_of_lt_of_le hj p.len, hz, by rw [p.at_ j hj]; exact hk⟩
theorem SG.pre {X : Nat} {gs hs : List G3} {g : G3} (h : SG X gs g) (p : Pre gs hs) : SG X hs g := by
  cases h with
  | xor_ u v e hu hv hn => exact .xor_ u v e (hu.pre p) (hv.pre p) hn
  | and_ a b u v e hu hv hn => exact .and_ a b u v e (hu.pre p) (hv.pre p) hn
  | not_ u e hu => exact .not_ u e (hu.pre p)
  | nto j e hj hk => exact .nto j e (Nat.lt_of_lt_of_le hj p.len) (by rw [p.at_ j hj]; exact hk)
  | one_ e => exact .one_ e
structure Si (X : Nat) (gs : List G3) : Prop where
  sg : ∀ j, j < gs.length → SG X gs (gg gs j)
  di : Dist gs
def TbB (X : Nat) (gs : List G3) (x : Tb) : Prop := x.c = false → ∃ u : Nat, x.w = u ∧ Base X gs u
theorem TbB.pre {X : Nat} {gs hs : List G3} {x : Tb} (h : TbB X gs x) (p : Pre gs hs) : TbB X hs x := fun hc => by
  obtain ⟨u, e, hu⟩ := h hc
  exact ⟨u, e, hu.pre p⟩
theorem TbB.by_ {X : Nat} {gs : List G3} {x : Tb} (h : TbB X gs x) (b : Bool) : TbB X gs (x.by_ b) := h
theorem TbB.const (X : Nat) (gs : List G3) (t : Bool) : TbB X gs ⟨true, 0, t⟩ := fun h => by cases h
theorem sameG_refl (g : G3) : sameG g g = true := by simp [sameG]
theorem sameG_k {o g : G3} (h : sameG o g = true) : o.k = g.k := by
  simp only [sameG, Bool.and_eq_true, beq_iff_eq] at h; exact h.1
theorem sameG_ex {o : G3} {k a b : Int} (hk : k ≠ 0 ∧ k ≠ 1) (h : sameG o ⟨k, a, b⟩ = true) : o = ⟨k, a, b⟩ := by
  obtain ⟨ok, oa, ob⟩ := o
  simp only [sameG, Bool.and_eq_true, Bool.or_eq_true, beq_iff_eq] at h
  obtain ⟨rfl, ⟨rfl, rfl⟩ | ⟨h1, _⟩⟩ := h
  · rfl
  · omega
theorem once_si {X : Nat} {gs : List G3} {g : G3} (h : Si X gs) (hg : SG X gs g) : Si X (onceG gs g) ∧ Pre gs (onceG gs g) ∧ ∃ j : Nat, j < (onceG gs g).length ∧ onceW X gs g = ((X + j : Nat) : Int) ∧ sameG (gg (onceG gs g) j) g = true := by
  have hle := same1_le gs g
  unfold onceG onceW
  split
  · rename_i hs
    exact ⟨h, Pre.refl _, same1 gs g, hs, by omega, same1_lt rfl hs⟩
  · rename_i hs
    have hno : ∀ j, j < gs.length → sameG (gg gs j) g = false := fun j hj => by
      cases hc : sameG (gg gs j) g with
      | false => rfl
      | true => exact absurd (List.findIdx_lt_length.2 ⟨gg gs j, gg_mem hj, hc⟩) hs
    have hp := Pre.snoc gs g
    refine ⟨⟨fun j hj => ?_, fun i j hi hj he => ?_⟩, hp, gs.length, by simp, by omega, by rw [gg_append_r]; exact sameG_refl g⟩
    · rw [List.length_append, show ([g] : List G3).length = 1 from rfl] at hj
      rcases Nat.lt_or_ge j gs.length with h1 | h1
      · rw [gg_append_l h1]; exact (h.sg j h1).pre hp
      · obtain rfl : j = gs.length := by omega
        rw [gg_append_r]; exact hg.pre hp
    · rw [List.length_append, show ([g] : List G3).length = 1 from rfl] at hi hj
      rcases Nat.lt_or_ge i gs.length with h1 | h1 <;> rcases Nat.lt_or_ge j gs.length with h2 | h2
      · rw [gg_append_l h1, gg_append_l h2] at he; exact h.di i j h1 h2 he
      · obtain rfl : j = gs.length := by omega
        rw [gg_append_l h1, gg_append_r, hno i h1] at he; cases he
      · obtain rfl : i = gs.length := by omega
        rw [gg_append_l h2, gg_append_r, sameG_comm, hno j h2] at he; cases he
      · omega
theorem made_si {X : Nat} {gs : List G3} {x : Tb} (h : Si X gs) (hx : TbB X gs x) :
    Si X (made X gs x).1 ∧ Pre gs (made X gs x).1 ∧ (∀ u : Nat, x.c = false → x.w = u → ∃ p : Nat, (made X gs x).2 = p ∧ Und X (made X gs x).1 p u) := by
  obtain ⟨c, w, t⟩ := x
  cases c with
  | false =>
    obtain ⟨u, e, hu⟩ := hx rfl
    dsimp only at e
    subst e
    cases t with
    | false =>
      refine ⟨h, Pre.refl _, fun u' _ e => ⟨u, rfl, ?_⟩⟩
      dsimp only at e
      obtain rfl : u = u' := by omega
      exact ⟨hu, .inl rfl⟩
    | true =>
      obtain ⟨h1, h2, j, h3, h4, h5⟩ := once_si h (.not_ u rfl hu)
      refine ⟨h1, h2, fun u' _ e => ⟨X + j, h4, ?_⟩⟩
      dsimp only at e
      obtain rfl : u = u' := by omega
      exact ⟨hu.pre h2, .inr ⟨j, h3, rfl, sameG_ex (by omega) h5⟩⟩
  | true =>
    obtain ⟨h1, h2, j, h3, h4, h5⟩ := once_si h (.one_ rfl)
    cases t with
    | false => exact ⟨h1, h2, fun u' hc _ => by cases hc⟩
    | true =>
      obtain ⟨k1, k2, i, k3, k4, k5⟩ := once_si h1 (.nto j (g := ⟨2, onceW X gs ⟨3, 0, 0⟩, 0⟩) (by rw [h4]) h3 (sameG_ex (by omega) h5))
      exact ⟨k1, h2.trans k2, fun u' hc _ => by cases hc⟩
theorem tb_of_once {X : Nat} {gs : List G3} {g : G3} {t : Bool} (hk : g.k = 0 ∨ g.k = 1) (h : ∃ j : Nat, j < (onceG gs g).length ∧ onceW X gs g = ((X + j : Nat) : Int) ∧ sameG (gg (onceG gs g) j) g = true) : TbB X (onceG gs g) ⟨false, onceW X gs g, t⟩ := fun _ => by
  obtain ⟨j, h1, h2, h3⟩ := h
  exact ⟨X + j, h2, .inr ⟨j, h1, rfl, by rw [sameG_k h3]; exact hk⟩⟩
theorem gateT_si {X : Nat} {gs : List G3} {l : List Tb} {g : G3} {n : Nat} (h : Si X gs) (hl : ∀ j : Nat, j < n → TbB X gs (tt l j)) (hg : GateIs g n) :
    Si X (gateT X gs l g).1 ∧ Pre gs (gateT X gs l g).1 ∧ TbB X (gateT X gs l g).1 (gateT X gs l g).2 := by
  have hxor : ∀ x y, TbB X gs x → TbB X gs y → Si X (xorT X gs x y).1 ∧ Pre gs (xorT X gs x y).1 ∧ TbB X (xorT X gs x y).1 (xorT X gs x y).2 := fun x y hx hy => by
    unfold xorT
    split
    · exact ⟨h, Pre.refl _, hy.by_ _⟩
    · rename_i h1
      split
      · exact ⟨h, Pre.refl _, hx.by_ _⟩
      · rename_i h2
        split
        · exact ⟨h, Pre.refl _, TbB.const _ _ _⟩
        · rename_i hw
          obtain ⟨u, e1, hu⟩ := hx (by simpa using h1)
          obtain ⟨v, e2, hv⟩ := hy (by simpa using h2)
          rw [e1, e2] at hw ⊢
          obtain ⟨k1, k2, k3⟩ := once_si h (.xor_ u v rfl hu hv (by omega))
          exact ⟨k1, k2, tb_of_once (.inl rfl) k3⟩
  have hand : ∀ x y, TbB X gs x → TbB X gs y → Si X (andT X gs x y).1 ∧ Pre gs (andT X gs x y).1 ∧ TbB X (andT X gs x y).1 (andT X gs x y).2 := fun x y hx hy => by
    unfold andT
    split
    · exact ⟨h, Pre.refl _, TbB.const _ _ _⟩
    · split
      · exact ⟨h, Pre.refl _, hy⟩
      · rename_i h1
        split
        · exact ⟨h, Pre.refl _, hx⟩
        · rename_i h2
          split
          · split
            · exact ⟨h, Pre.refl _, hx⟩
            · exact ⟨h, Pre.refl _, TbB.const _ _ _⟩
          · rename_i hw
            obtain ⟨u, e1, hu⟩ := hx (by simpa using h1)
            obtain ⟨v, e2, hv⟩ := hy (by simpa using h2)
            obtain ⟨a1, a2, a3⟩ := made_si h hx
            obtain ⟨p, a4, a5⟩ := a3 u (by simpa using h1) e1
            obtain ⟨b1, b2, b3⟩ := made_si a1 (hy.pre a2)
            obtain ⟨q, b4, b5⟩ := b3 v (by simpa using h2) e2
            unfold andG
            rw [a4, b4]
            obtain ⟨k1, k2, k3⟩ := once_si b1 (.and_ p q u v rfl (a5.pre b2) b5 (fun he => hw (by rw [e1, e2, he])))
            exact ⟨k1, a2.trans (b2.trans k2), tb_of_once (.inr rfl) k3⟩
  obtain ⟨gk, ga, gb⟩ := g
  unfold gateT
  cases hg with
  | xor_ hk a0 a1 b0 b1 => dsimp only at *; subst hk; rw [if_pos rfl]; exact hxor _ _ (hl _ (by omega)) (hl _ (by omega))
  | and_ hk a0 a1 b0 b1 => dsimp only at *; subst hk; rw [if_neg (by decide), if_pos rfl]; exact hand _ _ (hl _ (by omega)) (hl _ (by omega))
  | not_ hk a0 a1 b0 => dsimp only at *; subst hk; rw [if_neg (by decide), if_neg (by decide), if_pos rfl]; exact ⟨h, Pre.refl _, (hl _ (by omega)).by_ _⟩
  | one_ hk a0 b0 => dsimp only at *; subst hk; rw [if_neg (by decide), if_neg (by decide), if_neg (by decide)]; exact ⟨h, Pre.refl _, TbB.const _ _ _⟩
theorem smp_si {X : Nat} {gs : List G3} {m : Nat} (hg : ∀ k : Nat, k < m → GateIs (gg gs k) ((X : Int) + k)) : ∀ k : Nat, k ≤ m → Si X (smp X gs k).1 ∧ ∀ j : Nat, j < X + k → TbB X (smp X gs k).1 (tt (smp X gs k).2 j) := by
  intro k
  induction k with
  | zero =>
    intro _
    refine ⟨⟨fun j hj => absurd hj (by show ¬ j < ([] : List G3).length; simp), fun i j hi => absurd hi (by show ¬ i < ([] : List G3).length; simp)⟩, fun j hj => ?_⟩
    rw [show (smp X gs 0).2 = wiresT X from rfl, wiresT_at (by omega)]
    exact fun _ => ⟨j, rfl, .inl (by omega)⟩
  | succ k ih =>
    intro hk
    obtain ⟨h1, h2⟩ := ih (by omega)
    obtain ⟨g1, g2, g3⟩ := gateT_si (n := X + k) h1 h2 (by rw [show ((X + k : Nat) : Int) = (X : Int) + k by omega]; exact hg k (by omega))
    have hl := smp_len X gs k
    refine ⟨g1, fun j hj => ?_⟩
    show TbB X (gateT X (smp X gs k).1 (smp X gs k).2 (gg gs k)).1 (tt ((smp X gs k).2 ++ [(gateT X (smp X gs k).1 (smp X gs k).2 (gg gs k)).2]) j)
    rcases Nat.lt_or_ge j (X + k) with h | h
    · rw [tt_append_l (by omega)]; exact (h2 j h).pre g2
    · obtain rfl : j = (smp X gs k).2.length := by omega
      rw [tt_append_r]; exact g3
theorem smo_si {X N : Nat} {g0 : List G3} {l : List Tb} {os : List Int} (h0 : Si X g0) (hl : ∀ j : Nat, j < N → TbB X g0 (tt l j)) (ho : ∀ j : Nat, j < os.length → 0 ≤ gi os j ∧ gi os j < N) : ∀ k : Nat, k ≤ os.length → Si X (smo X g0 l os k).1 ∧ Pre g0 (smo X g0 l os k).1 := by
  intro k
  induction k with
  | zero => intro _; exact ⟨h0, Pre.refl _⟩
  | succ k ih =>
    intro hk
    obtain ⟨h1, h2⟩ := ih (by omega)
    have hb := ho k (by omega)
    obtain ⟨k1, k2, _⟩ := made_si h1 ((hl (gi os k).toNat (by omega)).pre h2)
    exact ⟨k1, h2.trans k2⟩
theorem smpG_si {X : Nat} {gs : List G3} {os : List Int} (hg : ∀ j : Nat, j < gs.length → GateIs (gg gs j) ((X : Int) + j)) (hO : ∀ z ∈ os, 0 ≤ z ∧ z < (X : Int) + gs.length) : Si X (smpG X gs os).1 := by
  obtain ⟨h1, h2⟩ := smp_si hg gs.length (Nat.le_refl _)
  exact (smo_si (N := X + gs.length) h1 h2 (fun j hj => by have := hO _ (gi_mem hj); omega) os.length (Nat.le_refl _)).1
theorem drp_in {X : Nat} {gs : List G3} {U : List Int} : ∀ k (z : Nat), z < X → gi (drp X gs U k).2 z = z := by
  intro k
  induction k with
  | zero => intro z hz; rw [show (drp X gs U 0).2 = spn 0 X from rfl, gi_spn hz]
  | succ k ih =>
    intro z hz
    have hl := (drp_len X gs U k).2
    by_cases h : (X : Int) + k ∈ U
    · rw [drp_succ_u h]; dsimp only; rw [gi_append_l (by omega), ih z hz]
    · rw [drp_succ_n h]; dsimp only; rw [gi_append_l (by omega), ih z hz]
theorem drp_grow {X : Nat} {gs : List G3} {U : List Int} : ∀ k, ∀ i j : Nat, i < j → j < k → (X : Int) + i ∈ U → (X : Int) + j ∈ U → gi (drp X gs U k).2 (X + i) < gi (drp X gs U k).2 (X + j) := by
  intro k
  induction k with
  | zero => intro i j _ hj; omega
  | succ k ih =>
    intro i j hij hj hi hu
    have hl := (drp_len X gs U k).2
    have hb := drp_bd (X := X) (gs := gs) (U := U) k (X + i) (by omega) (.inr (by rwa [show ((X + i : Nat) : Int) = (X : Int) + i by omega]))
    rcases Nat.lt_or_ge j k with h1 | h1
    · have := ih i j hij h1 hi hu
      by_cases h : (X : Int) + k ∈ U
      · rw [drp_succ_u h]; dsimp only; rw [gi_append_l (by omega), gi_append_l (by omega)]; exact this
      · rw [drp_succ_n h]; dsimp only; rw [gi_append_l (by omega), gi_append_l (by omega)]; exact this
    · obtain rfl : j = k := by omega
      rw [drp_succ_u hu]; dsimp only; rw [gi_append_l (by omega), gi_last hl]; exact hb.2
theorem sameG_mv {f : Int → Int} {o g : G3} (h : sameG o g = true) : sameG (mvG f o) (mvG f g) = true := by
  obtain ⟨ok, oa, ob⟩ := o
  obtain ⟨gk, ga, gb⟩ := g
  simp only [sameG, Bool.and_eq_true, Bool.or_eq_true, beq_iff_eq] at h
  obtain ⟨rfl, ⟨rfl, rfl⟩ | ⟨hk, rfl, rfl⟩⟩ := h
  · exact sameG_refl _
  · unfold mvG
    simp only [if_pos hk]
    simp only [sameG, Bool.and_eq_true, Bool.or_eq_true, beq_iff_eq]
    exact ⟨trivial, .inr ⟨hk, trivial, trivial⟩⟩
theorem sameG_of_mv {f : Int → Int} {o g : G3} {n m : Int} (ho : GateIs o n) (hg : GateIs g m) (hf : ∀ z ∈ prt o, ∀ y ∈ prt g, f z = f y → z = y) (h : sameG (mvG f o) (mvG f g) = true) : sameG o g = true := by
  have hk : (mvG f o).k = (mvG f g).k := sameG_k h
  have hm : ∀ g : G3, (mvG f g).k = g.k := fun g => by
    unfold mvG; split
    · rfl
    · split <;> rfl
  rw [hm, hm] at hk
  obtain ⟨ok, oa, ob⟩ := o
  obtain ⟨gk, ga, gb⟩ := g
  dsimp only at hk
  subst hk
  have two : ok = 0 ∨ ok = 1 → sameG ⟨ok, oa, ob⟩ ⟨ok, ga, gb⟩ = true := fun h2 => by
    have e1 : prt ⟨ok, oa, ob⟩ = [oa, ob] := by unfold prt; rw [if_pos h2]
    have e2 : prt ⟨ok, ga, gb⟩ = [ga, gb] := by unfold prt; rw [if_pos h2]
    rw [e1, e2] at hf
    have e3 : ∀ a b, mvG f ⟨ok, a, b⟩ = ⟨ok, f a, f b⟩ := fun a b => by unfold mvG; rw [if_pos h2]
    rw [e3, e3] at h
    simp only [sameG, Bool.and_eq_true, Bool.or_eq_true, beq_iff_eq, true_and] at h ⊢
    rcases h with ⟨ha, hb⟩ | ⟨_, ha, hb⟩
    · exact .inl ⟨hf _ (by simp) _ (by simp) ha, hf _ (by simp) _ (by simp) hb⟩
    · exact .inr ⟨h2, hf _ (by simp) _ (by simp) ha, hf _ (by simp) _ (by simp) hb⟩
  cases ho with
  | xor_ h0 => exact two (.inl h0)
  | and_ h0 => exact two (.inr h0)
  | not_ h0 h1 h2 h3 =>
    cases hg with
    | xor_ g0 => exact absurd (h0.symm.trans g0) (by decide)
    | and_ g0 => exact absurd (h0.symm.trans g0) (by decide)
    | one_ g0 => exact absurd (h0.symm.trans g0) (by decide)
    | not_ g0 g1 g2 g3 =>
      dsimp only at *
      subst h0 h3 g3
      have e3 : ∀ a b, mvG f ⟨2, a, b⟩ = ⟨2, f a, b⟩ := fun a b => by unfold mvG; rw [if_neg (show ¬ ((2 : Int) = 0 ∨ (2 : Int) = 1) by decide), if_pos (show (2 : Int) = 2 from rfl)]
      rw [e3, e3] at h
      have := sameG_ex (by omega) h
      simp only [G3.mk.injEq] at this
      have e := hf oa (by simp [prt]) ga (by simp [prt]) this.2.1
      rw [e]; exact sameG_refl _
  | one_ h0 h1 h2 =>
    cases hg with
    | xor_ g0 => exact absurd (h0.symm.trans g0) (by decide)
    | and_ g0 => exact absurd (h0.symm.trans g0) (by decide)
    | not_ g0 => exact absurd (h0.symm.trans g0) (by decide)
    | one_ g0 g1 g2 => dsimp only at *; subst h1 h2 g1 g2; exact sameG_refl _
end Go.Proofs.Ytikgagjoapggnaa
