/- Plain facts: dropping keeps the form of a simplified circuit; simplifying it again makes no more gates. No program in sight. -/
import Derived.Test.YtikgagjoapggnaaQP33
namespace Go.Proofs.Ytikgagjoapggnaa
open Go.RowKit
set_option linter.unusedVariables false
set_option linter.unusedSimpArgs false
theorem mv_two (f : Int → Int) (k a b : Int) (h : k = 0 ∨ k = 1) : mvG f ⟨k, a, b⟩ = ⟨k, f a, f b⟩ := by unfold mvG; rw [if_pos h]
theorem mv_not (f : Int → Int) (a b : Int) : mvG f ⟨2, a, b⟩ = ⟨2, f a, b⟩ := by unfold mvG; rw [if_neg (show ¬ ((2 : Int) = 0 ∨ (2 : Int) = 1) by decide), if_pos (show (2 : Int) = 2 from rfl)]
theorem mv_one (f : Int → Int) (a b : Int) : mvG f ⟨3, a, b⟩ = ⟨3, a, b⟩ := by unfold mvG; rw [if_neg (show ¬ ((3 : Int) = 0 ∨ (3 : Int) = 1) by decide), if_neg (show ¬ (3 : Int) = 2 by decide)]
theorem mv_k (f : Int → Int) (g : G3) : (mvG f g).k = g.k := by
  unfold mvG; split
  · rfl
  · split <;> rfl
theorem drop_ok {X : Nat} {gs : List G3} {os : List Int} (hg : ∀ j : Nat, j < gs.length → GateIs (gg gs j) ((X : Int) + j)) (hO : ∀ z ∈ os, 0 ≤ z ∧ z < (X : Int) + gs.length) :
    GsOk X (drp X gs (usedL X gs os) gs.length).1 ∧ ∀ z ∈ pick (drp X gs (usedL X gs os) gs.length).2 os, 0 ≤ z ∧ z < (X : Int) + (drp X gs (usedL X gs os) gs.length).1.length := by
  have hcl : ∀ j : Nat, j < gs.length → (X : Int) + j ∈ usedL X gs os → ∀ z ∈ prt (gg gs j), z ∈ usedL X gs os := fun j hj hu => usd_closed hg hj hu
  have hou : ∀ z ∈ os, z ∈ usedL X gs os := fun z hz => usd_mono (puts_mem.2 (.inl hz))
  have hsrc := drp_src (X := X) (gs := gs) (U := usedL X gs os) gs.length
  have hdst := drp_dst hg hcl gs.length (Nat.le_refl _)
  refine ⟨fun k hk => ?_, fun z hz => ?_⟩
  · obtain ⟨j, j1, j2, j3⟩ := hsrc k hk
    obtain ⟨r, r1, r2, r3, r4⟩ := hdst j j1 j2
    have : r = k := by omega
    subst this
    exact r4
  · obtain ⟨o, hm, rfl⟩ := List.mem_map.1 hz
    have h1 := hO o hm
    have h2 := drp_bd (X := X) (gs := gs) (U := usedL X gs os) gs.length o.toNat (by omega) (.inr (by rw [show ((o.toNat : Nat) : Int) = o by omega]; exact hou o hm))
    omega
theorem drop_si {X : Nat} {gs : List G3} {os : List Int} (hg : ∀ j : Nat, j < gs.length → GateIs (gg gs j) ((X : Int) + j)) (hs : Si X gs) : Si X (drp X gs (usedL X gs os) gs.length).1 := by
  have hcl : ∀ j : Nat, j < gs.length → (X : Int) + j ∈ usedL X gs os → ∀ z ∈ prt (gg gs j), z ∈ usedL X gs os := fun j hj hu => usd_closed hg hj hu
  have hsrc := drp_src (X := X) (gs := gs) (U := usedL X gs os) gs.length
  have hdst := drp_dst hg hcl gs.length (Nat.le_refl _)
  have hin := drp_in (X := X) (gs := gs) (U := usedL X gs os) gs.length
  have hgrow := drp_grow (X := X) (gs := gs) (U := usedL X gs os) gs.length
  generalize usedL X gs os = U at *
  generalize drp X gs U gs.length = D at *
  obtain ⟨ds, T⟩ := D
  dsimp only at *
  have hat : ∀ i, i < ds.length → ∃ j : Nat, j < gs.length ∧ (X : Int) + j ∈ U ∧ gi T (X + j) = (X : Int) + i ∧ gg ds i = mvG (fun w => gi T w.toNat) (gg gs j) := fun i hi => by
    obtain ⟨j, j1, j2, j3⟩ := hsrc i hi
    obtain ⟨r, r1, r2, r3, r4⟩ := hdst j j1 j2
    have : r = i := by omega
    subst this
    exact ⟨j, j1, j2, j3, r3⟩
  have hge : ∀ j : Nat, j < gs.length → (X : Int) + j ∈ U → (X : Int) ≤ gi T (X + j) := fun j hj hu => by
    obtain ⟨r, r1, r2, _⟩ := hdst j hj hu
    omega
  have inj : ∀ z y : Nat, z < X + gs.length → y < X + gs.length → (z : Int) ∈ U → (y : Int) ∈ U → gi T z = gi T y → z = y := fun z y hz hy uz uy he => by
    rcases Nat.lt_or_ge z X with h1 | h1 <;> rcases Nat.lt_or_ge y X with h2 | h2
    · rw [hin z h1, hin y h2] at he; omega
    · rw [hin z h1] at he
      obtain ⟨j, rfl⟩ : ∃ j, y = X + j := ⟨y - X, by omega⟩
      have := hge j (by omega) (by rwa [show ((X + j : Nat) : Int) = (X : Int) + j by omega] at uy)
      omega
    · rw [hin y h2] at he
      obtain ⟨j, rfl⟩ : ∃ j, z = X + j := ⟨z - X, by omega⟩
      have := hge j (by omega) (by rwa [show ((X + j : Nat) : Int) = (X : Int) + j by omega] at uz)
      omega
    · obtain ⟨i, rfl⟩ : ∃ j, z = X + j := ⟨z - X, by omega⟩
      obtain ⟨j, rfl⟩ : ∃ j, y = X + j := ⟨y - X, by omega⟩
      rw [show ((X + i : Nat) : Int) = (X : Int) + i by omega] at uz
      rw [show ((X + j : Nat) : Int) = (X : Int) + j by omega] at uy
      rcases Nat.lt_trichotomy i j with h | h | h
      · have := hgrow i j h (by omega) uz uy; omega
      · omega
      · have := hgrow j i h (by omega) uy uz; omega
  have base : ∀ u : Nat, Base X gs u → (u : Int) ∈ U → ∃ u' : Nat, gi T u = u' ∧ Base X ds u' ∧ u < X + gs.length := fun u hu hm => by
    rcases hu with hu | ⟨j, hj, rfl, hk⟩
    · exact ⟨u, hin u hu, .inl hu, by omega⟩
    · obtain ⟨r, r1, r2, r3, r4⟩ := hdst j hj (by rwa [show ((X + j : Nat) : Int) = (X : Int) + j by omega] at hm)
      exact ⟨X + r, by rw [r2]; omega, .inr ⟨r, r1, rfl, by rw [r3, mv_k]; exact hk⟩, by omega⟩
  have und : ∀ p u : Nat, Und X gs p u → (p : Int) ∈ U → ∃ p' u' : Nat, gi T p = p' ∧ gi T u = u' ∧ Und X ds p' u' ∧ (u : Int) ∈ U ∧ u < X + gs.length := fun p u h hm => by
    obtain ⟨hb, rfl | ⟨j, hj, rfl, hk⟩⟩ := h
    · obtain ⟨u', e, hu', hl⟩ := base p hb hm
      exact ⟨u', u', e, e, ⟨hu', .inl rfl⟩, hm, hl⟩
    · rw [show ((X + j : Nat) : Int) = (X : Int) + j by omega] at hm
      obtain ⟨r, r1, r2, r3, r4⟩ := hdst j hj hm
      have hum : (u : Int) ∈ U := hcl j hj hm _ (by rw [hk]; simp [prt])
      obtain ⟨u', e, hu', hl⟩ := base u hb hum
      refine ⟨X + r, u', by rw [r2]; omega, e, ⟨hu', .inr ⟨r, r1, rfl, ?_⟩⟩, hum, hl⟩
      rw [r3, hk, mv_not, Int.toNat_natCast, e]
  refine ⟨fun i hi => ?_, fun i1 i2 h1 h2 he => ?_⟩
  · obtain ⟨j, j1, j2, j3, j4⟩ := hat i hi
    rw [j4]
    have hp := hcl j j1 j2
    cases hs.sg j j1 with
    | xor_ u v e hu hv hn =>
      rw [e] at hp ⊢
      have mu := hp u (by simp [prt])
      have mv := hp v (by simp [prt])
      obtain ⟨u', e1, bu, lu⟩ := base u hu mu
      obtain ⟨v', e2, bv, lv⟩ := base v hv mv
      rw [mv_two _ _ _ _ (.inl rfl), Int.toNat_natCast, Int.toNat_natCast, e1, e2]
      exact .xor_ u' v' rfl bu bv (fun h => hn (inj u v lu lv mu mv (by rw [e1, e2, h])))
    | and_ p q u v e hu hv hn =>
      rw [e] at hp ⊢
      obtain ⟨p', u', e1, e2, bu, mu, lu⟩ := und p u hu (hp p (by simp [prt]))
      obtain ⟨q', v', e3, e4, bv, mv, lv⟩ := und q v hv (hp q (by simp [prt]))
      rw [mv_two _ _ _ _ (.inr rfl), Int.toNat_natCast, Int.toNat_natCast, e1, e3]
      exact .and_ p' q' u' v' rfl bu bv (fun h => hn (inj u v lu lv mu mv (by rw [e2, e4, h])))
    | not_ u e hu =>
      rw [e] at hp ⊢
      obtain ⟨u', e1, bu, lu⟩ := base u hu (hp u (by simp [prt]))
      rw [mv_not, Int.toNat_natCast, e1]
      exact .not_ u' rfl bu
    | nto k e hk ek =>
      rw [e] at hp ⊢
      have mk : (X : Int) + k ∈ U := by have h9 := hp ((X + k : Nat) : Int) (by simp [prt]); rwa [show ((X + k : Nat) : Int) = (X : Int) + k by omega] at h9
      obtain ⟨r, r1, r2, r3, r4⟩ := hdst k hk mk
      rw [mv_not, Int.toNat_natCast, r2]
      exact .nto r (by rw [show ((X + r : Nat) : Int) = (X : Int) + r by omega]) r1 (by rw [r3, ek, mv_one])
    | one_ e => rw [e, mv_one]; exact .one_ rfl
  · obtain ⟨a, a1, a2, a3, a4⟩ := hat i1 h1
    obtain ⟨b, b1, b2, b3, b4⟩ := hat i2 h2
    rw [a4, b4] at he
    have hse := sameG_of_mv (hg a a1) (hg b b1) (fun z hz y hy hf => by
      have hz2 := prt_lt (hg a a1) z hz
      have hy2 := prt_lt (hg b b1) y hy
      have := inj z.toNat y.toNat (by omega) (by omega) (by rw [Int.toNat_of_nonneg hz2.1]; exact hcl a a1 a2 z hz) (by rw [Int.toNat_of_nonneg hy2.1]; exact hcl b b1 b2 y hy) hf
      omega) he
    have := hs.di a b a1 b1 hse
    subst this
    omega
def rwR (X : Nat) (R : List Nat) (w : Nat) : Nat := if w < X then w else X + R.getD (w - X) 0
theorem rwR_in {X w : Nat} {R : List Nat} (h : w < X) : rwR X R w = w := by unfold rwR; rw [if_pos h]
theorem rwR_at (X : Nat) (R : List Nat) (i : Nat) : rwR X R (X + i) = X + R.getD i 0 := by unfold rwR; rw [if_neg (by omega), show X + i - X = i by omega]
structure RE (X : Nat) (R R2 : List Nat) : Prop where
  len : R.length ≤ R2.length
  at_ : ∀ w, w < X + R.length → rwR X R2 w = rwR X R w
theorem RE.refl (X : Nat) (R : List Nat) : RE X R R := ⟨Nat.le_refl _, fun _ _ => rfl⟩
theorem RE.trans {X : Nat} {a b c : List Nat} (h : RE X a b) (k : RE X b c) : RE X a c := ⟨Nat.le_trans h.len k.len, fun w hw => (k.at_ w (by have := h.len; omega)).trans (h.at_ w hw)⟩
theorem getD_app {R : List Nat} {k i : Nat} (h : i < R.length) : (R ++ [k]).getD i 0 = R.getD i 0 := by
  rw [List.getD_eq_getElem?_getD, List.getD_eq_getElem?_getD, List.getElem?_append_left h]
theorem RE.snoc (X : Nat) (R : List Nat) (k : Nat) : RE X R (R ++ [k]) := ⟨by simp, fun w hw => by
  unfold rwR; split
  · rfl
  · rw [getD_app (by omega)]⟩
theorem getD_inj {R : List Nat} (hn : R.Nodup) {i j : Nat} (hi : i < R.length) (hj : j < R.length) (h : R.getD i 0 = R.getD j 0) : i = j := by
  rw [List.getD_eq_getElem?_getD, List.getD_eq_getElem?_getD, List.getElem?_eq_getElem hi, List.getElem?_eq_getElem hj] at h
  exact (List.getElem_inj hn).1 h
theorem rwR_inj {X : Nat} {R : List Nat} (hn : R.Nodup) {w v : Nat} (hw : w < X + R.length) (hv : v < X + R.length) (h : rwR X R w = rwR X R v) : w = v := by
  unfold rwR at h
  split at h <;> split at h
  · exact h
  · omega
  · omega
  · have := getD_inj hn (i := w - X) (j := v - X) (by omega) (by omega) (by omega)
    omega
structure Emb (X : Nat) (gs hs : List G3) (R : List Nat) : Prop where
  len : R.length = hs.length
  nd : R.Nodup
  lt : ∀ i, i < hs.length → R.getD i 0 < gs.length
  at_ : ∀ i, i < hs.length → gg gs (R.getD i 0) = mvG (fun w => (rwR X R w.toNat : Int)) (gg hs i)
  ok : GsOk X hs
theorem once_emb {X : Nat} {gs hs : List G3} {R : List Nat} {g : G3} {k : Nat} (he : Emb X gs hs R) (hd : Dist gs) (hg : GateIs g ((X : Int) + hs.length)) (hk : k < gs.length) (hm : mvG (fun w => (rwR X R w.toNat : Int)) g = gg gs k) :
    ∃ R2, Emb X gs (onceG hs g) R2 ∧ RE X R R2 ∧ hs.length ≤ (onceG hs g).length ∧ ∃ i : Nat, i < (onceG hs g).length ∧ onceW X hs g = ((X + i : Nat) : Int) ∧ rwR X R2 (X + i) = X + k := by
  have hle := same1_le hs g
  have hL := he.len
  unfold onceG onceW
  split
  · rename_i hs1
    refine ⟨R, he, RE.refl _ _, Nat.le_refl _, same1 hs g, hs1, by omega, ?_⟩
    have h1 := sameG_mv (f := fun w => (rwR X R w.toNat : Int)) (same1_lt rfl hs1)
    rw [← he.at_ _ hs1, hm] at h1
    rw [rwR_at, hd _ _ (he.lt _ hs1) hk h1]
  · rename_i hs1
    have hno : ∀ j, j < hs.length → ¬ sameG (gg hs j) g = true := fun j hj hc => hs1 (List.findIdx_lt_length.2 ⟨gg hs j, gg_mem hj, hc⟩)
    have hnk : k ∉ R := fun hc => by
      obtain ⟨i, hi, e⟩ := List.getElem_of_mem hc
      have hi' : i < hs.length := by omega
      have e2 : R.getD i 0 = k := by rw [List.getD_eq_getElem?_getD, List.getElem?_eq_getElem hi]; exact e
      have h1 := he.at_ i hi'
      rw [e2, ← hm] at h1
      have hgi := he.ok i hi'
      refine hno i hi' (sameG_of_mv (f := fun w => (rwR X R w.toNat : Int)) hgi hg (fun z hz y hy hf => ?_) (by rw [← h1]; exact sameG_refl _))
      have hz2 := prt_lt hgi z hz
      have hy2 := prt_lt hg y hy
      have := rwR_inj (X := X) (R := R) he.nd (w := z.toNat) (v := y.toNat) (by omega) (by omega) (by omega)
      omega
    have hre := RE.snoc X R k
    have hmv : ∀ (g : G3) (n : Int), GateIs g n → n ≤ (X : Int) + R.length → mvG (fun w => (rwR X (R ++ [k]) w.toNat : Int)) g = mvG (fun w => (rwR X R w.toNat : Int)) g := fun g n h hn => mvG_parts h fun z hz => by
      have := prt_lt h z hz
      rw [hre.at_ z.toNat (by omega)]
    refine ⟨R ++ [k], ⟨by simp [hL], ?_, fun i hi => ?_, fun i hi => ?_, he.ok.snoc hg⟩, hre, by simp, hs.length, by simp, by omega, ?_⟩
    · rw [List.nodup_append]
      refine ⟨he.nd, by simp, fun a ha b hb => ?_⟩
      simp only [List.mem_singleton] at hb
      subst hb
      exact fun h => hnk (h ▸ ha)
    · rw [List.length_append, show ([g] : List G3).length = 1 from rfl] at hi
      rcases Nat.lt_or_ge i hs.length with h1 | h1
      · rw [getD_app (by omega)]; exact he.lt i h1
      · obtain rfl : i = R.length := by omega
        simpa using hk
    · rw [List.length_append, show ([g] : List G3).length = 1 from rfl] at hi
      rcases Nat.lt_or_ge i hs.length with h1 | h1
      · rw [getD_app (by omega), gg_append_l h1, hmv _ _ (he.ok i h1) (by omega)]; exact he.at_ i h1
      · obtain rfl : i = hs.length := by omega
        rw [gg_append_r, hmv _ _ hg (by omega), hm]
        congr 1
        rw [← hL]; simp
    · rw [rwR_at, ← hL]; simp
inductive Rep (X : Nat) (gs hs : List G3) (R : List Nat) (z : Nat) (x : Tb) : Prop
  | base (w : Nat) : Base X gs z → x = ⟨false, w, false⟩ → w < X + hs.length → rwR X R w = z → Rep X gs hs R z x
  | not_ (j u w : Nat) : j < gs.length → z = X + j → gg gs j = ⟨2, u, 0⟩ → Base X gs u → x = ⟨false, w, true⟩ → w < X + hs.length → rwR X R w = u → Rep X gs hs R z x
  | one_ (j : Nat) : j < gs.length → z = X + j → gg gs j = ⟨3, 0, 0⟩ → x = ⟨true, 0, false⟩ → Rep X gs hs R z x
  | nto (j i : Nat) : j < gs.length → z = X + j → i < gs.length → gg gs j = ⟨2, ((X + i : Nat) : Int), 0⟩ → gg gs i = ⟨3, 0, 0⟩ → x = ⟨true, 0, true⟩ → Rep X gs hs R z x
theorem Rep.ext {X : Nat} {gs hs hs' : List G3} {R R' : List Nat} {z : Nat} {x : Tb} (h : Rep X gs hs R z x) (hL : R.length = hs.length) (hl : hs.length ≤ hs'.length) (he : RE X R R') : Rep X gs hs' R' z x := by
  cases h with
  | base w h1 h2 h3 h4 => exact .base w h1 h2 (by omega) (by rw [he.at_ w (by omega)]; exact h4)
  | not_ j u w h0 h1 h2 h3 h4 h5 h6 => exact .not_ j u w h0 h1 h2 h3 h4 (by omega) (by rw [he.at_ w (by omega)]; exact h6)
  | one_ j h0 h1 h2 h3 => exact .one_ j h0 h1 h2 h3
  | nto j i h0 h1 h2 h3 h4 h5 => exact .nto j i h0 h1 h2 h3 h4 h5
theorem base_gate {X : Nat} {gs : List G3} {j : Nat} (h : Base X gs (X + j)) (hk : ¬ ((gg gs j).k = 0 ∨ (gg gs j).k = 1)) : False := by
  rcases h with h | ⟨i, hi, e, hk2⟩
  · omega
  · obtain rfl : j = i := by omega
    exact hk hk2
theorem rep_base {X : Nat} {gs hs : List G3} {R : List Nat} {z : Nat} {x : Tb} (hb : Base X gs z) (h : Rep X gs hs R z x) : ∃ w : Nat, x = ⟨false, w, false⟩ ∧ w < X + hs.length ∧ rwR X R w = z := by
  cases h with
  | base w h1 h2 h3 h4 => exact ⟨w, h2, h3, h4⟩
  | not_ j u w h0 h1 h2 => subst h1; exact (base_gate hb (by rw [h2]; simp)).elim
  | one_ j h0 h1 h2 => subst h1; exact (base_gate hb (by rw [h2]; simp)).elim
  | nto j i h0 h1 h2 h3 => subst h1; exact (base_gate hb (by rw [h3]; simp)).elim
theorem rep_und {X : Nat} {gs hs : List G3} {R : List Nat} {p u : Nat} {x : Tb} (hu : Und X gs p u) (h : Rep X gs hs R p x) : ∃ (w : Nat) (t : Bool), x = ⟨false, w, t⟩ ∧ w < X + hs.length ∧ rwR X R w = u := by
  obtain ⟨hb, rfl | ⟨j, hj, rfl, hk⟩⟩ := hu
  · obtain ⟨w, h1, h2, h3⟩ := rep_base hb h
    exact ⟨w, false, h1, h2, h3⟩
  · cases h with
    | base w h1 h2 h3 h4 => exact (base_gate h1 (by rw [hk]; simp)).elim
    | not_ j' u' w h0 h1 h2 h3 h4 h5 h6 =>
      obtain rfl : j = j' := by omega
      rw [hk] at h2
      simp only [G3.mk.injEq, true_and, and_true] at h2
      exact ⟨w, true, h4, h5, by omega⟩
    | one_ j' h0 h1 h2 =>
      obtain rfl : j = j' := by omega
      rw [hk] at h2
      simp at h2
    | nto j' i h0 h1 h2 h3 h4 =>
      obtain rfl : j = j' := by omega
      rw [hk] at h3
      simp only [G3.mk.injEq, true_and, and_true] at h3
      obtain rfl : u = X + i := by omega
      exact (base_gate hb (by rw [h4]; simp)).elim
theorem made_emb {X : Nat} {gs hs : List G3} {R : List Nat} {z : Nat} {x : Tb} (hd : Dist gs) (he : Emb X gs hs R) (hr : Rep X gs hs R z x) :
    ∃ R2, Emb X gs (made X hs x).1 R2 ∧ RE X R R2 ∧ hs.length ≤ (made X hs x).1.length ∧ ∃ p : Nat, (made X hs x).2 = p ∧ p < X + (made X hs x).1.length ∧ rwR X R2 p = z := by
  cases hr with
  | base w h1 h2 h3 h4 => subst h2; exact ⟨R, he, RE.refl _ _, Nat.le_refl _, w, rfl, h3, h4⟩
  | not_ j u w h0 h1 h2 h3 h4 h5 h6 =>
    subst h4
    obtain ⟨R2, k1, k2, k3, i, k4, k5, k6⟩ := once_emb (g := ⟨2, w, 0⟩) (k := j) he hd (gate_not (by omega) (by omega)) h0 (by rw [mv_not, Int.toNat_natCast, h6, h2])
    exact ⟨R2, k1, k2, k3, X + i, k5, by show X + i < X + (onceG hs ⟨2, w, 0⟩).length; omega, by rw [k6, h1]⟩
  | one_ j h0 h1 h2 h3 =>
    subst h3
    obtain ⟨R2, k1, k2, k3, i, k4, k5, k6⟩ := once_emb (g := ⟨3, 0, 0⟩) (k := j) he hd (gate_one _) h0 (by rw [mv_one, h2])
    exact ⟨R2, k1, k2, k3, X + i, k5, by show X + i < X + (onceG hs ⟨3, 0, 0⟩).length; omega, by rw [k6, h1]⟩
  | nto j i h0 h1 h2 h3 h4 h5 =>
    subst h5
    obtain ⟨R2, k1, k2, k3, i', k4, k5, k6⟩ := once_emb (g := ⟨3, 0, 0⟩) (k := i) he hd (gate_one _) h2 (by rw [mv_one, h4])
    obtain ⟨R3, l1, l2, l3, i2, l4, l5, l6⟩ := once_emb (g := ⟨2, onceW X hs ⟨3, 0, 0⟩, 0⟩) (k := j) k1 hd (gate_not (by rw [k5]; omega) (by rw [k5]; omega)) h0 (by rw [mv_not, k5, Int.toNat_natCast, k6, h3])
    exact ⟨R3, l1, k2.trans l2, Nat.le_trans k3 l3, X + i2, l5, by show X + i2 < X + (onceG (onceG hs ⟨3, 0, 0⟩) ⟨2, onceW X hs ⟨3, 0, 0⟩, 0⟩).length; omega, by rw [l6, h1]⟩
theorem gateT_emb {X : Nat} {gs hs : List G3} {l : List Tb} {R : List Nat} {k : Nat} (hd : Dist gs) (hk : k < gs.length) (hg : GateIs (gg gs k) ((X : Int) + k)) (hsg : SG X gs (gg gs k)) (he : Emb X gs hs R) (hl : ∀ z, z < X + k → Rep X gs hs R z (tt l z)) :
    ∃ R2, Emb X gs (gateT X hs l (gg gs k)).1 R2 ∧ RE X R R2 ∧ hs.length ≤ (gateT X hs l (gg gs k)).1.length ∧ Rep X gs (gateT X hs l (gg gs k)).1 R2 (X + k) (gateT X hs l (gg gs k)).2 := by
  have hL := he.len
  have hp := prt_lt hg
  cases hsg with
  | xor_ u v e hu hv hn =>
    rw [e] at hp
    have pu := hp u (by simp [prt])
    have pv := hp v (by simp [prt])
    obtain ⟨w1, a1, a2, a3⟩ := rep_base hu (hl u (by omega))
    obtain ⟨w2, b1, b2, b3⟩ := rep_base hv (hl v (by omega))
    have hw : ¬ ((w1 : Int) = w2) := fun h => hn (by rw [← a3, ← b3, show w1 = w2 by omega])
    have hb : Base X gs (X + k) := .inr ⟨k, hk, rfl, by rw [e]; exact .inl rfl⟩
    obtain ⟨R2, k1, k2, k3, i, k4, k5, k6⟩ := once_emb (g := ⟨0, w1, w2⟩) (k := k) he hd (gate_xor (by omega) (by omega) (by omega) (by omega)) hk (by rw [mv_two _ _ _ _ (.inl rfl), Int.toNat_natCast, Int.toNat_natCast, a3, b3, e])
    have hT : gateT X hs l (gg gs k) = (onceG hs ⟨0, w1, w2⟩, ⟨false, onceW X hs ⟨0, w1, w2⟩, false⟩) := by
      rw [e]; unfold gateT
      rw [if_pos rfl]
      dsimp only
      rw [Int.toNat_natCast, Int.toNat_natCast, a1, b1]
      unfold xorT
      rw [if_neg (by simp), if_neg (by simp), if_neg hw]
      rfl
    rw [hT]
    exact ⟨R2, k1, k2, k3, .base (X + i) hb (by rw [← k5]) (by show X + i < X + (onceG hs ⟨0, w1, w2⟩).length; omega) k6⟩
  | and_ p q u v e hu hv hn =>
    rw [e] at hp
    have pu := hp p (by simp [prt])
    have pv := hp q (by simp [prt])
    have r1 := hl p (by omega)
    have r2 := hl q (by omega)
    obtain ⟨w1, t1, a1, a2, a3⟩ := rep_und hu r1
    obtain ⟨w2, t2, b1, b2, b3⟩ := rep_und hv r2
    have hw : ¬ ((w1 : Int) = w2) := fun h => hn (by rw [← a3, ← b3, show w1 = w2 by omega])
    have hb : Base X gs (X + k) := .inr ⟨k, hk, rfl, by rw [e]; exact .inr rfl⟩
    obtain ⟨R2, k1, k2, k3, p', k4, k5, k6⟩ := made_emb hd he r1
    obtain ⟨R3, l1, l2, l3, q', l4, l5, l6⟩ := made_emb hd k1 (r2.ext hL k3 k2)
    have hL2 := k1.len
    obtain ⟨R4, m1, m2, m3, i, m4, m5, m6⟩ := once_emb (g := ⟨1, p', q'⟩) (k := k) l1 hd (gate_and (by omega) (by omega) (by omega) (by omega)) hk (by rw [mv_two _ _ _ _ (.inr rfl), Int.toNat_natCast, Int.toNat_natCast, l6, l2.at_ p' (by omega), k6, e])
    have hT : gateT X hs l (gg gs k) = (onceG (made X (made X hs (tt l p)).1 (tt l q)).1 ⟨1, p', q'⟩, ⟨false, onceW X (made X (made X hs (tt l p)).1 (tt l q)).1 ⟨1, p', q'⟩, false⟩) := by
      rw [e]; unfold gateT
      rw [if_neg (show ¬ (1 : Int) = 0 by decide), if_pos rfl]
      dsimp only
      rw [Int.toNat_natCast, Int.toNat_natCast]
      have hA : ∀ x y : Tb, x = ⟨false, w1, t1⟩ → y = ⟨false, w2, t2⟩ → andT X hs x y = andG X hs x y := fun x y hx hy => by
        subst hx hy
        unfold andT
        rw [if_neg (by simp), if_neg (by simp), if_neg (by simp), if_neg hw]
      rw [hA _ _ a1 b1]
      unfold andG
      rw [k4, l4]
    rw [hT]
    exact ⟨R4, m1, k2.trans (l2.trans m2), Nat.le_trans k3 (Nat.le_trans l3 m3), .base (X + i) hb (by rw [← m5]) (by dsimp only; omega) m6⟩
  | not_ u e hu =>
    rw [e] at hp
    have pu := hp u (by simp [prt])
    obtain ⟨w1, a1, a2, a3⟩ := rep_base hu (hl u (by omega))
    have hT : gateT X hs l (gg gs k) = (hs, ⟨false, w1, true⟩) := by
      rw [e]; unfold gateT
      rw [if_neg (show ¬ (2 : Int) = 0 by decide), if_neg (show ¬ (2 : Int) = 1 by decide), if_pos rfl]
      dsimp only
      rw [Int.toNat_natCast, a1]; rfl
    rw [hT]
    exact ⟨R, he, RE.refl _ _, Nat.le_refl _, .not_ k u w1 hk rfl e hu rfl a2 a3⟩
  | nto i e hi ei =>
    rw [e] at hp
    have pu := hp ((X + i : Nat) : Int) (by simp [prt])
    have hT : gateT X hs l (gg gs k) = (hs, ⟨true, 0, true⟩) := by
      rw [e]; unfold gateT
      rw [if_neg (show ¬ (2 : Int) = 0 by decide), if_neg (show ¬ (2 : Int) = 1 by decide), if_pos rfl]
      dsimp only
      rw [Int.toNat_natCast]
      have hx : tt l (X + i) = ⟨true, 0, false⟩ := by
        cases hl (X + i) (by omega) with
        | base w h1 => exact (base_gate h1 (by rw [ei]; simp)).elim
        | not_ j u w h0 h1 h2 => obtain rfl : i = j := by omega
                                 rw [ei] at h2; simp at h2
        | one_ j h0 h1 h2 h3 => exact h3
        | nto j i' h0 h1 h2 h3 => obtain rfl : i = j := by omega
                                  rw [ei] at h3; simp at h3
      rw [hx]; rfl
    rw [hT]
    exact ⟨R, he, RE.refl _ _, Nat.le_refl _, .nto k i hk rfl hi e ei rfl⟩
  | one_ e =>
    have hT : gateT X hs l (gg gs k) = (hs, ⟨true, 0, false⟩) := by
      rw [e]; unfold gateT
      rw [if_neg (show ¬ (3 : Int) = 0 by decide), if_neg (show ¬ (3 : Int) = 1 by decide), if_neg (show ¬ (3 : Int) = 2 by decide)]
    rw [hT]
    exact ⟨R, he, RE.refl _ _, Nat.le_refl _, .one_ k hk rfl e rfl⟩
theorem smp_emb {X : Nat} {gs : List G3} (hg : ∀ j : Nat, j < gs.length → GateIs (gg gs j) ((X : Int) + j)) (hs : Si X gs) : ∀ k : Nat, k ≤ gs.length → ∃ R, Emb X gs (smp X gs k).1 R ∧ ∀ z, z < X + k → Rep X gs (smp X gs k).1 R z (tt (smp X gs k).2 z) := by
  intro k
  induction k with
  | zero =>
    intro _
    refine ⟨[], ⟨rfl, List.nodup_nil, fun i hi => absurd hi (by show ¬ i < ([] : List G3).length; simp), fun i hi => absurd hi (by show ¬ i < ([] : List G3).length; simp), GsOk.nil X⟩, fun z hz => ?_⟩
    rw [show (smp X gs 0).2 = wiresT X from rfl, wiresT_at (by omega)]
    exact .base z (.inl (by omega)) rfl (by omega) (rwR_in (by omega))
  | succ k ih =>
    intro hk
    obtain ⟨R, h1, h2⟩ := ih (by omega)
    obtain ⟨R2, k1, k2, k3, k4⟩ := gateT_emb (k := k) hs.di (by omega) (hg k (by omega)) (hs.sg k (by omega)) h1 h2
    have hl := smp_len X gs k
    refine ⟨R2, k1, fun z hz => ?_⟩
    show Rep X gs (gateT X (smp X gs k).1 (smp X gs k).2 (gg gs k)).1 R2 z (tt ((smp X gs k).2 ++ [(gateT X (smp X gs k).1 (smp X gs k).2 (gg gs k)).2]) z)
    rcases Nat.lt_or_ge z (X + k) with h | h
    · rw [tt_append_l (by omega)]; exact (h2 z h).ext h1.len k3 k2
    · obtain rfl : z = X + k := by omega
      have e3 : tt ((smp X gs k).2 ++ [(gateT X (smp X gs k).1 (smp X gs k).2 (gg gs k)).2]) (X + k) = (gateT X (smp X gs k).1 (smp X gs k).2 (gg gs k)).2 := by
        have := tt_append_r (smp X gs k).2 (gateT X (smp X gs k).1 (smp X gs k).2 (gg gs k)).2
        rwa [hl] at this
      rw [e3]; exact k4
theorem smo_emb {X N : Nat} {gs g0 : List G3} {l : List Tb} {os : List Int} {R : List Nat} (hd : Dist gs) (h0 : Emb X gs g0 R) (hl : ∀ j : Nat, j < N → Rep X gs g0 R j (tt l j)) (ho : ∀ j : Nat, j < os.length → 0 ≤ gi os j ∧ gi os j < N) :
    ∀ k : Nat, k ≤ os.length → ∃ R2, Emb X gs (smo X g0 l os k).1 R2 ∧ RE X R R2 ∧ g0.length ≤ (smo X g0 l os k).1.length := by
  intro k
  induction k with
  | zero => intro _; exact ⟨R, h0, RE.refl _ _, Nat.le_refl _⟩
  | succ k ih =>
    intro hk
    obtain ⟨R2, k1, k2, k3⟩ := ih (by omega)
    have hb := ho k (by omega)
    obtain ⟨R3, l1, l2, l3, _⟩ := made_emb hd k1 ((hl (gi os k).toNat (by omega)).ext h0.len k3 k2)
    exact ⟨R3, l1, k2.trans l2, Nat.le_trans k3 l3⟩
theorem nodup_le : ∀ (n : Nat) (R : List Nat), R.Nodup → (∀ x ∈ R, x < n) → R.length ≤ n := by
  intro n
  induction n with
  | zero =>
    intro R _ h
    cases R with
    | nil => simp
    | cons a l => exact absurd (h a (by simp)) (by omega)
  | succ n ih =>
    intro R hn h
    by_cases hm : n ∈ R
    · have := ih (R.erase n) (hn.erase n) (fun x hx => by
        have h1 := (hn.mem_erase_iff).1 hx
        have := h x h1.2
        have := h1.1
        omega)
      rw [List.length_erase_of_mem hm] at this
      omega
    · have := ih R hn (fun x hx => by
        have h1 := h x hx
        rcases Nat.lt_or_ge x n with h2 | h2
        · exact h2
        · obtain rfl : x = n := by omega
          exact absurd hx hm)
      omega
theorem smpG_le {X : Nat} {gs : List G3} {os : List Int} (hg : ∀ j : Nat, j < gs.length → GateIs (gg gs j) ((X : Int) + j)) (hO : ∀ z ∈ os, 0 ≤ z ∧ z < (X : Int) + gs.length) (hs : Si X gs) : (smpG X gs os).1.length ≤ gs.length := by
  obtain ⟨R, h1, h2⟩ := smp_emb hg hs gs.length (Nat.le_refl _)
  obtain ⟨R2, k1, _, _⟩ := smo_emb (N := X + gs.length) hs.di h1 h2 (fun j hj => by have := hO _ (gi_mem hj); omega) os.length (Nat.le_refl _)
  have hL := k1.len
  show (smo X (smp X gs gs.length).1 (smp X gs gs.length).2 os os.length).1.length ≤ _
  rw [← hL]
  refine nodup_le _ _ k1.nd fun x hx => ?_
  obtain ⟨i, hi, e⟩ := List.getElem_of_mem hx
  have := k1.lt i (by omega)
  rwa [List.getD_eq_getElem?_getD, List.getElem?_eq_getElem hi, show ((some R2[i]).getD 0) = R2[i] from rfl, e] at this
theorem simp_again {x y : Int} {gs : List G3} {os : List Int} {M : Ci} (h : simpF x y gs os = some M) : ∃ M2, simpF x y M.gs M.os = some M2 := by
  obtain ⟨_, _, h3, h4, hS⟩ := simp_all h
  obtain ⟨e0, hg0, hO0⟩ := circB_X hS.c
  obtain ⟨e, hg, hO⟩ := circB_X hS.m
  obtain ⟨hx, hy, hl, ho, _, _⟩ := circB_is' hS.m
  have hsi : Si (x + y).toNat M.gs := by
    rw [h3]
    have hG := smpG_ok hg0 hO0
    exact drop_si (fun j hj => hG.ok j hj) (smpG_si hg0 hO0)
  have hG := smpG_ok hg hO
  have hGo := smpG_outs hg hO
  have hle := smpG_le hg hO hsi
  obtain ⟨d1, d2⟩ := drop_ok (fun j hj => hG.ok j hj) hGo
  have dl := (drp_len (x + y).toNat (smpG (x + y).toNat M.gs M.os).1 (usedL (x + y).toNat (smpG (x + y).toNat M.gs M.os).1 (smpG (x + y).toNat M.gs M.os).2) (smpG (x + y).toNat M.gs M.os).1.length).1
  have hol : (smpG (x + y).toNat M.gs M.os).2.length = M.os.length := smo_len _ _ _ M.os M.os.length
  have hc : circB x y (smpD (x + y).toNat M.gs M.os).1 (smpD (x + y).toNat M.gs M.os).2 = true := by
    refine circB_of hx hy ?_ ?_ (fun k hk => ?_) (fun z hz => ?_)
    · show (drp _ _ _ _).1.length ≤ 300; omega
    · show (pick _ _).length ≤ 40; rw [pick_len]; omega
    · have := d1 k hk
      rwa [e] at this
    · have := d2 z hz
      rwa [e] at this
  exact ⟨_, by unfold simpF; rw [if_pos hS.m, if_pos hc]⟩
end Go.Proofs.Ytikgagjoapggnaa
