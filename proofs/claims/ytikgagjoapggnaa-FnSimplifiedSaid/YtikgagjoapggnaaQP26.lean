/- The laws' own comparison of two lists. Lengths up to 2^21. Plain facts: merged gates, constant wires and the values of circuits. No program in sight. Plain facts: dropped gates keep the values of what is used, and every gate that stays is used. No program in sight. Contracts of the tables of a circuit's outs: all inputs in turn. Contracts of truth tables, columns, sums, comparisons of two circuits. Contracts of OnesOf, TruthTable, AreEqual, FirstUnequal. -/
import Derived.Test.YtikgagjoapggnaaQP25
import Derived.Test.YtikgagjoapggnaaQP16
import Derived.Deep.RegionLaw
import Derived.Test.YtikgagjoapggnaaQP04
namespace Go.Proofs.Ytikgagjoapggnaa
open Go.RowKit
set_option linter.unusedVariables false
set_option linter.unusedSimpArgs false
set_option maxHeartbeats 400000 in
theorem qInts_any (A B : Option Addr) (n c m d : Nat) (xs ys : List Int) (w : World) (ha : RI w A n xs) (hb : RI w B m ys) (hn : n ≤ 2097152) (hm : m ≤ 2097152) :
    Calls Try.prog 15 #[.slice A n c, .slice B m d] w fun e w' => e = .returned (.bool (sameB xs ys)) ∧ ∃ j, w' = w.drewN j := by
  have hl := ha.len
  have hm' := hb.len
  by_cases h0 : n = m
  · subst h0
    have hne : ((n : Int) != n) = false := by simp
    go_enter Try.func15, Try.ntmps15
    go_wp2
    go_loopw [13] (fun i wr => ∃ k j : Nat, k ≤ n ∧ i = .int .i64 k ∧ wr = w.drewN j ∧ Hid (∀ q, q < k → gi xs q = gi ys q)) (fun i _ => n - (intOf i).toNat)
    case atStart => exact ⟨0, 0, Nat.zero_le _, rfl, rfl, Lib.hid fun q hq => absurd hq (by omega)⟩
    case round =>
      obtain ⟨k, j, hk, rfl, rfl, hq⟩ := hrel
      by_cases hlt : k < n
      · obtain ⟨b, o, rfl, hbB, e1⟩ := ha.at_ hlt
        obtain ⟨b', o', rfl, hbB', e2⟩ := hb.at_ hlt
        by_cases h1 : gi xs k = gi ys k
        · have H1 := Lib.hid h1
          rw [← h1] at e2
          clear h1
          have hnx : (gi xs k != gi xs k) = false := by simp
          generalize hX : gi xs k = X at *
          clear ha hb
          go_wp2_with fail
          go_quiet (fail)
          go_wp2
          go_roundw
          case rel => exact ⟨k + 1, _, by omega, by go_num, by first | rfl | exact World.drewN_drewN _ _ _, Lib.hid fun q hq' => by
            rcases Nat.lt_or_ge q k with h | h
            · exact hq.out q h
            · obtain rfl : q = k := by omega
              exact hX.trans H1.out⟩
          case measure => simp [intOf]; omega
        · have H1 := Lib.hid h1
          have hnx : (gi xs k != gi ys k) = true := by simpa using h1
          clear h1
          have HR : Hid (sameB xs ys = false) := Lib.hid (sameB_at H1.out)
          generalize gi xs k = X at *
          generalize gi ys k = Y at *
          clear ha hb
          go_wp2_with fail
          go_quiet (fail)
          go_wp2
          go_ret
          exact ⟨by rw [HR.out]; rfl, _, by first | rfl | exact World.drewN_drewN _ _ _⟩
      · obtain rfl : k = n := by omega
        have HR : Hid (sameB xs ys = true) := Lib.hid (sameB_all (by omega) fun q hq' => hq.out q (by omega))
        go_wp2
        go_ret
        exact ⟨by rw [HR.out]; rfl, _, rfl⟩
  · have h1 : ((n : Int) != m) = true := by simp; omega
    have HR : Hid (sameB xs ys = false) := Lib.hid (sameB_len (by omega))
    go_enter Try.func15, Try.ntmps15
    go_wp2
    go_ret
    exact ⟨by rw [HR.out]; rfl, 0, rfl⟩
theorem gval_parts {g : G3} {n : Int} (hg : GateIs g n) {o o' : List Int} {f : Int → Int} (h : ∀ z ∈ prt g, gi o' (f z).toNat = gi o z.toNat) : gval (mvG f g) o' = gval g o := by
  obtain ⟨gk, ga, gb⟩ := g
  cases hg with
  | xor_ hk => dsimp only at hk; subst hk; have h1 := h ga (by simp [prt]); have h2 := h gb (by simp [prt]); simp [gval, mvG, h1, h2]
  | and_ hk => dsimp only at hk; subst hk; have h1 := h ga (by simp [prt]); have h2 := h gb (by simp [prt]); simp [gval, mvG, h1, h2]
  | not_ hk => dsimp only at hk; subst hk; have h1 := h ga (by simp [prt]); simp [gval, mvG, h1]
  | one_ hk => dsimp only at hk; subst hk; simp [gval, mvG]
theorem gval_same {g : G3} {n : Int} (hg : GateIs g n) {o o' : List Int} (h : ∀ z ∈ prt g, gi o' z.toNat = gi o z.toNat) : gval g o' = gval g o := by
  obtain ⟨gk, ga, gb⟩ := g
  cases hg with
  | xor_ hk => dsimp only at hk; subst hk; have h1 := h ga (by simp [prt]); have h2 := h gb (by simp [prt]); simp [gval, h1, h2]
  | and_ hk => dsimp only at hk; subst hk; have h1 := h ga (by simp [prt]); have h2 := h gb (by simp [prt]); simp [gval, h1, h2]
  | not_ hk => dsimp only at hk; subst hk; have h1 := h ga (by simp [prt]); simp [gval, h1]
  | one_ hk => dsimp only at hk; subst hk; simp [gval]
theorem vals_gs {gs hs : List G3} {inp : List Int} : ∀ k, (∀ j, j < k → gg gs j = gg hs j) → vals gs inp k = vals hs inp k := by
  intro k
  induction k with
  | zero => intro _; rfl
  | succ k ih => intro h; rw [vals_succ, vals_succ, ih (fun j hj => h j (by omega)), h k (by omega)]
theorem vals_keep {gs : List G3} {inp : List Int} {k m z : Nat} (hk : k ≤ m) (hz : z < inp.length + k) : gi (vals gs inp m) z = gi (vals gs inp k) z := by
  induction m with
  | zero => obtain rfl : k = 0 := by omega
            rfl
  | succ m ih =>
    rcases Nat.lt_or_ge k (m + 1) with h | h
    · rw [vals_succ, gi_append_l (by rw [vals_len]; omega), ih (by omega)]
    · obtain rfl : k = m + 1 := by omega
      rfl
theorem gi_last {xs : List Int} {v : Int} {n : Nat} (h : xs.length = n) : gi (xs ++ [v]) n = v := by subst h; exact gi_append_r xs v
theorem vals_gate {gs : List G3} {inp : List Int} {X k n : Nat} (hX : inp.length = X) (hk : k < n) (hg : GateIs (gg gs k) ((X : Int) + k)) : gi (vals gs inp n) (X + k) = gval (gg gs k) (vals gs inp n) := by
  rw [vals_keep (k := k + 1) (by omega) (by omega), vals_succ, gi_last (by rw [vals_len, hX])]
  refine gval_same hg fun z hz => ?_
  have := prt_lt hg z hz
  exact (vals_keep (by omega) (by omega)).symm
theorem vals_01 {gs : List G3} {inp : List Int} {X m : Nat} (hX : inp.length = X) (hi : allB 0 1 inp = true) (hg : ∀ j : Nat, j < m → GateIs (gg gs j) ((X : Int) + j)) : ∀ k, k ≤ m → allB 0 1 (vals gs inp k) = true := by
  intro k
  induction k with
  | zero => intro _; exact hi
  | succ k ih =>
    intro hk
    have h1 := ih (by omega)
    rw [vals_succ]
    refine allB_snoc h1 (gval_bd (n := X + k) ?_ (by rw [vals_len, hX]) h1)
    have := hg k (by omega)
    rwa [show ((X + k : Nat) : Int) = (X : Int) + k by omega]
theorem bxor_comm {a b : Int} (ha : 0 ≤ a ∧ a ≤ 1) (hb : 0 ≤ b ∧ b ≤ 1) : bxor a b = bxor b a := by
  rcases (show a = 0 ∨ a = 1 by omega) with rfl | rfl <;> rcases (show b = 0 ∨ b = 1 by omega) with rfl | rfl <;> decide
theorem band_comm {a b : Int} (ha : 0 ≤ a ∧ a ≤ 1) (hb : 0 ≤ b ∧ b ≤ 1) : band a b = band b a := by rw [band_bit ha hb, band_bit hb ha, Int.mul_comm]
theorem sameG_val {o g : G3} {n : Int} {V : List Int} (ho : GateIs o n) (h : sameG o g = true) (hV : allB 0 1 V = true) : gval o V = gval g V := by
  obtain ⟨ok, oa, ob⟩ := o
  obtain ⟨gk, ga, gb⟩ := g
  have b1 := gi_bd0 hV (by omega) oa.toNat
  have b2 := gi_bd0 hV (by omega) ob.toNat
  simp only [sameG, Bool.and_eq_true, Bool.or_eq_true, beq_iff_eq] at h
  obtain ⟨rfl, h⟩ := h
  rcases h with ⟨rfl, rfl⟩ | ⟨hk, rfl, rfl⟩
  · rfl
  · rcases hk with rfl | rfl
    · simp only [gval, if_true]; exact bxor_comm b1 b2
    · simp only [gval]; simpa using band_comm b1 b2
theorem same1_lt {hs : List G3} {g : G3} {s : Nat} (h : same1 hs g = s) (hs' : s < hs.length) : sameG (gg hs s) g = true := by
  subst h
  have := List.findIdx_getElem (xs := hs) (p := fun o => sameG o g) (w := hs')
  rw [gg_lt hs']
  exact this
theorem inL_iff {l : List Int} {z : Int} : inL l z = true ↔ z ∈ l := by simp [inL]
theorem drp_succ_u {X : Nat} {gs : List G3} {U : List Int} {k : Nat} (h : (X : Int) + k ∈ U) : drp X gs U (k + 1) = ((drp X gs U k).1 ++ [mvG (fun w => gi (drp X gs U k).2 w.toNat) (gg gs k)], (drp X gs U k).2 ++ [(X : Int) + (drp X gs U k).1.length]) := by
  simp only [drp]; rw [if_pos (inL_iff.2 h)]
theorem drp_succ_n {X : Nat} {gs : List G3} {U : List Int} {k : Nat} (h : ¬ (X : Int) + k ∈ U) : drp X gs U (k + 1) = ((drp X gs U k).1, (drp X gs U k).2 ++ [(X : Int) + (drp X gs U k).1.length]) := by
  simp only [drp]; rw [if_neg (fun hc => h (inL_iff.1 hc))]
theorem drp_bd {X : Nat} {gs : List G3} {U : List Int} : ∀ k (z : Nat), z < X + k → (z < X ∨ (z : Int) ∈ U) → 0 ≤ gi (drp X gs U k).2 z ∧ gi (drp X gs U k).2 z < (X : Int) + (drp X gs U k).1.length := by
  intro k
  induction k with
  | zero =>
    intro z hz _
    rw [show (drp X gs U 0).2 = spn 0 X from rfl, gi_spn (by omega)]
    show 0 ≤ (z : Int) ∧ (z : Int) < (X : Int) + (([] : List G3).length : Nat)
    simp; omega
  | succ k ih =>
    intro z hz hu
    have hl := (drp_len X gs U k).2
    by_cases h : (X : Int) + k ∈ U
    · rw [drp_succ_u h]
      rcases Nat.lt_or_ge z (X + k) with h1 | h1
      · have := ih z h1 hu
        dsimp only
        rw [gi_append_l (by omega), List.length_append]; simp; omega
      · obtain rfl : z = X + k := by omega
        dsimp only
        rw [gi_last hl, List.length_append]; simp; omega
    · rw [drp_succ_n h]
      rcases Nat.lt_or_ge z (X + k) with h1 | h1
      · have := ih z h1 hu
        dsimp only
        rw [gi_append_l (by omega)]; exact this
      · exfalso
        rcases hu with hu | hu
        · omega
        · exact h (by rwa [show ((z : Nat) : Int) = (X : Int) + k by omega] at hu)
theorem drp_vals {X : Nat} {gs : List G3} {U inp : List Int} {m : Nat} (hX : inp.length = X) (hg : ∀ j : Nat, j < m → GateIs (gg gs j) ((X : Int) + j)) (hc : ∀ j : Nat, j < m → (X : Int) + j ∈ U → ∀ z ∈ prt (gg gs j), z ∈ U) :
    ∀ k, k ≤ m → ∀ z : Nat, z < X + k → (z < X ∨ (z : Int) ∈ U) → gi (vals (drp X gs U k).1 inp (drp X gs U k).1.length) (gi (drp X gs U k).2 z).toNat = gi (vals gs inp k) z := by
  intro k
  induction k with
  | zero =>
    intro _ z hz _
    rw [show (drp X gs U 0).2 = spn 0 X from rfl, gi_spn (by omega)]
    rfl
  | succ k ih =>
    intro hk z hz hu
    have ihk := ih (by omega)
    have hl := (drp_len X gs U k).2
    have hb := drp_bd (X := X) (gs := gs) (U := U) k
    have hgk := hg k (by omega)
    rcases Nat.lt_or_ge z (X + k) with h1 | h1
    · have e1 := ihk z h1 hu
      have hbz := hb z h1 hu
      rw [vals_keep (gs := gs) (k := k) (by omega) (by omega), ← e1]
      by_cases h : (X : Int) + k ∈ U
      · rw [drp_succ_u h]
        dsimp only
        rw [gi_append_l (by omega), List.length_append, show ([mvG (fun w => gi (drp X gs U k).2 w.toNat) (gg gs k)] : List G3).length = 1 from rfl]
        rw [vals_keep (k := (drp X gs U k).1.length) (by omega) (by omega)]
        rw [vals_gs (hs := (drp X gs U k).1) _ (fun j hj => gg_append_l (by omega))]
      · rw [drp_succ_n h]
        dsimp only
        rw [gi_append_l (by omega)]
    · obtain rfl : z = X + k := by omega
      have h : (X : Int) + k ∈ U := by
        rcases hu with hu | hu
        · omega
        · rwa [show ((X + k : Nat) : Int) = (X : Int) + k by omega] at hu
      rw [drp_succ_u h]
      dsimp only
      rw [gi_last hl, List.length_append, show ([mvG (fun w => gi (drp X gs U k).2 w.toNat) (gg gs k)] : List G3).length = 1 from rfl, vals_succ, vals_succ]
      rw [vals_gs (hs := (drp X gs U k).1) _ (fun j hj => gg_append_l (by omega)), gg_append_r]
      rw [show ((X : Int) + ((drp X gs U k).1.length : Nat)).toNat = X + (drp X gs U k).1.length by omega, gi_last (by rw [vals_len, hX]), gi_last (by rw [vals_len, hX])]
      refine gval_parts hgk fun y hy => ?_
      have hy2 := prt_lt hgk y hy
      have hyU := hc k (by omega) h y hy
      have := ihk y.toNat (by omega) (.inr (by rwa [show ((y.toNat : Nat) : Int) = y by omega]))
      exact this
theorem drp_dst {X : Nat} {gs : List G3} {U : List Int} {m : Nat} (hg : ∀ j : Nat, j < m → GateIs (gg gs j) ((X : Int) + j)) (hc : ∀ j : Nat, j < m → (X : Int) + j ∈ U → ∀ z ∈ prt (gg gs j), z ∈ U) :
    ∀ k, k ≤ m → ∀ j : Nat, j < k → (X : Int) + j ∈ U → ∃ r, r < (drp X gs U k).1.length ∧ gi (drp X gs U k).2 (X + j) = (X : Int) + r ∧ gg (drp X gs U k).1 r = mvG (fun w => gi (drp X gs U k).2 w.toNat) (gg gs j) ∧ GateIs (gg (drp X gs U k).1 r) ((X : Int) + r) := by
  intro k
  induction k with
  | zero => intro _ j hj; omega
  | succ k ih =>
    intro hk j hj hu
    have hl := (drp_len X gs U k).2
    have hb := drp_bd (X := X) (gs := gs) (U := U) k
    have same : ∀ j : Nat, j ≤ k → j < m → ∀ v : Int, mvG (fun w => gi ((drp X gs U k).2 ++ [v]) w.toNat) (gg gs j) = mvG (fun w => gi (drp X gs U k).2 w.toNat) (gg gs j) := fun j hj hm v => mvG_parts (hg j hm) fun z hz => by
      have := prt_lt (hg j hm) z hz
      exact gi_append_l (by omega)
    rcases Nat.lt_or_ge j k with h1 | h1
    · obtain ⟨r, r1, r2, r3, r4⟩ := ih (by omega) j h1 hu
      by_cases h : (X : Int) + k ∈ U
      · rw [drp_succ_u h]
        dsimp only
        refine ⟨r, by simp; omega, by rw [gi_append_l (by omega)]; exact r2, ?_, ?_⟩
        · rw [gg_append_l r1, same j (by omega) (by omega)]; exact r3
        · rw [gg_append_l r1]; exact r4
      · rw [drp_succ_n h]
        dsimp only
        refine ⟨r, r1, by rw [gi_append_l (by omega)]; exact r2, ?_, r4⟩
        rw [same j (by omega) (by omega)]; exact r3
    · obtain rfl : j = k := by omega
      rw [drp_succ_u hu]
      dsimp only
      refine ⟨(drp X gs U j).1.length, by simp, gi_last hl, ?_, ?_⟩
      · rw [gg_append_r, same j (Nat.le_refl _) (by omega)]
      · rw [gg_append_r]
        have hgj := hg j (by omega)
        have key : ∀ z ∈ prt (gg gs j), 0 ≤ gi (drp X gs U j).2 z.toNat ∧ gi (drp X gs U j).2 z.toNat < (X : Int) + (drp X gs U j).1.length := fun z hz => by
          have h2 := prt_lt hgj z hz
          have h3 := hc j (by omega) hu z hz
          exact hb z.toNat (by omega) (.inr (by rwa [show ((z.toNat : Nat) : Int) = z by omega]))
        generalize gg gs j = g at *
        obtain ⟨gk, ga, gb⟩ := g
        cases hgj with
        | xor_ h0 => dsimp only at h0; subst h0; have k1 := key ga (by simp [prt]); have k2 := key gb (by simp [prt]); exact .xor_ (by simp [mvG]) (by simpa [mvG] using k1.1) (by simpa [mvG] using k1.2) (by simpa [mvG] using k2.1) (by simpa [mvG] using k2.2)
        | and_ h0 => dsimp only at h0; subst h0; have k1 := key ga (by simp [prt]); have k2 := key gb (by simp [prt]); exact .and_ (by simp [mvG]) (by simpa [mvG] using k1.1) (by simpa [mvG] using k1.2) (by simpa [mvG] using k2.1) (by simpa [mvG] using k2.2)
        | not_ h0 h1 h2 h3 => dsimp only at h0 h3; subst h0; subst h3; have k1 := key ga (by simp [prt]); exact .not_ (by simp [mvG]) (by simpa [mvG] using k1.1) (by simpa [mvG] using k1.2) (by simp [mvG])
        | one_ h0 h1 h2 => dsimp only at h0 h1 h2; subst h0; subst h1; subst h2; exact .one_ (by simp [mvG]) (by simp [mvG]) (by simp [mvG])
theorem drp_src {X : Nat} {gs : List G3} {U : List Int} : ∀ k, ∀ i, i < (drp X gs U k).1.length → ∃ j : Nat, j < k ∧ (X : Int) + j ∈ U ∧ gi (drp X gs U k).2 (X + j) = (X : Int) + i := by
  intro k
  induction k with
  | zero => intro i hi; exact absurd hi (by show ¬ i < ([] : List G3).length; simp)
  | succ k ih =>
    intro i hi
    have hl := (drp_len X gs U k).2
    by_cases h : (X : Int) + k ∈ U
    · rw [drp_succ_u h] at hi ⊢
      dsimp only at hi ⊢
      rw [List.length_append, show ([mvG (fun w => gi (drp X gs U k).2 w.toNat) (gg gs k)] : List G3).length = 1 from rfl] at hi
      rcases Nat.lt_or_ge i (drp X gs U k).1.length with h1 | h1
      · obtain ⟨j, j1, j2, j3⟩ := ih i h1
        exact ⟨j, by omega, j2, by rw [gi_append_l (by omega)]; exact j3⟩
      · exact ⟨k, by omega, h, by rw [gi_last hl, show i = (drp X gs U k).1.length by omega]⟩
    · rw [drp_succ_n h] at hi ⊢
      dsimp only at hi ⊢
      obtain ⟨j, j1, j2, j3⟩ := ih i hi
      exact ⟨j, by omega, j2, by rw [gi_append_l (by omega)]; exact j3⟩
def tabL (N : Nat) (f : Nat → List Int) : List (List Int) := (List.range N).map f
theorem tabL_len (N : Nat) (f : Nat → List Int) : (tabL N f).length = N := by simp [tabL]
theorem tabL_snoc (N : Nat) (f : Nat → List Int) : tabL (N + 1) f = tabL N f ++ [f N] := by simp [tabL, List.range_succ]
theorem gl_tabL {N k : Nat} {f : Nat → List Int} (h : k < N) : gl (tabL N f) k = f k := by simp [gl, tabL, h]
set_option maxRecDepth 100000 in
set_option maxHeartbeats 1600000 in
theorem Circuit_table_any (x y : Int) (Ag : Option Addr) (ng cg : Nat) (Ao : Option Addr) (no co : Nat) (gs : List G3) (os : List Int) (X N : Nat) (w : World) (hr : RG w Ag ng gs ∧ RI w Ao no os) (hx : 0 ≤ x ∧ x ≤ 20) (hy : 0 ≤ y ∧ y ≤ 20) (hX : x + y = X) (hX10 : X ≤ 10) (hN : N = 2 ^ X) (hgat : gatesB X gs gs.length = true) (hos : allB 0 ((X : Int) + gs.length - 1) os = true) (hng : ng ≤ 300) (hno : no ≤ 40) :
    Calls Try.prog 63 #[.agg #[.int .i64 x, .int .i64 y, .slice Ag ng cg, .slice Ao no co]] w (RetII w (tabL N (outsN gs os X))) := by
  have hB : Below w.heap.size w (w.alloc (.cells #[.int .i64 x, .int .i64 y, .slice Ag ng cg, .slice Ao no co] 26)) := (Below.refl _ _).alloc (Nat.le_refl _) _
  have hlg := hr.1.len
  have hlo := hr.2.len
  have hos' : allB 0 (((X + ng : Nat) : Int) - 1) os = true := by rw [show (((X + ng : Nat) : Int) - 1) = (X : Int) + gs.length - 1 from by omega]; exact hos
  have hob := Lib.hid fun n => outsN_bd hgat hos n
  have hvl := Lib.hid fun n => show (vals gs (bitsN n X) ng).length = X + ng from by rw [vals_len, bitsN_len]
  have hon := Lib.hid fun n => show outsN gs os X n = pick (vals gs (bitsN n X) ng) os from by rw [outsN, hlg]
  rw [hlg] at hgat
  obtain ⟨hP, hsh⟩ := pow_wrap hN hX10
  clear hN hos
  have hown1 := OwnII.new0 (w.alloc (.cells #[.int .i64 x, .int .i64 y, .slice Ag ng cg, .slice Ao no co] 26)) (w.heap.size + 1) (by simp)
  have hbA := (Below.refl (w.heap.size + 1) (w.alloc (.cells #[.int .i64 x, .int .i64 y, .slice Ag ng cg, .slice Ao no co] 26))).alloc (by simp) (.cells #[] 24)
  have hBA : Below w.heap.size w ((w.alloc (.cells #[.int .i64 x, .int .i64 y, .slice Ag ng cg, .slice Ao no co] 26)).alloc (.cells #[] 24)) := hB.alloc (by simp) _
  have q0 := box_at hbA
  obtain ⟨k0, k1, k2, k3⟩ := q0
  go_enter Try.func63, Try.ntmps63
  go_wp2_with fail
  refine (Circuit_inputs_any x y Ag ng cg Ao no co _ hx hy).mono ?_
  rintro e v1 ⟨rfl, hb1⟩
  rw [hX]
  have hz1 := hb1.size
  simp only [World.size_alloc] at hz1
  have hb1' := hbA.trans (hb1.mono (by simp))
  have hown2 := (hown1.hi_ (hi' := v1.heap.size) (by simp; omega)).below hb1 (Nat.le_refl _)
  clear hown1 hbA k0 k1 k2 k3
  go_wp2_with fail
  rw [hsh]
  go_loopw [3, 10] (fun v i wr => ∃ (k : Nat) (A' : Option Addr) (c' : Nat), k ≤ N ∧ i = .int .i64 k ∧ v = .slice A' k c' ∧ OwnII wr (w.heap.size + 1) wr.heap.size (.slice A' k c') k (tabL k (outsN gs os X)) ∧ Below (w.heap.size + 1) (w.alloc (.cells #[.int .i64 x, .int .i64 y, .slice Ag ng cg, .slice Ao no co] 26)) wr) (fun _ i _ => N - (intOf i).toNat)
  case atStart => exact ⟨0, _, _, Nat.zero_le _, rfl, rfl, by simpa [tabL] using hown2, hb1'⟩
  case round =>
    clear hb1 hb1' hz1 hown2 hBA
    obtain ⟨k, A', c', hk, rfl, rfl, hown, hb⟩ := hrel
    have hbw : Below w.heap.size w wr := hB.trans (hb.mono (by omega))
    obtain ⟨k0, k1, k2, k3⟩ := box_at hb
    by_cases hlt : k < N
    · have hsn : Hid (tabL (k + 1) (outsN gs os X) = tabL k (outsN gs os X) ++ [outsN gs os X k]) := Lib.hid (tabL_snoc k _)
      have hbk := hob.out k
      have hOl := hlo ▸ outsN_len gs os X k
      obtain ⟨O, hO⟩ : ∃ O, Hid (outsN gs os X k = O) := ⟨_, rfl⟩
      have hPk : Hid (pick (vals gs (bitsN k X) ng) os = O) := Lib.hid ((hon.out k).symm.trans hO.out)
      have hvk := hvl.out k
      rw [hO.out] at hbk hOl hsn
      have hz := hb.size
      simp only [World.size_alloc] at hz
      have hbd := below_drewN hbw 1
      have hfar := hown.from_
      go_wp2_with fail
      go_region_held3 (fun w' => w'.cell? ⟨w.heap.size, 0, none⟩ = some (.int .i64 x) ∧ w'.cell? ⟨w.heap.size, 1, none⟩ = some (.int .i64 y) ∧ w'.cell? ⟨w.heap.size, 2, none⟩ = some (.slice Ag ng cg) ∧ w'.cell? ⟨w.heap.size, 3, none⟩ = some (.slice Ao no co))
        (first | go_keep | (go_split_ands; exact ⟨hk5 _ _ _ (by assumption) (fun g9 hg9 he9 => by first | omega | (have := hfar _ hg9; omega) | (simp only [Option.some.injEq, Addr.mk.injEq, and_true] at hg9; omega)), hk5 _ _ _ (by assumption) (fun g9 hg9 he9 => by first | omega | (have := hfar _ hg9; omega) | (simp only [Option.some.injEq, Addr.mk.injEq, and_true] at hg9; omega)), hk5 _ _ _ (by assumption) (fun g9 hg9 he9 => by first | omega | (have := hfar _ hg9; omega) | (simp only [Option.some.injEq, Addr.mk.injEq, and_true] at hg9; omega)), hk5 _ _ _ (by assumption) (fun g9 hg9 he9 => by first | omega | (have := hfar _ hg9; omega) | (simp only [Option.some.injEq, Addr.mk.injEq, and_true] at hg9; omega))⟩) | (go_split_ands; exact ⟨cell_below (by assumption) hb3, cell_below (by assumption) hb3, cell_below (by assumption) hb3, cell_below (by assumption) hb3⟩) | (go_split_ands; exact ⟨cell_below (by assumption) hb2, cell_below (by assumption) hb2, cell_below (by assumption) hb2, cell_below (by assumption) hb2⟩) | (go_split_ands; exact ⟨cell_below (by assumption) hb1, cell_below (by assumption) hb1, cell_below (by assumption) hb1, cell_below (by assumption) hb1⟩) | (go_split_ands; exact ⟨cell_below (by assumption) hb0, cell_below (by assumption) hb0, cell_below (by assumption) hb0, cell_below (by assumption) hb0⟩))
        (first | (go_at_call 18; refine (Circuit_inputs_any x y Ag ng cg Ao no co _ hx hy).mono ?_; rintro e W0 ⟨rfl, hb0⟩; rw [hX]; have hs0 : wr.heap.size ≤ W0.heap.size := hb0.size) | (go_at_call 83; refine (bitsOf_any k X _ (by omega) (by omega)).mono ?_; rintro e W1 hT; obtain ⟨A1, c1, rfl, ho1, hb1⟩ := hT.open_ (bitsN_len _ _); have hs1 : W0.heap.size ≤ W1.heap.size := hb1.size) | (go_at_call 82; refine (Circuit_values_any x y Ag ng cg Ao no co A1 X c1 gs (bitsN k X) _ (hr.1.below (hbd.trans ((bnext hb0 hb1).mono hbd.size)) (Nat.le_refl _)) ho1.reads (bitsN_bd _ _) hgat (by omega) (by omega)).mono ?_; rintro e W2 hT; obtain ⟨A2, c2, rfl, ho2, hb2⟩ := hT.open_ hvk; have hs2 := hb2.size) | (go_at_call 47; refine (at_any A2 Ao (X + ng) c2 no co (vals gs (bitsN k X) ng) os _ ho2.reads (hr.2.below (hbd.trans ((bnext (bnext hb0 hb1) hb2).mono hbd.size)) (Nat.le_refl _)) (by omega) (by omega) hos').mono ?_; rintro e W3 hT; rw [hPk.out] at hT; obtain ⟨A3, c3, rfl, ho3, hb3⟩ := hT.open_ hOl; have hs3 := hb3.size) | (refine step_appL _ (by rfl) _ _ (by rfl) (by rfl) ((hown.below (bnext (bnext (bnext (bnext (below_of_drewN 1) hb0) hb1) hb2) hb3) (Nat.le_refl _)).alloc _) (by rfl) (ho3.alloc _) (box_cell _ _ 0 _ rfl) (by omega) (by omega) (by omega) (by first | omega | (simp; done) | (simp; omega)) ?_; intro A5 c5 w5 hown5 hg5 hk5))
      have hb5 := below_chain_appL hb hz (bnext (bnext (bnext (bnext (below_of_drewN 1) hb0) hb1) hb2) hb3) ((hown.below (bnext (bnext (bnext (bnext (below_of_drewN 1) hb0) hb1) hb2) hb3) (Nat.le_refl _)).alloc _) hg5 (Nat.le_refl _)
      rw [← hsn.out] at hown5
      clear hown hb hb0 hb1 hb2 hb3 hg5 hk5 hbk hPk
      go_wp2
      go_roundw
      case rel => exact ⟨k + 1, _, _, by omega, by go_num, rfl, hown5, hb5⟩
      case measure => simp [intOf]; omega
    · obtain rfl : N = k := by omega
      go_wp2
      go_ret
      exact RetII.mk_ (tabL_len _ _) rfl (hown.lo_ (by omega)) hbw
theorem box2_at {w wr : World} {x y : Int} {Ag : Option Addr} {ng cg : Nat} {Ao : Option Addr} {no co : Nat} {x2 y2 : Int} {Bg : Option Addr} {mg dg : Nat} {Bo : Option Addr} {mo do_ : Nat} {T T2 : TypeId}
    (hb : Below (w.heap.size + 2) ((w.alloc (.cells #[.int .i64 x, .int .i64 y, .slice Ag ng cg, .slice Ao no co] T)).alloc (.cells #[.int .i64 x2, .int .i64 y2, .slice Bg mg dg, .slice Bo mo do_] T2)) wr) : BxC wr w.heap.size x y Ag ng cg Ao no co ∧ BxC wr (w.heap.size + 1) x2 y2 Bg mg dg Bo mo do_ := by
  have q1 : BxC (w.alloc (.cells #[.int .i64 x, .int .i64 y, .slice Ag ng cg, .slice Ao no co] T)) w.heap.size x y Ag ng cg Ao no co := BxC.new _ _
  have q2 := BxC.below (w' := (w.alloc (.cells #[.int .i64 x, .int .i64 y, .slice Ag ng cg, .slice Ao no co] T)).alloc (.cells #[.int .i64 x2, .int .i64 y2, .slice Bg mg dg, .slice Bo mo do_] T2)) q1 ((Below.refl _ _).alloc (Nat.le_refl _) _)
  have q3 : BxC ((w.alloc (.cells #[.int .i64 x, .int .i64 y, .slice Ag ng cg, .slice Ao no co] T)).alloc (.cells #[.int .i64 x2, .int .i64 y2, .slice Bg mg dg, .slice Bo mo do_] T2)) (w.heap.size + 1) x2 y2 Bg mg dg Bo mo do_ := by
    have := BxC.new (w.alloc (.cells #[.int .i64 x, .int .i64 y, .slice Ag ng cg, .slice Ao no co] T)) (x := x2) (y := y2) (Ag := Bg) (ng := mg) (cg := dg) (Ao := Bo) (no := mo) (co := do_) T2
    simpa using this
  have hb' := hb.mono (B := w.heap.size + 2) (B' := ((w.alloc (.cells #[.int .i64 x, .int .i64 y, .slice Ag ng cg, .slice Ao no co] T)).alloc (.cells #[.int .i64 x2, .int .i64 y2, .slice Bg mg dg, .slice Bo mo do_] T2)).heap.size)
  exact ⟨q2.below (by simpa using hb), q3.below (by simpa using hb)⟩
theorem smallB_bd {x y : Int} {gs : List G3} {os : List Int} {lim : Nat} (h : smallB x y gs os lim = true) : circB x y gs os = true ∧ x + y ≤ 10 ∧ os.length ≤ lim := by
  simp only [smallB, Bool.and_eq_true, decide_eq_true_eq] at h; exact h
def RetZO (w : World) (o : Option Int) (e : Ending) (w' : World) : Prop := e = .returned (.tuple #[.int .i64 (o.getD 0), .bool o.isSome]) ∧ Below w.heap.size w w'
theorem RetZO.none_ {w : World} {o : Option Int} {e : Ending} {w' : World} (hb : Below w.heap.size w w') (ho : o = none) (he : e = .returned (.tuple #[.int .i64 0, .bool false])) : RetZO w o e w' := by subst ho; exact ⟨he, hb⟩
theorem RetZO.some_ {w : World} {o : Option Int} {z : Int} {e : Ending} {w' : World} (hb : Below w.heap.size w w') (ho : o = some z) (he : e = .returned (.tuple #[.int .i64 z, .bool true])) : RetZO w o e w' := by subst ho; exact ⟨he, hb⟩
def pairB (x y : Int) (gs : List G3) (os : List Int) (x2 y2 : Int) (hs : List G3) (ps : List Int) : Bool :=
  smallB x y gs os 40 && (smallB x2 y2 hs ps 40 && (decide (x = x2) && (decide (y = y2) && decide (os.length = ps.length))))
theorem pairB_bd {x y : Int} {gs : List G3} {os : List Int} {x2 y2 : Int} {hs : List G3} {ps : List Int} (h : pairB x y gs os x2 y2 hs ps = true) : smallB x y gs os 40 = true ∧ smallB x2 y2 hs ps 40 = true ∧ x = x2 ∧ y = y2 ∧ os.length = ps.length := by
  simp only [pairB, Bool.and_eq_true, decide_eq_true_eq] at h
  exact h
def uneqF (x y : Int) (gs : List G3) (os : List Int) (hs : List G3) (ps : List Int) : Int := uneq (outsN gs os (x + y).toNat) (outsN hs ps (x + y).toNat) (2 ^ (x + y).toNat)
def firstF (x y : Int) (gs : List G3) (os : List Int) (x2 y2 : Int) (hs : List G3) (ps : List Int) : Option Int :=
  if pairB x y gs os x2 y2 hs ps = true ∧ 0 ≤ uneqF x y gs os hs ps then some (uneqF x y gs os hs ps) else none
end Go.Proofs.Ytikgagjoapggnaa
