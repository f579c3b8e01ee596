/- Plain facts of circuits' shapes: counts of kinds, depths, used wires, two circuits beside each other. No program in sight. -/
import Derived.Test.YtgenehiiakdadaaQBes
import Derived.Test.YtgenehiiakdadaaQKcs
import Derived.Test.YtgenehiiakdadaaQDrp
namespace Go.Proofs.Ytgenehiiakdadaa
open Go.RowKit
set_option linter.unusedVariables false
set_option linter.unusedSimpArgs false

/-- The counts of kinds. -/
def ctF (x y : Int) (gs : List G3) (os : List Int) : Option (List Int) := if circB x y gs os = true then some (cntK gs gs.length) else none
theorem ctF_len (x y : Int) (gs : List G3) (os : List Int) : ((ctF x y gs os).getD []).length ≤ 4 := by
  unfold ctF; split
  · simp [cntK_len]
  · simp
theorem cnt_at {gs : List G3} {k : Nat} (h : 0 ≤ (gg gs k).k ∧ (gg gs k).k ≤ 3) {j : Nat} (hj : j < 4) : gi (cntK gs (k + 1)) j = gi (cntK gs k) j + if (gg gs k).k = (j : Int) then 1 else 0 := by
  rw [cntK]
  have hl := cntK_len gs k
  unfold gi
  simp only [List.getD_eq_getElem?_getD]
  by_cases h1 : (gg gs k).k = (j : Int)
  · rw [if_pos h1, h1]
    simp only [Int.toNat_natCast, List.getElem?_set, hl, hj, if_true, Option.getD_some]
  · rw [if_neg h1, List.getElem?_set_ne (by omega)]
    simp
theorem cnt_sum {gs : List G3} : ∀ k, (∀ j, j < k → 0 ≤ (gg gs j).k ∧ (gg gs j).k ≤ 3) → gi (cntK gs k) 0 + gi (cntK gs k) 1 + gi (cntK gs k) 2 + gi (cntK gs k) 3 = k := by
  intro k
  induction k with
  | zero => intro _; rfl
  | succ k ih =>
    intro h
    have hk := h k (by omega)
    have hi := ih (fun j hj => h j (by omega))
    rw [cnt_at hk (by omega), cnt_at hk (by omega), cnt_at hk (by omega), cnt_at hk (by omega)]
    rcases (show (gg gs k).k = 0 ∨ (gg gs k).k = 1 ∨ (gg gs k).k = 2 ∨ (gg gs k).k = 3 by omega) with h0 | h0 | h0 | h0 <;> rw [h0] <;> simp <;> omega
/-- Kinds alone are counted. -/
theorem cnt_kinds {gs hs : List G3} : ∀ k, (∀ j, j < k → (gg gs j).k = (gg hs j).k) → cntK gs k = cntK hs k := by
  intro k
  induction k with
  | zero => intro _; rfl
  | succ k ih => intro h; rw [cntK, cntK, ih (fun j hj => h j (by omega)), h k (by omega)]
theorem gg_app_l {gs hs : List G3} {j : Nat} (h : j < gs.length) : gg (gs ++ hs) j = gg gs j := by
  unfold gg; rw [List.getD_eq_getElem?_getD, List.getD_eq_getElem?_getD, List.getElem?_append_left h]
theorem gg_app_r {gs hs : List G3} {j : Nat} : gg (gs ++ hs) (gs.length + j) = gg hs j := by
  unfold gg; rw [List.getD_eq_getElem?_getD, List.getD_eq_getElem?_getD, List.getElem?_append_right (by omega)]; simp
theorem cnt_app {gs hs : List G3} : ∀ m, (∀ j, j < m → 0 ≤ (gg hs j).k ∧ (gg hs j).k ≤ 3) → ∀ j, j < 4 → gi (cntK (gs ++ hs) (gs.length + m)) j = gi (cntK gs gs.length) j + gi (cntK hs m) j := by
  intro m
  induction m with
  | zero =>
    intro _ j hj
    rw [Nat.add_zero, cnt_kinds (gs := gs ++ hs) (hs := gs) gs.length (fun i hi => by rw [gg_app_l hi])]
    have : gi (cntK hs 0) j = 0 := by
      rcases (show j = 0 ∨ j = 1 ∨ j = 2 ∨ j = 3 by omega) with rfl | rfl | rfl | rfl <;> rfl
    rw [this, Int.add_zero]
  | succ m ih =>
    intro h j hj
    have hi := ih (fun i hi => h i (by omega)) j hj
    rw [show gs.length + (m + 1) = gs.length + m + 1 by omega, cnt_at (by rw [gg_app_r]; exact h m (by omega)) hj, cnt_at (h m (by omega)) hj, hi, gg_app_r]
    omega
theorem gg_map {f : G3 → G3} {gs : List G3} {j : Nat} (h : j < gs.length) : gg (gs.map f) j = f (gg gs j) := by
  unfold gg; rw [List.getD_eq_getElem?_getD, List.getD_eq_getElem?_getD, List.getElem?_map, List.getElem?_eq_getElem h]; rfl
theorem mvG_kind (f : Int → Int) (g : G3) : (mvG f g).k = g.k := by unfold mvG; split; rfl; split <;> rfl
theorem mvs_all (to : Int → Int) (ds : List G3) : mvs to ds ds.length = ds.map (mvG to) := by unfold mvs; rw [List.take_of_length_le (Nat.le_refl _)]
theorem besGs_eq (x y u v : Int) (gs hs : List G3) : besGs x y u v gs hs = gs.map (mvG (bes1 x y u v)) ++ hs.map (mvG (bes2 x y u v gs.length)) := by unfold besGs; rw [mvs_all, mvs_all]
theorem besGs_len (x y u v : Int) (gs hs : List G3) : (besGs x y u v gs hs).length = gs.length + hs.length := by rw [besGs_eq]; simp
theorem besGs_l (x y u v : Int) {gs hs : List G3} {j : Nat} (h : j < gs.length) : gg (besGs x y u v gs hs) j = mvG (bes1 x y u v) (gg gs j) := by
  rw [besGs_eq, gg_app_l (by simpa using h), gg_map h]
theorem besGs_r (x y u v : Int) {gs hs : List G3} {j : Nat} (h : j < hs.length) : gg (besGs x y u v gs hs) (gs.length + j) = mvG (bes2 x y u v gs.length) (gg hs j) := by
  have h1 := gg_app_r (gs := gs.map (mvG (bes1 x y u v))) (hs := hs.map (mvG (bes2 x y u v gs.length))) (j := j)
  rw [List.length_map] at h1
  rw [besGs_eq, h1, gg_map h]
/-- The counts of two circuits beside each other are the sums. -/
theorem bes_cnt {x y u v : Int} {gs hs : List G3} (hk : ∀ j, j < hs.length → 0 ≤ (gg hs j).k ∧ (gg hs j).k ≤ 3) {j : Nat} (hj : j < 4) :
    gi (cntK (besGs x y u v gs hs) (besGs x y u v gs hs).length) j = gi (cntK gs gs.length) j + gi (cntK hs hs.length) j := by
  have h1 := cnt_app (gs := gs.map (mvG (bes1 x y u v))) (hs := hs.map (mvG (bes2 x y u v gs.length))) hs.length (fun i hi => by rw [gg_map hi, mvG_kind]; exact hk i hi) j hj
  rw [← besGs_eq] at h1
  rw [besGs_len]
  simp only [List.length_map] at h1
  rw [h1, cnt_kinds (hs := gs) gs.length (fun i hi => by rw [gg_map hi, mvG_kind]), cnt_kinds (gs := hs.map (mvG (bes2 x y u v gs.length))) (hs := hs) hs.length (fun i hi => by rw [gg_map hi, mvG_kind])]

/-- The depth of a gate; b: of gates GtAnd alone. -/
def dv (b : Bool) (g : G3) (d : List Int) : Int :=
  (if g.k = 0 ∨ g.k = 1 then max (gi d g.a.toNat) (gi d g.b.toNat) else if g.k = 2 then gi d g.a.toNat else 0) + (if b = true then (if g.k = 1 then 1 else 0) else 1)
/-- The depths of the wires behind k gates. -/
def dps (b : Bool) (gs : List G3) (X : Nat) : Nat → List Int
  | 0 => List.replicate X 0
  | k + 1 => dps b gs X k ++ [dv b (gg gs k) (dps b gs X k)]
theorem dps_len (b : Bool) (gs : List G3) (X k : Nat) : (dps b gs X k).length = X + k := by
  induction k with
  | zero => simp [dps]
  | succ k ih => simp [dps, ih]; omega
theorem gi_app_l {xs ys : List Int} {j : Nat} (h : j < xs.length) : gi (xs ++ ys) j = gi xs j := by
  unfold gi; rw [List.getD_eq_getElem?_getD, List.getD_eq_getElem?_getD, List.getElem?_append_left h]
theorem gi_app_at {xs : List Int} {y : Int} {n : Nat} (h : xs.length = n) : gi (xs ++ [y]) n = y := by
  subst h; unfold gi; rw [List.getD_eq_getElem?_getD, List.getElem?_append_right (by omega)]; simp
theorem dps_keep (b : Bool) (gs : List G3) (X : Nat) {k m z : Nat} (hk : k ≤ m) (hz : z < X + k) : gi (dps b gs X m) z = gi (dps b gs X k) z := by
  induction m with
  | zero => obtain rfl : k = 0 := by omega
            rfl
  | succ m ih =>
    rcases Nat.lt_or_ge k (m + 1) with h | h
    · rw [dps, gi_app_l (by rw [dps_len]; omega), ih (by omega)]
    · obtain rfl : k = m + 1 := by omega
      rfl
theorem gi_rep (X j : Nat) : gi (List.replicate X (0 : Int)) j = 0 := by
  unfold gi; rw [List.getD_eq_getElem?_getD, List.getElem?_replicate]; split <;> rfl
theorem dv_bd {b : Bool} {g : G3} {d : List Int} {M : Int} (h : ∀ j, 0 ≤ gi d j ∧ gi d j ≤ M) : 0 ≤ dv b g d ∧ dv b g d ≤ M + 1 := by
  have h1 := h g.a.toNat
  have h2 := h g.b.toNat
  unfold dv
  have e : 0 ≤ (if b = true then (if g.k = 1 then (1 : Int) else 0) else 1) ∧ (if b = true then (if g.k = 1 then (1 : Int) else 0) else 1) ≤ 1 := by
    split
    · split <;> omega
    · omega
  generalize (if b = true then (if g.k = 1 then (1 : Int) else 0) else 1) = c at e
  split
  · omega
  · split <;> omega
theorem gi_out {xs : List Int} {j : Nat} (h : xs.length ≤ j) : gi xs j = 0 := by
  unfold gi; rw [List.getD_eq_getElem?_getD, List.getElem?_eq_none h]; rfl
theorem dps_bd (b : Bool) (gs : List G3) (X : Nat) : ∀ k j, 0 ≤ gi (dps b gs X k) j ∧ gi (dps b gs X k) j ≤ k := by
  intro k
  induction k with
  | zero => intro j; rw [dps, gi_rep]; omega
  | succ k ih =>
    intro j
    rcases Nat.lt_trichotomy j (X + k) with h | h | h
    · rw [dps, gi_app_l (by rw [dps_len]; exact h)]; have := ih j; omega
    · rw [dps, gi_app_at (by rw [dps_len, h])]; have := dv_bd (b := b) (g := gg gs k) ih; omega
    · rw [gi_out (by rw [dps_len]; omega)]; omega
/-- The depth of a gate out of the depths of all wires. -/
theorem dps_gate {b : Bool} {gs : List G3} {X n k : Nat} (hk : k < n) (hg : GateIs (gg gs k) ((X : Int) + k)) : gi (dps b gs X n) (X + k) = dv b (gg gs k) (dps b gs X n) := by
  rw [dps_keep b gs X (k := k + 1) (by omega) (by omega), dps, gi_app_at (dps_len _ _ _ _)]
  have hp := prt_lt hg
  have key : ∀ z ∈ prt (gg gs k), gi (dps b gs X k) z.toNat = gi (dps b gs X n) z.toNat := fun z hz => by
    have := hp z hz
    exact (dps_keep b gs X (by omega) (by omega)).symm
  unfold prt at key
  unfold dv
  by_cases h1 : (gg gs k).k = 0 ∨ (gg gs k).k = 1
  · rw [if_pos h1] at key
    rw [if_pos h1, if_pos h1, key _ (by simp), key (gg gs k).b (by simp)]
  · rw [if_neg h1] at key
    rw [if_neg h1, if_neg h1]
    by_cases h2 : (gg gs k).k = 2
    · rw [if_pos h2] at key
      rw [if_pos h2, if_pos h2, key _ (by simp)]
    · rw [if_neg h2, if_neg h2]
theorem dps_in (b : Bool) (gs : List G3) (X n : Nat) {z : Nat} (h : z < X) : gi (dps b gs X n) z = 0 := by
  rw [dps_keep b gs X (k := 0) (by omega) (by omega), dps, gi_rep]
/-- The greatest of some. -/
def mxo (d : List Int) (os : List Int) : Int := os.foldl (fun m o => max m (gi d o.toNat)) 0
theorem mx_snoc (d os : List Int) (o : Int) : mxo d (os ++ [o]) = max (mxo d os) (gi d o.toNat) := by simp [mxo]
theorem mx_take {d os : List Int} {k : Nat} (h : k < os.length) : mxo d (os.take (k + 1)) = max (mxo d (os.take k)) (gi d (gi os k).toNat) := by rw [gi_take_snoc h, mx_snoc]
theorem fold_ge (d : List Int) : ∀ (os : List Int) (m : Int), m ≤ os.foldl (fun m o => max m (gi d o.toNat)) m := by
  intro os
  induction os with
  | nil => intro m; exact Int.le_refl _
  | cons a os ih => intro m; have := ih (max m (gi d a.toNat)); simp only [List.foldl_cons]; omega
theorem fold_mono (d e : List Int) (f : Int → Int) : ∀ (os : List Int) (m n : Int), m ≤ n → (∀ o ∈ os, gi d o.toNat = gi e (f o).toNat) → os.foldl (fun m o => max m (gi d o.toNat)) m ≤ (os.map f).foldl (fun m o => max m (gi e o.toNat)) n := by
  intro os
  induction os with
  | nil => intro m n h _; exact h
  | cons a os ih =>
    intro m n h hm
    simp only [List.map_cons, List.foldl_cons]
    refine ih _ _ ?_ (fun o ho => hm o (by simp [ho]))
    have := hm a (by simp)
    omega
theorem mx_bd {d os : List Int} {M : Int} (h0 : 0 ≤ M) (h : ∀ j, gi d j ≤ M) : 0 ≤ mxo d os ∧ mxo d os ≤ M := by
  refine ⟨fold_ge d os 0, ?_⟩
  have key : ∀ (os : List Int) (m : Int), m ≤ M → os.foldl (fun m o => max m (gi d o.toNat)) m ≤ M := by
    intro os
    induction os with
    | nil => intro m hm; exact hm
    | cons a os ih => intro m hm; simp only [List.foldl_cons]; exact ih _ (by have := h a.toNat; omega)
  exact key os 0 h0
theorem mx_app (d os ps : List Int) : mxo d os ≤ mxo d (os ++ ps) := by unfold mxo; rw [List.foldl_append]; exact fold_ge d ps _
/-- What DepthOf returns. -/
def depA (x y : Int) (gs : List G3) (os : List Int) : Int := if circB x y gs os = true then mxo (dps false gs (x + y).toNat gs.length) os else 0
def depB (x y : Int) (gs : List G3) (os : List Int) : Int := if circB x y gs os = true then mxo (dps true gs (x + y).toNat gs.length) os else 0

theorem circB_is {x y : Int} {gs : List G3} {os : List Int} (h : circB x y gs os = true) : (0 ≤ x ∧ x ≤ 20) ∧ (0 ≤ y ∧ y ≤ 20) ∧ gs.length ≤ 300 ∧ os.length ≤ 40 ∧ (∀ k : Nat, k < gs.length → GateIs (gg gs k) (x + y + k)) ∧ ∀ z ∈ os, 0 ≤ z ∧ z < x + y + gs.length := by
  have hb := circB_bd h
  refine ⟨hb.1, hb.2.1, hb.2.2.1, hb.2.2.2.1, circB_gate_at h rfl, fun z hz => ?_⟩
  have := allB_iff.1 hb.2.2.2.2.2 z hz
  omega
/-- The depths of the first circuit's wires, of the second's, beside each other. -/
theorem bes_dep {b : Bool} {x y u v : Int} {gs hs : List G3} (hx : 0 ≤ x) (hy : 0 ≤ y) (hu : 0 ≤ u) (hv : 0 ≤ v) (hg : ∀ k : Nat, k < gs.length → GateIs (gg gs k) (x + y + k)) (hh : ∀ k : Nat, k < hs.length → GateIs (gg hs k) (u + v + k))
    (hB : ∀ k : Nat, k < (besGs x y u v gs hs).length → GateIs (gg (besGs x y u v gs hs) k) ((x + u) + (y + v) + k)) {D : List Int} (hD : D = dps b (besGs x y u v gs hs) ((x + u) + (y + v)).toNat (besGs x y u v gs hs).length) :
    (∀ z : Nat, z < (x + y).toNat + gs.length → gi (dps b gs (x + y).toNat gs.length) z = gi D (bes1 x y u v z).toNat) ∧ ∀ z : Nat, z < (u + v).toNat + hs.length → gi (dps b hs (u + v).toNat hs.length) z = gi D (bes2 x y u v gs.length z).toNat := by
  have hl := besGs_len x y u v gs hs
  have gD : ∀ k : Nat, k < gs.length + hs.length → gi D (((x + u) + (y + v)).toNat + k) = dv b (gg (besGs x y u v gs hs) k) D := fun k hk => by
    rw [hD]; exact dps_gate (by omega) (by have := hB k (by omega); rw [show ((((x + u) + (y + v)).toNat : Nat) : Int) = (x + u) + (y + v) by omega]; exact this)
  have iD : ∀ k : Nat, k < ((x + u) + (y + v)).toNat → gi D k = 0 := fun k hk => by rw [hD]; exact dps_in _ _ _ _ hk
  have mv : ∀ (f : Int → Int) (g : G3) (E : List Int), (∀ z ∈ prt g, gi E z.toNat = gi D (f z).toNat) → dv b g E = dv b (mvG f g) D := fun f g E h => by
    unfold prt at h
    unfold dv mvG
    by_cases h1 : g.k = 0 ∨ g.k = 1
    · rw [if_pos h1] at h
      simp only [if_pos h1]
      rw [h _ (by simp), h g.b (by simp)]
    · rw [if_neg h1] at h
      simp only [if_neg h1]
      by_cases h2 : g.k = 2
      · rw [if_pos h2] at h
        simp only [if_pos h2, if_neg h1]
        rw [h _ (by simp)]
      · simp only [if_neg h2, if_neg h1]
  constructor
  · intro z
    induction z using Nat.strongRecOn with
    | ind z ih =>
      intro hz
      by_cases hin : z < (x + y).toNat
      · rw [dps_in _ _ _ _ hin, iD]
        unfold bes1
        split
        · omega
        · split <;> omega
      · obtain ⟨k, rfl⟩ : ∃ k, z = (x + y).toNat + k := ⟨z - (x + y).toNat, by omega⟩
        have hk : k < gs.length := by omega
        have hgk := hg k hk
        rw [dps_gate hk (by rw [show (((x + y).toNat : Nat) : Int) = x + y by omega]; exact hgk)]
        have e : (bes1 x y u v (((x + y).toNat + k : Nat) : Int)).toNat = ((x + u) + (y + v)).toNat + k := by
          unfold bes1; rw [if_neg (by omega), if_neg (by omega)]; omega
        rw [e, gD k (by omega), besGs_l x y u v hk]
        refine mv _ _ _ fun w hw => ?_
        have hwl := prt_lt hgk w hw
        have := ih w.toNat (by omega) (by omega)
        rw [this, show ((w.toNat : Nat) : Int) = w by omega]
  · intro z
    induction z using Nat.strongRecOn with
    | ind z ih =>
      intro hz
      by_cases hin : z < (u + v).toNat
      · rw [dps_in _ _ _ _ hin, iD]
        unfold bes2
        split
        · omega
        · split <;> omega
      · obtain ⟨k, rfl⟩ : ∃ k, z = (u + v).toNat + k := ⟨z - (u + v).toNat, by omega⟩
        have hk : k < hs.length := by omega
        have hgk := hh k hk
        rw [dps_gate hk (by rw [show (((u + v).toNat : Nat) : Int) = u + v by omega]; exact hgk)]
        have e : (bes2 x y u v gs.length (((u + v).toNat + k : Nat) : Int)).toNat = ((x + u) + (y + v)).toNat + (gs.length + k) := by
          unfold bes2; rw [if_neg (by omega), if_neg (by omega)]; omega
        rw [e, gD (gs.length + k) (by omega), besGs_r x y u v hk]
        refine mv _ _ _ fun w hw => ?_
        have hwl := prt_lt hgk w hw
        have := ih w.toNat (by omega) (by omega)
        rw [this, show ((w.toNat : Nat) : Int) = w by omega]
/-- Two circuits beside each other are as deep as each of them at least. -/
theorem bes_mx {b : Bool} {x y u v : Int} {gs hs : List G3} {os ps : List Int} (h1 : circB x y gs os = true) (h2 : circB u v hs ps = true) (h3 : circB (x + u) (y + v) (besGs x y u v gs hs) (besOs x y u v gs os ps) = true) :
    mxo (dps b gs (x + y).toNat gs.length) os ≤ mxo (dps b (besGs x y u v gs hs) ((x + u) + (y + v)).toNat (besGs x y u v gs hs).length) (besOs x y u v gs os ps) ∧
    mxo (dps b hs (u + v).toNat hs.length) ps ≤ mxo (dps b (besGs x y u v gs hs) ((x + u) + (y + v)).toNat (besGs x y u v gs hs).length) (besOs x y u v gs os ps) := by
  obtain ⟨hx, hy, _, _, hg, ho⟩ := circB_is h1
  obtain ⟨hu, hv, _, _, hh, hp⟩ := circB_is h2
  obtain ⟨_, _, _, _, hB, _⟩ := circB_is h3
  obtain ⟨d1, d2⟩ := bes_dep (b := b) hx.1 hy.1 hu.1 hv.1 hg hh hB rfl
  have e : besOs x y u v gs os ps = os.map (bes1 x y u v) ++ ps.map (bes2 x y u v gs.length) := by unfold besOs mvo; rw [List.take_of_length_le (Nat.le_refl _), List.take_of_length_le (Nat.le_refl _)]
  rw [e]
  constructor
  · refine Int.le_trans (fold_mono _ _ (bes1 x y u v) os 0 0 (Int.le_refl _) fun o hm => ?_) (mx_app _ _ _)
    have := ho o hm
    have h := d1 o.toNat (by omega)
    rw [show ((o.toNat : Nat) : Int) = o by omega] at h
    exact h
  · unfold mxo
    rw [List.foldl_append]
    refine fold_mono _ _ (bes2 x y u v gs.length) ps 0 _ (fold_ge _ _ _) fun o hm => ?_
    have := hp o hm
    have h := d2 o.toNat (by omega)
    rw [show ((o.toNat : Nat) : Int) = o by omega] at h
    exact h

/-- Lists in order. -/
def srt (l : List Int) : Prop := l.Pairwise (· < ·)
theorem putL_nil (x : Int) : putL [] x = [x] := by simp [putL, lessN]
theorem putL_cons (a : Int) (l : List Int) (x : Int) : putL (a :: l) x = if a < x then a :: putL l x else if a = x then a :: l else x :: a :: l := by
  unfold putL
  by_cases h : a < x
  · have e : lessN (a :: l) x = lessN l x + 1 := by simp [lessN, h]
    have g : gi (a :: l) (lessN l x + 1) = gi l (lessN l x) := by simp [gi]
    rw [if_pos h, e, g]
    by_cases h2 : gi l (lessN l x) = x ∧ lessN l x < l.length
    · rw [if_pos h2, if_pos ⟨h2.1, by simpa using h2.2⟩]
    · rw [if_neg h2, if_neg (fun hc => h2 ⟨hc.1, by simpa using hc.2⟩)]
      simp
  · have e : lessN (a :: l) x = 0 := by simp [lessN, h]
    have g : gi (a :: l) 0 = a := rfl
    rw [if_neg h, e, g]
    by_cases h2 : a = x
    · rw [if_pos h2, if_pos ⟨h2, by simp⟩]
    · rw [if_neg h2, if_neg (fun hc => h2 hc.1)]
      simp
theorem putL_srt {l : List Int} (h : srt l) (x : Int) : srt (putL l x) := by
  induction l with
  | nil => rw [putL_nil]; exact List.pairwise_singleton _ _
  | cons a l ih =>
    have hc := List.pairwise_cons.1 h
    rw [putL_cons]
    split
    · rename_i hax
      refine List.pairwise_cons.2 ⟨fun z hz => ?_, ih hc.2⟩
      rcases putL_mem.1 hz with rfl | hz
      · exact hax
      · exact hc.1 z hz
    · rename_i hax
      split
      · exact h
      · rename_i hne
        refine List.pairwise_cons.2 ⟨fun z hz => ?_, h⟩
        rcases List.mem_cons.1 hz with rfl | hz
        · omega
        · have := hc.1 z hz; omega
theorem puts_srt {xs : List Int} : ∀ {l : List Int}, srt l → srt (puts l xs) := by
  induction xs with
  | nil => intro l h; exact h
  | cons a xs ih => intro l h; exact ih (putL_srt h a)
theorem usd_srt {X : Nat} {gs : List G3} : ∀ (k : Nat) {L : List Int}, srt L → srt (usd X gs k L) := by
  intro k
  induction k with
  | zero => intro L h; exact h
  | succ k ih =>
    intro L h
    refine ih ?_
    unfold stp
    split
    · exact puts_srt h
    · exact h
theorem srt_ext : ∀ {l m : List Int}, srt l → srt m → (∀ z, z ∈ l ↔ z ∈ m) → l = m := by
  intro l
  induction l with
  | nil =>
    intro m _ _ h
    cases m with
    | nil => rfl
    | cons b m => have := (h b).2 (by simp); simp at this
  | cons a l ih =>
    intro m hl hm h
    cases m with
    | nil => have := (h a).1 (by simp); simp at this
    | cons b m =>
      have cl := List.pairwise_cons.1 hl
      have cm := List.pairwise_cons.1 hm
      have hab : a = b := by
        have h1 := (h a).1 (by simp)
        have h2 := (h b).2 (by simp)
        rcases List.mem_cons.1 h1 with h1 | h1
        · exact h1
        · rcases List.mem_cons.1 h2 with h2 | h2
          · exact h2.symm
          · have := cl.1 b h2; have := cm.1 a h1; omega
      subst hab
      congr 1
      refine ih cl.2 cm.2 fun z => ⟨fun hz => ?_, fun hz => ?_⟩
      · rcases List.mem_cons.1 ((h z).1 (by simp [hz])) with rfl | h3
        · have := cl.1 z hz; omega
        · exact h3
      · rcases List.mem_cons.1 ((h z).2 (by simp [hz])) with rfl | h3
        · have := cm.1 z hz; omega
        · exact h3
/-- The wires below k that a list holds, in order. -/
def rowK (L : List Int) : Nat → List Int
  | 0 => []
  | k + 1 => if inL L (k : Int) = true then rowK L k ++ [(k : Int)] else rowK L k
theorem rowK_mem {L : List Int} : ∀ (k : Nat) (z : Int), z ∈ rowK L k ↔ z ∈ L ∧ 0 ≤ z ∧ z < k := by
  intro k
  induction k with
  | zero =>
    intro z
    constructor
    · intro h; cases h
    · rintro ⟨_, h1, h2⟩; omega
  | succ k ih =>
    intro z
    rw [rowK]
    by_cases h : inL L (k : Int) = true
    · have hk : (k : Int) ∈ L := by unfold inL at h; exact of_decide_eq_true h
      rw [if_pos h, List.mem_append, ih z]
      constructor
      · rintro (h1 | h1)
        · exact ⟨h1.1, h1.2.1, by omega⟩
        · have : z = k := by simpa using h1
          subst this; exact ⟨hk, by omega, by omega⟩
      · rintro ⟨h1, h2, h3⟩
        by_cases hz : z = (k : Int)
        · right; simp [hz]
        · left; exact ⟨h1, h2, by omega⟩
    · have hk : ¬ (k : Int) ∈ L := fun hc => h (by unfold inL; exact decide_eq_true hc)
      rw [if_neg h, ih z]
      constructor
      · rintro ⟨h1, h2, h3⟩; exact ⟨h1, h2, by omega⟩
      · rintro ⟨h1, h2, h3⟩
        refine ⟨h1, h2, ?_⟩
        have : z ≠ (k : Int) := fun hc => hk (hc ▸ h1)
        omega
theorem rowK_srt {L : List Int} : ∀ k : Nat, srt (rowK L k) := by
  intro k
  induction k with
  | zero => exact List.Pairwise.nil
  | succ k ih =>
    rw [rowK]
    split
    · refine List.pairwise_append.2 ⟨ih, List.pairwise_singleton _ _, fun a ha b hb => ?_⟩
      have := (rowK_mem k a).1 ha
      have : b = k := by simpa using hb
      omega
    · exact ih
theorem rowK_len (L : List Int) (k : Nat) : (rowK L k).length ≤ k := by
  induction k with
  | zero => simp [rowK]
  | succ k ih =>
    rw [rowK]
    split
    · simp; omega
    · omega
theorem rowK_used {X : Nat} {gs : List G3} {os : List Int} {n : Nat} (hg : ∀ j, j < gs.length → GateIs (gg gs j) ((X : Int) + j)) (ho : ∀ z ∈ os, 0 ≤ z ∧ z < (X : Int) + gs.length) (hn : n = X + gs.length) : rowK (usedL X gs os) n = usedL X gs os := by
  refine srt_ext (rowK_srt n) (usd_srt _ (puts_srt List.Pairwise.nil)) fun z => ?_
  rw [rowK_mem]
  have hb := usd_bd (X := X) (gs := gs) (m := gs.length) (L := puts [] os) (n := (X : Int) + gs.length) hg (Int.le_refl _) (fun z hz => by
    rcases puts_mem.1 hz with h | h
    · exact ho z h
    · cases h)
  constructor
  · exact fun h => h.1
  · intro h
    have := hb z h
    exact ⟨h, this.1, by omega⟩
theorem used_outs {X : Nat} {gs : List G3} {os : List Int} : ∀ z ∈ os, z ∈ usedL X gs os := fun z hz => usd_mono (puts_mem.2 (.inl hz))
/-- What UsedWires returns. -/
def uwF (x y : Int) (gs : List G3) (os : List Int) : Option (List Int) := if circB x y gs os = true then some (usedL (x + y).toNat gs os) else none

end Go.Proofs.Ytgenehiiakdadaa
