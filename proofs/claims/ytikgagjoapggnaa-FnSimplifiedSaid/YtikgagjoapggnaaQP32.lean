/- Contracts of the counts of kinds. Plain facts of circuits' shapes: counts of kinds, depths, used wires, two circuits beside each other. No program in sight. CountGates and UsedWires, both hands. Lengths below 2^21. Plain facts: a simplified circuit keeps the values and has no more gates of the kind 'and'. No program in sight. -/
import Derived.Test.YtikgagjoapggnaaQP16
import Derived.Test.YtikgagjoapggnaaQP29
import Derived.Test.YtikgagjoapggnaaQP17
import Derived.Test.YtikgagjoapggnaaQP27
namespace Go.Proofs.Ytikgagjoapggnaa
open Go.RowKit
set_option linter.unusedVariables false
set_option linter.unusedSimpArgs false
def cntK (gs : List G3) : Nat → List Int
  | 0 => List.replicate 4 0
  | k + 1 => (cntK gs k).set (gg gs k).k.toNat (gi (cntK gs k) (gg gs k).k.toNat + 1)
theorem cntK_len (gs : List G3) (k : Nat) : (cntK gs k).length = 4 := by
  induction k with
  | zero => rfl
  | succ k ih => simp [cntK, ih]
theorem gi_set_bd {l : List Int} {i j : Nat} {v lo hi : Int} (hl : lo ≤ gi l j ∧ gi l j ≤ hi) (hv : lo ≤ v ∧ v ≤ hi) : lo ≤ gi (l.set i v) j ∧ gi (l.set i v) j ≤ hi := by
  unfold gi at *
  rw [List.getD_eq_getElem?_getD] at *
  rw [List.getElem?_set]
  split
  · split
    · simpa using hv
    · rename_i h1 h2; subst h1; rw [List.getElem?_eq_none (by omega)] at hl; exact hl
  · exact hl
theorem cntK_bd (gs : List G3) (k j : Nat) : 0 ≤ gi (cntK gs k) j ∧ gi (cntK gs k) j ≤ k := by
  induction k generalizing j with
  | zero =>
    unfold gi cntK
    rw [List.getD_eq_getElem?_getD, List.getElem?_replicate]
    split <;> simp
  | succ k ih =>
    rw [cntK]
    have h1 := ih j
    have h2 := ih (gg gs k).k.toNat
    exact gi_set_bd ⟨h1.1, by omega⟩ ⟨by omega, by omega⟩
set_option maxRecDepth 100000 in
set_option maxHeartbeats 2000000 in
theorem countKinds_any (Ag : Option Addr) (ng cg : Nat) (gs : List G3) (w : World) (hr : RG w Ag ng gs) (hng : ng ≤ 2097152) (hkd : ∀ k, k < ng → 0 ≤ (gg gs k).k ∧ (gg gs k).k ≤ 3) :
    Calls Try.prog 35 #[.slice Ag ng cg] w (RetI w (cntK gs ng)) := by
  obtain ⟨i0, hi, hz0, hz1, hz2⟩ := info_parts info_int
  have HB := Lib.hid (cntK_bd gs)
  have HL := Lib.hid (cntK_len gs)
  have HS : Hid (∀ k, cntK gs (k + 1) = (cntK gs k).set (gg gs k).k.toNat (gi (cntK gs k) (gg gs k).k.toNat + 1)) := Lib.hid fun k => rfl
  have hB0 : Below w.heap.size w w := Below.refl _ _
  go_enter Try.func35, Try.ntmps35
  go_wp2_with (at_make; refine wpList_make_full _ rfl _ _ 24 rfl (w.heap.size) 3 i0 (.int .i64 0) 1 Try.underlying24 hi hz0 hz1 _ _ _ _ 4 rfl rfl rfl rfl (by rw [hz2]; omega) (by unfold maxLen; omega) (by simp) ?_; intro w3 hown hgrow)
  have hrep : w3.ownsRow (w.heap.size) 3 1 (.slice (some ⟨w.heap.size, 0, none⟩) 4 4) 4 ((cntK gs 0).map (Value.int .i64)) := by
    have h : (madeCells (Value.int .i64 0).cells (4 * 1)).toList = (cntK gs 0).map (Value.int .i64) := by
      simp [Value.cells, toList_madeCells_one, cntK]
    rw [← h]; first | exact hown | (simp only [World.size_alloc] at hown; exact hown)
  have hown3 := Own.mk_ hrep
  have hb3 := below_of_grownBy hgrow
  have hB3 := hB0.trans (hb3.mono hB0.size)
  clear hrep hown hgrow hb3
  go_wp2
  go_loopw [9] (fun i wr => ∃ k : Nat, k ≤ ng ∧ i = .int .i64 k ∧ Own wr (w.heap.size) w3.heap.size (.slice (some ⟨w.heap.size, 0, none⟩) 4 4) 4 (cntK gs k) ∧ Below w.heap.size w wr) (fun i _ => ng - (intOf i).toNat)
  case atStart => exact ⟨0, Nat.zero_le _, rfl, hown3, hB3⟩
  case round =>
    obtain ⟨k, hk, rfl, ho, hb⟩ := hrel
    clear hown3 hB3
    have hz := hb.size
    by_cases hlt : k < ng
    · obtain ⟨kb, ob, rfl, hkb, c1, c2, c3⟩ := (hr.below hb (Nat.le_refl _)).at_ hlt
      have hk3 := hkd k hlt
      have hS := Lib.hid (HS.out k)
      have hbd := HB.out k (gg gs k).k.toNat
      generalize gg gs k = GG at *
      obtain ⟨gk, ga, gb⟩ := GG
      dsimp only at c1 c2 c3 hk3 hS hbd
      obtain ⟨K, rfl⟩ : ∃ K : Nat, gk = K := ⟨gk.toNat, by omega⟩
      have hK : K < 4 := by omega
      have hS' : Hid (cntK gs (k + 1) = (cntK gs k).set K (gi (cntK gs k) K + 1)) := Lib.hid hS.out
      have hbd' : 0 ≤ gi (cntK gs k) K ∧ gi (cntK gs k) K ≤ (k : Int) := hbd
      clear hS hbd hk3
      obtain ⟨v, hv⟩ : ∃ v, Hid (gi (cntK gs k) K = v) := ⟨_, Lib.hid rfl⟩
      have hoA := ho.alloc (.cells #[.int .i64 K, .int .i64 ga, .int .i64 gb] 50)
      have hbA := hb.alloc hz (.cells #[.int .i64 K, .int .i64 ga, .int .i64 gb] 50)
      obtain ⟨hc, hf⟩ := hoA.cellAt hK
      obtain ⟨hs0, _⟩ := ho.stored K (gi (cntK gs k) K + 1)
      rw [← hS'.out] at hs0
      rw [hv.out] at hc hs0 hbd'
      have hs1 := hs0.alloc (.cells #[.int .i64 K, .int .i64 ga, .int .i64 gb] 50)
      have hlw := hoA.lt (w.heap.size) (by simp [Value.ownBlock])
      simp only [World.size_alloc] at hlw
      have hl3 : w.heap.size < wr.heap.size := by have := ho.lt (w.heap.size) (by simp [Value.ownBlock]); omega
      have hbS := (hb.setCell (p := ⟨w.heap.size, K, none⟩) (by show w.heap.size ≤ w.heap.size; omega) (.int .i64 (v + 1))).alloc (by simpa using hz) (.cells #[.int .i64 K, .int .i64 ga, .int .i64 gb] 50)
      clear ho hb hoA hbA hv hS' hs0
      go_wp2
      go_roundw
      case rel => exact ⟨k + 1, by omega, by go_num, hs1, hbS⟩
      case measure => simp [intOf]; omega
    · obtain rfl : ng = k := Nat.le_antisymm (Nat.le_of_not_lt hlt) hk
      go_wp2
      go_ret
      exact RetI.mk_ (HL.out ng) rfl ((ho.lo_ (by omega)).now) hb
set_option maxRecDepth 100000 in
set_option maxHeartbeats 2000000 in
theorem ciCounts_any (x y : Int) (Ag : Option Addr) (ng cg : Nat) (Ao : Option Addr) (no co : Nat) (gs : List G3) (w : World) (hr : RG w Ag ng gs) (hng : ng ≤ 2097152) (hkd : ∀ k, k < ng → 0 ≤ (gg gs k).k ∧ (gg gs k).k ≤ 3) :
    Calls Try.prog 36 #[.agg #[.int .i64 x, .int .i64 y, .slice Ag ng cg, .slice Ao no co]] w (RetI w (cntK gs ng)) := by
  obtain ⟨i0, hi, hz0, hz1, hz2⟩ := info_parts info_int
  have HB := Lib.hid (cntK_bd gs)
  have HL := Lib.hid (cntK_len gs)
  have HS : Hid (∀ k, cntK gs (k + 1) = (cntK gs k).set (gg gs k).k.toNat (gi (cntK gs k) (gg gs k).k.toNat + 1)) := Lib.hid fun k => rfl
  have hB0 : Below w.heap.size w (w.alloc (.cells #[.int .i64 x, .int .i64 y, .slice Ag ng cg, .slice Ao no co] 26)) := (Below.refl _ _).alloc (Nat.le_refl _) _
  go_enter Try.func36, Try.ntmps36
  go_wp2_with (at_make; refine wpList_make_full _ rfl _ _ 24 rfl (w.heap.size + 1) 3 i0 (.int .i64 0) 1 Try.underlying24 hi hz0 hz1 _ _ _ _ 4 rfl rfl rfl rfl (by rw [hz2]; omega) (by unfold maxLen; omega) (by simp) ?_; intro w3 hown hgrow; have hbq := below_of_grownBy hgrow; have q2 := cell_below (box_cell w #[.int .i64 x, .int .i64 y, .slice Ag ng cg, .slice Ao no co] (T := 26) 2 _ rfl) hbq)
  have hrep : w3.ownsRow (w.heap.size + 1) 3 1 (.slice (some ⟨w.heap.size + 1, 0, none⟩) 4 4) 4 ((cntK gs 0).map (Value.int .i64)) := by
    have h : (madeCells (Value.int .i64 0).cells (4 * 1)).toList = (cntK gs 0).map (Value.int .i64) := by
      simp [Value.cells, toList_madeCells_one, cntK]
    rw [← h]; first | exact hown | (simp only [World.size_alloc] at hown; exact hown)
  have hown3 := Own.mk_ hrep
  have hb3 := below_of_grownBy hgrow
  have hB3 := hB0.trans (hb3.mono hB0.size)
  clear hrep hown hgrow hb3
  go_wp2
  go_loopw [10] (fun i wr => ∃ k : Nat, k ≤ ng ∧ i = .int .i64 k ∧ Own wr (w.heap.size + 1) w3.heap.size (.slice (some ⟨w.heap.size + 1, 0, none⟩) 4 4) 4 (cntK gs k) ∧ Below w.heap.size w wr) (fun i _ => ng - (intOf i).toNat)
  case atStart => exact ⟨0, Nat.zero_le _, rfl, hown3, hB3⟩
  case round =>
    obtain ⟨k, hk, rfl, ho, hb⟩ := hrel
    clear hown3 hB3
    have hz := hb.size
    by_cases hlt : k < ng
    · obtain ⟨kb, ob, rfl, hkb, c1, c2, c3⟩ := (hr.below hb (Nat.le_refl _)).at_ hlt
      have hk3 := hkd k hlt
      have hS := Lib.hid (HS.out k)
      have hbd := HB.out k (gg gs k).k.toNat
      generalize gg gs k = GG at *
      obtain ⟨gk, ga, gb⟩ := GG
      dsimp only at c1 c2 c3 hk3 hS hbd
      obtain ⟨K, rfl⟩ : ∃ K : Nat, gk = K := ⟨gk.toNat, by omega⟩
      have hK : K < 4 := by omega
      have hS' : Hid (cntK gs (k + 1) = (cntK gs k).set K (gi (cntK gs k) K + 1)) := Lib.hid hS.out
      have hbd' : 0 ≤ gi (cntK gs k) K ∧ gi (cntK gs k) K ≤ (k : Int) := hbd
      clear hS hbd hk3
      obtain ⟨v, hv⟩ : ∃ v, Hid (gi (cntK gs k) K = v) := ⟨_, Lib.hid rfl⟩
      have hoA := ho.alloc (.cells #[.int .i64 K, .int .i64 ga, .int .i64 gb] 50)
      have hbA := hb.alloc hz (.cells #[.int .i64 K, .int .i64 ga, .int .i64 gb] 50)
      obtain ⟨hc, hf⟩ := hoA.cellAt hK
      obtain ⟨hs0, _⟩ := ho.stored K (gi (cntK gs k) K + 1)
      rw [← hS'.out] at hs0
      rw [hv.out] at hc hs0 hbd'
      have hs1 := hs0.alloc (.cells #[.int .i64 K, .int .i64 ga, .int .i64 gb] 50)
      have hlw := hoA.lt (w.heap.size + 1) (by simp [Value.ownBlock])
      simp only [World.size_alloc] at hlw
      have hl3 : w.heap.size + 1 < wr.heap.size := by have := ho.lt (w.heap.size + 1) (by simp [Value.ownBlock]); omega
      have hbS := (hb.setCell (p := ⟨w.heap.size + 1, K, none⟩) (by show w.heap.size ≤ w.heap.size + 1; omega) (.int .i64 (v + 1))).alloc (by simpa using hz) (.cells #[.int .i64 K, .int .i64 ga, .int .i64 gb] 50)
      clear ho hb hoA hbA hv hS' hs0
      go_wp2
      go_roundw
      case rel => exact ⟨k + 1, by omega, by go_num, hs1, hbS⟩
      case measure => simp [intOf]; omega
    · obtain rfl : ng = k := Nat.le_antisymm (Nat.le_of_not_lt hlt) hk
      go_wp2
      go_ret
      exact RetI.mk_ (HL.out ng) rfl ((ho.lo_ (by omega)).now) hb
def ctF (x y : Int) (gs : List G3) (os : List Int) : Option (List Int) := if circB x y gs os = true then some (cntK gs gs.length) else none
def dv (b : Bool) (g : G3) (d : List Int) : Int :=
  (if g.k = 0 ∨ g.k = 1 then max (gi d g.a.toNat) (gi d g.b.toNat) else if g.k = 2 then gi d g.a.toNat else 0) + (if b = true then (if g.k = 1 then 1 else 0) else 1)
theorem GateIs.kd {g : G3} {n : Int} (h : GateIs g n) : 0 ≤ g.k ∧ g.k ≤ 3 := by cases h <;> omega
theorem gate_kd {x y : Int} {gs : List G3} {os : List Int} (h : circB x y gs os = true) {n : Nat} (hl : gs.length = n) : ∀ k, k < n → 0 ≤ (gg gs k).k ∧ (gg gs k).k ≤ 3 := fun k hk => (circB_gate_at h hl k hk).kd
set_option maxHeartbeats 1000000 in
theorem CountGates_any (x y : Int) (Ag : Option Addr) (ng cg : Nat) (Ao : Option Addr) (no co : Nat) (gs : List G3) (os : List Int) (w : World) (hr : RG w Ag ng gs ∧ RI w Ao no os) (hng : ng ≤ 2097152) (hno : no ≤ 2097152) :
    Calls Try.prog 13 #[.agg #[.int .i64 x, .int .i64 y, .slice Ag ng cg, .slice Ao no co]] w (RetO w (ctF x y gs os)) := by
  have hB : Below w.heap.size w (w.alloc (.cells #[.int .i64 x, .int .i64 y, .slice Ag ng cg, .slice Ao no co] 26)) := (Below.refl _ _).alloc (Nat.le_refl _) _
  have hx0 : BxC (w.alloc (.cells #[.int .i64 x, .int .i64 y, .slice Ag ng cg, .slice Ao no co] 26)) w.heap.size x y Ag ng cg Ao no co := BxC.new w _
  have hs0 : (w.alloc (.cells #[.int .i64 x, .int .i64 y, .slice Ag ng cg, .slice Ao no co] 26)).heap.size = w.heap.size + 1 := by simp
  have hlg := hr.1.len
  have hlo := hr.2.len
  have hq := hx0; obtain ⟨k0, k1, k2, k3⟩ := hq
  cases h0 : circB x y gs os with
  | false =>
    have HR : Hid (ctF x y gs os = none) := Lib.hid (by simp [ctF, h0])
    have H0 := Lib.hid h0; clear h0
    go_enter Try.func13, Try.ntmps13
    go_wp2_with fail
    refine (IsCircuit_any x y Ag ng cg Ao no co gs os _ (hr.1.below hB (Nat.le_refl _)) (hr.2.below hB (Nat.le_refl _)) hng hno).mono ?_
    rintro e v1 ⟨rfl, hb1⟩
    rw [H0.out]
    go_wp2
    go_ret2
    exact RetO.none_ (hB.trans (hb1.mono hB.size)) HR.out rfl
  | true =>
    have HR : Hid (ctF x y gs os = some (cntK gs ng)) := Lib.hid (by simp [ctF, h0, hlg])
    have hkd := gate_kd h0 hlg
    have H0 := Lib.hid h0; clear h0
    go_enter Try.func13, Try.ntmps13
    go_wp2_with fail
    refine (IsCircuit_any x y Ag ng cg Ao no co gs os _ (hr.1.below hB (Nat.le_refl _)) (hr.2.below hB (Nat.le_refl _)) hng hno).mono ?_
    rintro e v1 ⟨rfl, hb1⟩
    rw [H0.out]
    have hx1 := hx0.below hb1
    have hB1 := hB.trans (hb1.mono hB.size)
    have hz1 := hb1.size
    rw [hs0] at hz1
    clear k0 k1 k2 k3 hx0 hb1 hB
    have hq := hx1; obtain ⟨k0, k1, k2, k3⟩ := hq
    go_wp2_with fail
    refine (countKinds_any Ag ng cg gs _ (hr.1.below hB1 (Nat.le_refl _)) hng hkd).mono ?_
    rintro e v2 hT
    obtain ⟨A', c', rfl, ho, hb2⟩ := hT.open_ (cntK_len gs ng)
    go_wp2
    go_ret2
    exact RetO.some_ (hB1.trans (hb2.mono hB1.size)) HR.out (cntK_len gs ng) rfl (ho.lo_ hB1.size)
set_option maxHeartbeats 1000000 in
theorem spec_CountGates_any (x y : Int) (Ag : Option Addr) (ng cg : Nat) (Ao : Option Addr) (no co : Nat) (gs : List G3) (os : List Int) (w : World) (hr : RG w Ag ng gs ∧ RI w Ao no os) (hng : ng ≤ 2097152) (hno : no ≤ 2097152) :
    Calls Try.prog 14 #[.agg #[.int .i64 x, .int .i64 y, .slice Ag ng cg, .slice Ao no co]] w (RetO w (ctF x y gs os)) := by
  have hB : Below w.heap.size w (w.alloc (.cells #[.int .i64 x, .int .i64 y, .slice Ag ng cg, .slice Ao no co] 26)) := (Below.refl _ _).alloc (Nat.le_refl _) _
  have hx0 : BxC (w.alloc (.cells #[.int .i64 x, .int .i64 y, .slice Ag ng cg, .slice Ao no co] 26)) w.heap.size x y Ag ng cg Ao no co := BxC.new w _
  have hs0 : (w.alloc (.cells #[.int .i64 x, .int .i64 y, .slice Ag ng cg, .slice Ao no co] 26)).heap.size = w.heap.size + 1 := by simp
  have hlg := hr.1.len
  have hlo := hr.2.len
  have hq := hx0; obtain ⟨k0, k1, k2, k3⟩ := hq
  cases h0 : circB x y gs os with
  | false =>
    have HR : Hid (ctF x y gs os = none) := Lib.hid (by simp [ctF, h0])
    have H0 := Lib.hid h0; clear h0
    go_enter Try.func14, Try.ntmps14
    go_wp2_with fail
    refine (ciGood_any x y Ag ng cg Ao no co gs os _ (hr.1.below hB (Nat.le_refl _)) (hr.2.below hB (Nat.le_refl _)) hng hno).mono ?_
    rintro e v1 ⟨rfl, hb1⟩
    rw [H0.out]
    go_wp2
    go_ret2
    exact RetO.none_ (hB.trans (hb1.mono hB.size)) HR.out rfl
  | true =>
    have HR : Hid (ctF x y gs os = some (cntK gs ng)) := Lib.hid (by simp [ctF, h0, hlg])
    have hkd := gate_kd h0 hlg
    have H0 := Lib.hid h0; clear h0
    go_enter Try.func14, Try.ntmps14
    go_wp2_with fail
    refine (ciGood_any x y Ag ng cg Ao no co gs os _ (hr.1.below hB (Nat.le_refl _)) (hr.2.below hB (Nat.le_refl _)) hng hno).mono ?_
    rintro e v1 ⟨rfl, hb1⟩
    rw [H0.out]
    have hx1 := hx0.below hb1
    have hB1 := hB.trans (hb1.mono hB.size)
    have hz1 := hb1.size
    rw [hs0] at hz1
    clear k0 k1 k2 k3 hx0 hb1 hB
    have hq := hx1; obtain ⟨k0, k1, k2, k3⟩ := hq
    go_wp2_with fail
    refine (ciCounts_any x y Ag ng cg Ao no co gs _ (hr.1.below hB1 (Nat.le_refl _)) hng hkd).mono ?_
    rintro e v2 hT
    obtain ⟨A', c', rfl, ho, hb2⟩ := hT.open_ (cntK_len gs ng)
    go_wp2
    go_ret2
    exact RetO.some_ (hB1.trans (hb2.mono hB1.size)) HR.out (cntK_len gs ng) rfl (ho.lo_ hB1.size)
def vl (gs : List G3) (inp : List Int) : List Int := vals gs inp gs.length
theorem vl_len {gs : List G3} {inp : List Int} {X : Nat} (hX : inp.length = X) : (vl gs inp).length = X + gs.length := by rw [vl, vals_len, hX]
structure Ext (X : Nat) (inp : List Int) (gs hs : List G3) : Prop where
  len : gs.length ≤ hs.length
  v : ∀ z : Nat, z < X + gs.length → gi (vl hs inp) z = gi (vl gs inp) z
theorem Ext.refl (X : Nat) (inp : List Int) (gs : List G3) : Ext X inp gs gs := ⟨Nat.le_refl _, fun _ _ => rfl⟩
theorem Ext.trans {X : Nat} {inp : List Int} {a b c : List G3} (h : Ext X inp a b) (k : Ext X inp b c) : Ext X inp a c :=
  ⟨Nat.le_trans h.len k.len, fun z hz => (k.v z (by have := h.len; omega)).trans (h.v z hz)⟩
theorem vl_snoc (gs : List G3) (g : G3) (inp : List Int) : vl (gs ++ [g]) inp = vl gs inp ++ [gval g (vl gs inp)] := by
  unfold vl
  rw [List.length_append, show ([g] : List G3).length = 1 from rfl, vals_succ, gg_append_r, vals_gs (hs := gs) _ (fun j hj => gg_append_l hj)]
theorem Ext.snoc {X : Nat} {inp : List Int} (hX : inp.length = X) (gs : List G3) (g : G3) : Ext X inp gs (gs ++ [g]) :=
  ⟨by simp, fun z hz => by rw [vl_snoc, gi_append_l (by rw [vl_len hX]; exact hz)]⟩
theorem GsOk.b01 {X : Nat} {gs : List G3} {inp : List Int} (hX : inp.length = X) (hi : allB 0 1 inp = true) (h : GsOk X gs) : allB 0 1 (vl gs inp) = true :=
  vals_01 hX hi (fun j hj => h j hj) _ (Nat.le_refl _)
theorem once_v {X : Nat} {gs : List G3} {g : G3} {inp : List Int} (hX : inp.length = X) (hi : allB 0 1 inp = true) (h : GsOk X gs) (hg : GateIs g ((X : Int) + gs.length)) :
    Ext X inp gs (onceG gs g) ∧ gi (vl (onceG gs g) inp) (onceW X gs g).toNat = gval g (vl gs inp) := by
  unfold onceG onceW
  have hle := same1_le gs g
  split
  · rename_i hs
    refine ⟨Ext.refl _ _ _, ?_⟩
    rw [show ((X : Int) + (same1 gs g : Nat)).toNat = X + same1 gs g by omega]
    unfold vl
    rw [vals_gate hX hs (h _ hs)]
    exact sameG_val (h _ hs) (same1_lt rfl hs) (h.b01 hX hi)
  · refine ⟨Ext.snoc hX gs g, ?_⟩
    rw [show ((X : Int) + (same1 gs g : Nat)).toNat = X + gs.length by omega, vl_snoc, gi_last (vl_len hX)]
def tv (V : List Int) (x : Tb) : Int := if x.c then 1 else gi V x.w.toNat
def sv (V : List Int) (x : Tb) : Int := if x.t then 1 - tv V x else tv V x
theorem tv_bd {V : List Int} (hV : allB 0 1 V = true) (x : Tb) : 0 ≤ tv V x ∧ tv V x ≤ 1 := by
  unfold tv; split
  · omega
  · exact gi_bd0 hV (by omega) _
theorem sv_bd {V : List Int} (hV : allB 0 1 V = true) (x : Tb) : 0 ≤ sv V x ∧ sv V x ≤ 1 := by
  have := tv_bd hV x
  unfold sv; split <;> omega
theorem sv_by (V : List Int) (x : Tb) (b : Bool) : sv V (x.by_ b) = if b then 1 - sv V x else sv V x := by
  obtain ⟨c, w, t⟩ := x
  cases b <;> cases t <;> simp [sv, tv, Tb.by_] <;> omega
theorem sv_ext {X : Nat} {inp : List Int} {gs hs : List G3} (h : Ext X inp gs hs) {x : Tb} (hx : TbOk ((X : Int) + gs.length) x) : sv (vl hs inp) x = sv (vl gs inp) x := by
  unfold sv
  have e : tv (vl hs inp) x = tv (vl gs inp) x := by
    unfold tv; split
    · rfl
    · rename_i hc
      have := hx (by simpa using hc)
      exact h.v _ (by omega)
  rw [e]
theorem made1_v {X : Nat} {gs : List G3} {x : Tb} {inp : List Int} (hX : inp.length = X) (hi : allB 0 1 inp = true) (h : GsOk X gs) :
    Ext X inp gs (made1 X gs x).1 ∧ gi (vl (made1 X gs x).1 inp) (made1 X gs x).2.toNat = tv (vl gs inp) x := by
  unfold made1 tv; split
  · obtain ⟨h1, h2⟩ := once_v hX hi h (gate_one _)
    exact ⟨h1, h2⟩
  · exact ⟨Ext.refl _ _ _, rfl⟩
theorem made2_v {X : Nat} {s : List G3 × Int} {t : Bool} {inp : List Int} (hX : inp.length = X) (hi : allB 0 1 inp = true) (h : StOk X s) :
    Ext X inp s.1 (made2 X s t).1 ∧ gi (vl (made2 X s t).1 inp) (made2 X s t).2.toNat = if t then 1 - gi (vl s.1 inp) s.2.toNat else gi (vl s.1 inp) s.2.toNat := by
  unfold made2
  cases t with
  | true =>
    obtain ⟨h1, h2⟩ := once_v hX hi h.1 (gate_not h.2.1 h.2.2)
    exact ⟨h1, h2⟩
  | false => exact ⟨Ext.refl _ _ _, rfl⟩
theorem made_v {X : Nat} {gs : List G3} {x : Tb} {inp : List Int} (hX : inp.length = X) (hi : allB 0 1 inp = true) (h : GsOk X gs) (hx : TbOk ((X : Int) + gs.length) x) :
    Ext X inp gs (made X gs x).1 ∧ gi (vl (made X gs x).1 inp) (made X gs x).2.toNat = sv (vl gs inp) x := by
  obtain ⟨h1, h2⟩ := made1_v (x := x) hX hi h
  obtain ⟨h3, h4⟩ := made2_v (t := x.t) hX hi (made1_ok h hx).1
  refine ⟨h1.trans h3, ?_⟩
  unfold made
  rw [h4, h2]
  rfl
theorem xorT_v {X : Nat} {gs : List G3} {x y : Tb} {inp : List Int} (hX : inp.length = X) (hi : allB 0 1 inp = true) (h : GsOk X gs) (hx : TbOk ((X : Int) + gs.length) x) (hy : TbOk ((X : Int) + gs.length) y) :
    Ext X inp gs (xorT X gs x y).1 ∧ sv (vl (xorT X gs x y).1 inp) (xorT X gs x y).2 = bxor (sv (vl gs inp) x) (sv (vl gs inp) y) := by
  have hV := h.b01 hX hi
  have bx := sv_bd hV x
  have hby := sv_bd hV y
  rw [bxor_bit bx hby]
  unfold xorT
  split
  · rename_i hc
    refine ⟨Ext.refl _ _ _, ?_⟩
    dsimp only
    rw [sv_by]
    have e : sv (vl gs inp) x = if x.t then 0 else 1 := by unfold sv tv; rw [if_pos hc]; split <;> rfl
    rw [e]
    cases x.t <;> simp <;> omega
  · split
    · rename_i hc
      refine ⟨Ext.refl _ _ _, ?_⟩
      dsimp only
      rw [sv_by]
      have e : sv (vl gs inp) y = if y.t then 0 else 1 := by unfold sv tv; rw [if_pos hc]; split <;> rfl
      rw [e]
      cases y.t <;> simp <;> omega
    · split
      · rename_i h1 h2 hw
        refine ⟨Ext.refl _ _ _, ?_⟩
        dsimp only
        have e : tv (vl gs inp) x = tv (vl gs inp) y := by unfold tv; rw [if_neg h1, if_neg h2, hw]
        have := tv_bd hV y
        unfold sv
        rw [e]
        cases x.t <;> cases y.t <;> simp [tv] <;> simp only [tv] at this <;> omega
      · rename_i h1 h2 hw
        have tx := hx (by simpa using h1)
        have ty := hy (by simpa using h2)
        obtain ⟨h3, h4⟩ := once_v hX hi h (gate_xor tx.1 tx.2 ty.1 ty.2)
        refine ⟨h3, ?_⟩
        have e : tv (vl (onceG gs ⟨0, x.w, y.w⟩) inp) ⟨false, onceW X gs ⟨0, x.w, y.w⟩, x.t != y.t⟩ = bxor (tv (vl gs inp) x) (tv (vl gs inp) y) := by
          have e1 : tv (vl gs inp) x = gi (vl gs inp) x.w.toNat := by unfold tv; rw [if_neg h1]
          have e2 : tv (vl gs inp) y = gi (vl gs inp) y.w.toNat := by unfold tv; rw [if_neg h2]
          rw [e1, e2]
          exact h4
        have b1 := tv_bd hV x
        have b2 := tv_bd hV y
        dsimp only
        rw [bxor_bit b1 b2] at e
        unfold sv
        rw [e]
        dsimp only
        cases x.t <;> cases y.t <;> simp <;> omega
theorem bit01 {a : Int} (h : 0 ≤ a ∧ a ≤ 1) : a = 0 ∨ a = 1 := by omega
theorem andG_v {X : Nat} {gs : List G3} {x y : Tb} {inp : List Int} (hX : inp.length = X) (hi : allB 0 1 inp = true) (h : GsOk X gs) (hx : TbOk ((X : Int) + gs.length) x) (hy : TbOk ((X : Int) + gs.length) y) :
    Ext X inp gs (andG X gs x y).1 ∧ sv (vl (andG X gs x y).1 inp) (andG X gs x y).2 = band (sv (vl gs inp) x) (sv (vl gs inp) y) := by
  obtain ⟨⟨a1, a2, a3⟩, a4, a5⟩ := made_ok h hx
  obtain ⟨a6, a7⟩ := made_v hX hi h hx
  have hy1 : TbOk ((X : Int) + (made X gs x).1.length) y := hy.mono (by omega)
  obtain ⟨⟨b1, b2, b3⟩, b4, b5⟩ := made_ok a1 hy1
  obtain ⟨b6, b7⟩ := made_v hX hi a1 hy1
  obtain ⟨c1, c2⟩ := once_v hX hi b1 (gate_and a2 (by omega) b2 b3)
  unfold andG
  refine ⟨a6.trans (b6.trans c1), ?_⟩
  have e : gi (vl (made X (made X gs x).1 y).1 inp) (made X gs x).2.toNat = sv (vl gs inp) x := (b6.v _ (by omega)).trans a7
  rw [sv_ext a6 hy] at b7
  dsimp only
  rw [← e, ← b7]
  exact c2
theorem andT_v {X : Nat} {gs : List G3} {x y : Tb} {inp : List Int} (hX : inp.length = X) (hi : allB 0 1 inp = true) (h : GsOk X gs) (hx : TbOk ((X : Int) + gs.length) x) (hy : TbOk ((X : Int) + gs.length) y) :
    Ext X inp gs (andT X gs x y).1 ∧ sv (vl (andT X gs x y).1 inp) (andT X gs x y).2 = band (sv (vl gs inp) x) (sv (vl gs inp) y) := by
  have hV := h.b01 hX hi
  have bx := sv_bd hV x
  have hby := sv_bd hV y
  have tx := tv_bd hV x
  have ty := tv_bd hV y
  have key : ∀ z : Tb, z.c = true → sv (vl gs inp) z = if z.t then 0 else 1 := fun z hc => by unfold sv tv; rw [if_pos hc]; split <;> rfl
  unfold andT
  split
  · rename_i hc
    refine ⟨Ext.refl _ _ _, ?_⟩
    rw [band_bit bx hby]
    have e0 : sv (vl gs inp) ⟨true, 0, true⟩ = 0 := rfl
    dsimp only
    rw [e0]
    simp only [Bool.or_eq_true, Bool.and_eq_true] at hc
    rcases hc with ⟨h1, h2⟩ | ⟨h1, h2⟩
    · rw [key x h1, if_pos h2]; simp
    · rw [key y h1, if_pos h2]; simp
  · rename_i hn
    simp only [Bool.or_eq_true, Bool.and_eq_true, not_or, not_and] at hn
    rw [band_bit bx hby]
    split
    · rename_i hc
      refine ⟨Ext.refl _ _ _, ?_⟩
      rw [key x hc, if_neg (hn.1 hc)]
      simp
    · split
      · rename_i hc
        refine ⟨Ext.refl _ _ _, ?_⟩
        rw [key y hc, if_neg (hn.2 hc)]
        simp
      · split
        · rename_i h1 h2 hw
          have e : tv (vl gs inp) x = tv (vl gs inp) y := by unfold tv; rw [if_neg h1, if_neg h2, hw]
          split
          · rename_i ht
            refine ⟨Ext.refl _ _ _, ?_⟩
            have e2 : sv (vl gs inp) x = sv (vl gs inp) y := by unfold sv; rw [e, ht]
            rw [← e2]
            rcases bit01 bx with hb | hb <;> rw [hb] <;> rfl
          · rename_i ht
            refine ⟨Ext.refl _ _ _, ?_⟩
            have e0 : sv (vl gs inp) ⟨true, 0, true⟩ = 0 := rfl
            dsimp only
            rw [e0]
            unfold sv
            rw [e]
            rcases bit01 ty with hb | hb <;> rw [hb] <;> revert ht <;> cases x.t <;> cases y.t <;> simp
        · rw [← band_bit bx hby]; exact andG_v hX hi h hx hy
theorem gateT_v {X : Nat} {gs : List G3} {l : List Tb} {g : G3} {n : Nat} {inp W : List Int} (hX : inp.length = X) (hi : allB 0 1 inp = true) (h : GsOk X gs) (hl : ∀ j : Nat, j < n → TbOk ((X : Int) + gs.length) (tt l j)) (hg : GateIs g n)
    (hW : ∀ j : Nat, j < n → sv (vl gs inp) (tt l j) = gi W j) : Ext X inp gs (gateT X gs l g).1 ∧ sv (vl (gateT X gs l g).1 inp) (gateT X gs l g).2 = gval g W := by
  obtain ⟨gk, ga, gb⟩ := g
  unfold gateT gval
  cases hg with
  | xor_ hk a0 a1 b0 b1 =>
    dsimp only at *; subst hk; rw [if_pos rfl, if_pos rfl, ← hW _ (by omega), ← hW _ (by omega)]
    exact xorT_v hX hi h (hl _ (by omega)) (hl _ (by omega))
  | and_ hk a0 a1 b0 b1 =>
    dsimp only at *; subst hk; rw [if_neg (by decide), if_pos rfl, if_neg (by decide), if_pos rfl, ← hW _ (by omega), ← hW _ (by omega)]
    exact andT_v hX hi h (hl _ (by omega)) (hl _ (by omega))
  | not_ hk a0 a1 b0 =>
    dsimp only at *; subst hk; rw [if_neg (by decide), if_neg (by decide), if_pos rfl, if_neg (by decide), if_neg (by decide), if_pos rfl, ← hW _ (by omega)]
    exact ⟨Ext.refl _ _ _, by dsimp only; rw [sv_by]; rfl⟩
  | one_ hk a0 b0 =>
    dsimp only at *; subst hk; rw [if_neg (by decide), if_neg (by decide), if_neg (by decide), if_neg (by decide), if_neg (by decide), if_neg (by decide)]
    exact ⟨Ext.refl _ _ _, rfl⟩
theorem smp_v {X : Nat} {gs : List G3} {m : Nat} {inp : List Int} (hX : inp.length = X) (hi : allB 0 1 inp = true) (hg : ∀ k : Nat, k < m → GateIs (gg gs k) ((X : Int) + k)) :
    ∀ k : Nat, k ≤ m → ∀ z : Nat, z < X + k → sv (vl (smp X gs k).1 inp) (tt (smp X gs k).2 z) = gi (vals gs inp k) z := by
  intro k
  induction k with
  | zero =>
    intro _ z hz
    rw [show (smp X gs 0).2 = wiresT X from rfl, wiresT_at (by omega)]
    show gi inp ((z : Int)).toNat = gi inp z
    rw [Int.toNat_natCast]
  | succ k ih =>
    intro hk z hz
    have hok := smp_ok hg k (by omega)
    have hgk := hg k (by omega)
    obtain ⟨e1, e2⟩ := gateT_v (n := X + k) (W := vals gs inp k) hX hi hok.ok hok.tb (by rw [show ((X + k : Nat) : Int) = (X : Int) + k by omega]; exact hgk) (ih (by omega))
    have hl := smp_len X gs k
    show sv (vl (gateT X (smp X gs k).1 (smp X gs k).2 (gg gs k)).1 inp) (tt ((smp X gs k).2 ++ [(gateT X (smp X gs k).1 (smp X gs k).2 (gg gs k)).2]) z) = _
    rcases Nat.lt_or_ge z (X + k) with h | h
    · rw [tt_append_l (by omega), sv_ext e1 (hok.tb z h), ih (by omega) z h]
      exact (vals_keep (by omega) (by omega)).symm
    · obtain rfl : z = X + k := by omega
      have e3 : tt ((smp X gs k).2 ++ [(gateT X (smp X gs k).1 (smp X gs k).2 (gg gs k)).2]) (X + k) = (gateT X (smp X gs k).1 (smp X gs k).2 (gg gs k)).2 := by
        have := tt_append_r (smp X gs k).2 (gateT X (smp X gs k).1 (smp X gs k).2 (gg gs k)).2
        rwa [hl] at this
      rw [e3, e2, vals_succ, gi_last (by rw [vals_len, hX])]
theorem smo_v {X N : Nat} {g0 : List G3} {l : List Tb} {os inp : List Int} (hX : inp.length = X) (hi : allB 0 1 inp = true) (h0 : GsOk X g0) (hl : ∀ j : Nat, j < N → TbOk ((X : Int) + g0.length) (tt l j)) (ho : ∀ j : Nat, j < os.length → 0 ≤ gi os j ∧ gi os j < N) :
    ∀ k : Nat, k ≤ os.length → Ext X inp g0 (smo X g0 l os k).1 ∧ ∀ j : Nat, j < k → gi (vl (smo X g0 l os k).1 inp) (gi (smo X g0 l os k).2 j).toNat = sv (vl g0 inp) (tt l (gi os j).toNat) := by
  intro k
  induction k with
  | zero => intro _; exact ⟨Ext.refl _ _ _, fun j hj => by omega⟩
  | succ k ih =>
    intro hk
    obtain ⟨e1, e2⟩ := ih (by omega)
    have hok := smo_ok h0 hl ho k (by omega)
    have hb := ho k (by omega)
    have htb := hl (gi os k).toNat (by omega)
    have hlen := hok.le.1
    obtain ⟨m1, m2⟩ := made_v hX hi hok.ok (htb.mono (by omega))
    have hs := smo_len X g0 l os k
    refine ⟨e1.trans m1, fun j hj => ?_⟩
    show gi (vl (made X (smo X g0 l os k).1 (tt l (gi os k).toNat)).1 inp) (gi ((smo X g0 l os k).2 ++ [(made X (smo X g0 l os k).1 (tt l (gi os k).toNat)).2]) j).toNat = _
    rcases Nat.lt_or_ge j k with h | h
    · rw [gi_append_l (by omega)]
      have b := hok.out j h
      rw [m1.v _ (by omega)]
      exact e2 j h
    · obtain rfl : j = k := by omega
      rw [gi_last hs, m2]
      exact sv_ext e1 htb
theorem drop_vals {X : Nat} {gs : List G3} {os inp : List Int} (hX : inp.length = X) (hg : ∀ j : Nat, j < gs.length → GateIs (gg gs j) ((X : Int) + j)) (hO : ∀ z ∈ os, 0 ≤ z ∧ z < (X : Int) + gs.length) :
    pick (vals (drp X gs (usedL X gs os) gs.length).1 inp (drp X gs (usedL X gs os) gs.length).1.length) (pick (drp X gs (usedL X gs os) gs.length).2 os) = pick (vals gs inp gs.length) os := by
  have hcl : ∀ j : Nat, j < gs.length → (X : Int) + j ∈ usedL X gs os → ∀ z ∈ prt (gg gs j), z ∈ usedL X gs os := fun j hj hu => usd_closed hg hj hu
  have hou : ∀ z ∈ os, z ∈ usedL X gs os := fun z hz => usd_mono (puts_mem.2 (.inl hz))
  refine pick_vals rfl fun z hz => ?_
  have h1 := hO z hz
  exact drp_vals hX hg hcl gs.length (Nat.le_refl _) z.toNat (by omega) (.inr (by rw [show ((z.toNat : Nat) : Int) = z by omega]; exact hou z hz))
theorem smpG_ok {X : Nat} {gs : List G3} {os : List Int} (hg : ∀ j : Nat, j < gs.length → GateIs (gg gs j) ((X : Int) + j)) (hO : ∀ z ∈ os, 0 ≤ z ∧ z < (X : Int) + gs.length) :
    SoOk X os.length (smp X gs gs.length).1.length (smpG X gs os) := by
  have hok := smp_ok hg gs.length (Nat.le_refl _)
  exact smo_ok (N := X + gs.length) hok.ok hok.tb (fun j hj => by have := hO _ (gi_mem hj); omega) os.length (Nat.le_refl _)
theorem smpG_outs {X : Nat} {gs : List G3} {os : List Int} (hg : ∀ j : Nat, j < gs.length → GateIs (gg gs j) ((X : Int) + j)) (hO : ∀ z ∈ os, 0 ≤ z ∧ z < (X : Int) + gs.length) :
    ∀ z ∈ (smpG X gs os).2, 0 ≤ z ∧ z < (X : Int) + (smpG X gs os).1.length := fun z hz => by
  have hok := smpG_ok hg hO
  obtain ⟨j, hj, rfl⟩ := List.getElem_of_mem hz
  have hl : (smpG X gs os).2.length = os.length := smo_len X _ _ os os.length
  have := hok.out j (by omega)
  rwa [gi_lt hj] at this
theorem smpD_v {X : Nat} {gs : List G3} {os inp : List Int} (hX : inp.length = X) (hi : allB 0 1 inp = true) (hg : ∀ j : Nat, j < gs.length → GateIs (gg gs j) ((X : Int) + j)) (hO : ∀ z ∈ os, 0 ≤ z ∧ z < (X : Int) + gs.length) :
    pick (vals (smpD X gs os).1 inp (smpD X gs os).1.length) (smpD X gs os).2 = pick (vals gs inp gs.length) os := by
  have hok := smp_ok hg gs.length (Nat.le_refl _)
  have hG := smpG_ok hg hO
  have hGo := smpG_outs hg hO
  have hl : (smpG X gs os).2.length = os.length := smo_len X _ _ os os.length
  unfold smpD
  rw [drop_vals hX (fun j hj => hG.ok j hj) hGo]
  refine gi_eq (by rw [pick_len, pick_len, hl]) fun j hj => ?_
  rw [pick_len, hl] at hj
  have e := (smo_v (N := X + gs.length) hX hi hok.ok hok.tb (fun j hj => by have := hO _ (gi_mem hj); omega) os.length (Nat.le_refl _)).2 j hj
  have e2 := smp_v hX hi hg gs.length (Nat.le_refl _) (gi os j).toNat (by have := hO _ (gi_mem hj); omega)
  unfold pick
  rw [gi_map (by omega), gi_map hj, ← e2]
  exact e
theorem simp_all {x y : Int} {gs : List G3} {os : List Int} {M : Ci} (h : simpF x y gs os = some M) : M.i0 = x ∧ M.i1 = y ∧ M.gs = (smpD (x + y).toNat gs os).1 ∧ M.os = (smpD (x + y).toNat gs os).2 ∧ SameC x y gs os M.gs M.os := by
  unfold simpF at h
  split at h
  · rename_i hc
    split at h
    · rename_i hd
      injection h with h
      subst h
      obtain ⟨e, hg, hO⟩ := circB_X hc
      have hl : (smpG (x + y).toNat gs os).2.length = os.length := smo_len _ _ _ os os.length
      exact ⟨rfl, rfl, rfl, rfl, hc, hd, by show (pick _ _).length = _; rw [pick_len, hl], fun inp hI => smpD_v hI.1 hI.2 hg hO⟩
    · cases h
  · cases h
def nK (v : Int) (gs : List G3) : Nat := gs.countP fun g => g.k == v
theorem nK_snoc (v : Int) (gs : List G3) (g : G3) : nK v (gs ++ [g]) = nK v gs + if g.k = v then 1 else 0 := by
  unfold nK; rw [List.countP_append]; by_cases h : g.k = v <;> simp [h]
theorem once_k (gs : List G3) (g : G3) : nK 1 (onceG gs g) ≤ nK 1 gs + if g.k = 1 then 1 else 0 := by
  unfold onceG; split
  · omega
  · rw [nK_snoc]; omega
theorem made_k (X : Nat) (gs : List G3) (x : Tb) : nK 1 (made X gs x).1 ≤ nK 1 gs := by
  have h1 : nK 1 (made1 X gs x).1 ≤ nK 1 gs := by
    unfold made1; split
    · exact once_k gs ⟨3, 0, 0⟩
    · exact Nat.le_refl _
  have h2 : ∀ s t, nK 1 (made2 X s t).1 ≤ nK 1 s.1 := fun s t => by
    unfold made2; split
    · exact once_k s.1 ⟨2, s.2, 0⟩
    · exact Nat.le_refl _
  exact Nat.le_trans (h2 _ _) h1
theorem gateT_k (X : Nat) (gs : List G3) (l : List Tb) (g : G3) : nK 1 (gateT X gs l g).1 ≤ nK 1 gs + if g.k = 1 then 1 else 0 := by
  unfold gateT
  split
  · rename_i hk
    rw [hk]
    have : ∀ x y, nK 1 (xorT X gs x y).1 ≤ nK 1 gs := fun x y => by
      unfold xorT
      split
      · exact Nat.le_refl _
      · split
        · exact Nat.le_refl _
        · split
          · exact Nat.le_refl _
          · exact once_k gs ⟨0, x.w, y.w⟩
    exact Nat.le_trans (this _ _) (by simp)
  · split
    · rename_i hk
      have : ∀ x y, nK 1 (andT X gs x y).1 ≤ nK 1 gs + 1 := fun x y => by
        unfold andT
        split
        · exact Nat.le_succ _
        · split
          · exact Nat.le_succ _
          · split
            · exact Nat.le_succ _
            · split
              · split
                · exact Nat.le_succ _
                · exact Nat.le_succ _
              · unfold andG
                have h1 := made_k X gs x
                have h2 := made_k X (made X gs x).1 y
                have h3 := once_k (made X (made X gs x).1 y).1 ⟨1, (made X gs x).2, (made X (made X gs x).1 y).2⟩
                dsimp only at h3 ⊢
                rw [if_pos rfl] at h3
                omega
      exact this _ _
    · split
      · exact Nat.le_add_right _ _
      · exact Nat.le_add_right _ _
theorem smp_k (X : Nat) (gs : List G3) : ∀ k, k ≤ gs.length → nK 1 (smp X gs k).1 ≤ nK 1 (gs.take k) := by
  intro k
  induction k with
  | zero => intro _; exact Nat.le_refl _
  | succ k ih =>
    intro hk
    rw [gg_take_snoc (by omega), nK_snoc]
    have h1 := gateT_k X (smp X gs k).1 (smp X gs k).2 (gg gs k)
    have h2 := ih (by omega)
    show nK 1 (gateT X (smp X gs k).1 (smp X gs k).2 (gg gs k)).1 ≤ _
    omega
theorem smo_k (X : Nat) (g0 : List G3) (l : List Tb) (os : List Int) : ∀ k, nK 1 (smo X g0 l os k).1 ≤ nK 1 g0 := by
  intro k
  induction k with
  | zero => exact Nat.le_refl _
  | succ k ih => exact Nat.le_trans (made_k _ _ _) ih
theorem drp_k (X : Nat) (gs : List G3) (U : List Int) : ∀ k, k ≤ gs.length → nK 1 (drp X gs U k).1 ≤ nK 1 (gs.take k) := by
  intro k
  induction k with
  | zero => intro _; exact Nat.le_refl _
  | succ k ih =>
    intro hk
    rw [gg_take_snoc (by omega), nK_snoc]
    have h2 := ih (by omega)
    have hm : ∀ f : Int → Int, (mvG f (gg gs k)).k = (gg gs k).k := fun f => by
      unfold mvG; split
      · rfl
      · split <;> rfl
    by_cases h : (X : Int) + k ∈ U
    · rw [drp_succ_u h]; dsimp only; rw [nK_snoc, hm]; omega
    · rw [drp_succ_n h]; dsimp only; omega
theorem smpD_k (X : Nat) (gs : List G3) (os : List Int) : nK 1 (smpD X gs os).1 ≤ nK 1 gs := by
  have h1 := drp_k X (smpG X gs os).1 (usedL X (smpG X gs os).1 (smpG X gs os).2) _ (Nat.le_refl _)
  rw [List.take_length] at h1
  have h2 : nK 1 (smpG X gs os).1 ≤ nK 1 (smp X gs gs.length).1 := smo_k X _ _ os os.length
  have h3 := smp_k X gs gs.length (Nat.le_refl _)
  rw [List.take_length] at h3
  exact Nat.le_trans h1 (Nat.le_trans h2 h3)
end Go.Proofs.Ytikgagjoapggnaa
