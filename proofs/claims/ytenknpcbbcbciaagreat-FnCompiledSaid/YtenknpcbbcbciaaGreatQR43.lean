/- Contracts: the operations of two numbers of at most ten bits. -/
import Derived.Test.YtenknpcbbcbciaaGreatQR42
namespace Go.Proofs.YtenknpcbbcbciaaGreat
open Go.RowKit
set_option linter.unusedVariables false
set_option linter.unusedSimpArgs false
def pvsL (l : List Ln) (vs : List Int) (x : Ln) : List Int := x.parts.map fun nm => gi vs (sFind l nm).toNat
def nP (l : List Ln) (x : Ln) : Nat := (gi (wids sW l) (sFind l (sx x.parts 0)).toNat).toNat
def inV (l : List Ln) (xs ys : List Int) (k : Nat) : Int := if (lx l k).party = 0 then gi xs (insL (l.take k) 0).length else gi ys (insL (l.take k) 1).length
def stepV (l : List Ln) (xs ys : List Int) (k : Nat) (vs : List Int) : Int := if (lx l k).kind = 1 then inV l xs ys k else lineV (lx l k) (nP l (lx l k)) (pvsL l vs (lx l k))
def valK (l : List Ln) (xs ys : List Int) : Nat → List Int
 | 0 => []
 | k + 1 => valK l xs ys k ++ [stepV l xs ys k (valK l xs ys k)]
theorem valK_len (l : List Ln) (xs ys : List Int) (k : Nat) : (valK l xs ys k).length = k := by
 induction k with
 | zero => rfl
 | succ k ih => simp [valK, ih]
theorem gi_snocL {xs : List Int} {y : Int} {j : Nat} (h : j < xs.length) : gi (xs ++ [y]) j = gi xs j := Zch h
def oV (l : List Ln) (vs : List Int) : Nat → List Int
 | 0 => []
 | k + 1 => if (lx l k).kind = 6 then oV l vs k ++ [gi vs k] else oV l vs k
theorem oV_congr {l : List Ln} {vs us : List Int} : ∀ k, (∀ j, j < k → gi vs j = gi us j) → oV l vs k = oV l us k := by
 intro k
 induction k with
 | zero => intro _; rfl
 | succ k ih => intro h; rw [oV, oV, ih (fun j hj => h j (by omega)), h k (by omega)]
theorem oV_len (l : List Ln) (vs : List Int) (k : Nat) : (oV l vs k).length = (byK outP l (wids sW l) k).length := by
 induction k with
 | zero => rfl
 | succ k ih =>
  rw [oV, byK]
  by_cases h : (lx l k).kind = 6
  ·rw [if_pos h, if_pos (by simp [outP, h]), List.length_append, List.length_append, ih]; rfl
  ·rw [if_neg h, if_neg (by simp [outP, h]), ih]
theorem bitsK_congr {ws ws' ns ns' : List Int} : ∀ k, (∀ j, j < k → gi ws j = gi ws' j ∧ gi ns j = gi ns' j) → bitsK ws ns k = bitsK ws' ns' k := by
 intro k
 induction k with
 | zero => intro _; rfl
 | succ k ih => intro h; rw [bitsK, bitsK, ih (fun j hj => h j (by omega)), (h k (by omega)).1, (h k (by omega)).2]
theorem bitsK_part {ws : List Int} (hw : ∀ z ∈ ws, 1 ≤ z ∧ z ≤ 10) (ns : List Int) {j : Nat} : ∀ m, m ≤ ws.length → j < m → ((bitsK ws ns m).drop (offs ws j)).take (gi ws j).toNat = bitsN (gi ns j).toNat (gi ws j).toNat := by
 intro m
 induction m with
 | zero => intro _ h; omega
 | succ m ih =>
  intro hm hjm
  have hlm := Zbs hw ns m (by omega)
  rcases Nat.lt_or_ge j m with h1 | h1
  ·have h2 := Zcg hw (by omega : j < ws.length)
   have h3 := offs_le hw (by omega : j + 1 ≤ m) (by omega)
   rw [bitsK, List.drop_append_of_le_length (by omega), List.take_append_of_le_length (by simp; omega)]
   exact ih (by omega) h1
  ·obtain rfl : j = m := by omega
   rw [bitsK, ← hlm, List.drop_left, List.take_of_length_le (by rw [Zeb]; exact Nat.le_refl _)]
theorem pv_spn {inp : List Int} {g : List G3} {a n : Nat} (hk : ∀ i, i < n → wv inp g ((a + i : Nat) : Int) = gi inp (a + i)) (h : a + n ≤ inp.length) : pv inp g (spn a n) = (inp.drop a).take n := by
 refine gi_eq (by simp [pv, Zcl]; omega) fun i h1 => ?_
 have hi : i < n := by simpa [pv, Zcl] using h1
 rw [pv_at (by rw [Zcl]; exact hi), gi_spn' a hi, show (a : Int) + (i : Int) = ((a + i : Nat) : Int) by omega, hk i hi]
 unfold gi
 rw [List.getD_eq_getElem?_getD, List.getD_eq_getElem?_getD, List.getElem?_take_of_lt hi, List.getElem?_drop]
theorem insL_take {l : List Ln} {p : Int} {k : Nat} (hk : k ≤ l.length) : ∃ r, insL l p = insL (l.take k) p ++ r := by
 refine ⟨((l.drop k).filter fun x => decide (x.kind = 1) && decide (x.party = p)).map Ln.width, ?_⟩
 unfold insL
 rw [← List.map_append, ← List.filter_append, List.take_append_drop]
theorem insL_at {l : List Ln} {p : Int} {k : Nat} (hk : k < l.length) (h1 : (lx l k).kind = 1) (hp : (lx l k).party = p) :
 (insL (l.take k) p).length < (insL l p).length ∧ gi (insL l p) (insL (l.take k) p).length = (lx l k).width ∧ sumI (insL (l.take k) p) = sumI ((insL l p).take (insL (l.take k) p).length) := by
 obtain ⟨r, hr⟩ := insL_take (l := l) (p := p) (k := k + 1) (by omega)
 rw [Zdj hk, Zbf, if_pos ⟨h1, hp⟩] at hr
 refine ⟨by rw [hr]; simp, ?_, ?_⟩
 ·rw [hr, Zch (by simp), Zci]
 ·rw [hr, List.append_assoc, List.take_left]
theorem val_fit {l : List Ln} {k : Nat} (h : allW l) (hk : k < l.length) (h2 : (lx l k).kind = 2) : (lx l k).value < 2 ^ (lx l k).width.toNat := by
 have h1 := allW_take (k := k + 1) (by omega) h
 rw [Zdj hk, allW_snoc] at h1
 have hne := h1.2
 obtain ⟨WS, hWS⟩ : ∃ WS, WS = wids sW (l.take k) := ⟨_, rfl⟩
 rw [← hWS] at hne
 unfold sW at hne
 cases hp : pw (sFind (l.take k)) WS (lx l k).parts with
 | none => rw [hp] at hne; exact absurd rfl hne
 | some w =>
  rw [hp] at hne
  dsimp only at hne
  obtain ⟨_, he⟩ := ite_ne hne
  rw [he] at hne
  unfold kindW at hne
  rw [if_neg (by omega), if_pos h2] at hne
  have h3 := (ite_ne hne).1
  simp only [Bool.and_eq_true, inB_iff] at h3
  omega
structure VInv (l : List Ln) (X : Nat) (inp : List Int) (k : Nat) (s : Cs) (vs : List Int) : Prop where
 kp : Kp X inp [] s.g
 len : vs.length = k
 w : ∀ j, j < k → Wl X inp s.g (gl s.ws j) ∧ numN (pv inp s.g (gl s.ws j)) = gi vs j
 os : Wl X inp s.g s.os
 o : pv inp s.g s.os = bitsK (byK outP l (wids sW l) k) (oV l vs k) (byK outP l (wids sW l) k).length
 b : ∀ j, j < k → 0 ≤ gi vs j ∧ gi vs j < 2 ^ (gi (wids sW l) j).toNat
theorem cS_val {l : List Ln} {xs ys : List Int} {in0 in1 : Nat} (h : goodP l) (h0 : (in0 : Int) = sumI (insL l 0)) (h1 : (in1 : Int) = sumI (insL l 1)) (f0 : fitB (insL l 0) xs = true) (f1 : fitB (insL l 1) ys = true) :
 ∀ k, k ≤ l.length → VInv l (in0 + in1) (bitsK (insL l 0) xs (insL l 0).length ++ bitsK (insL l 1) ys (insL l 1).length) k (cS l in0 in1 k) (valK l xs ys k) := by
 have hb0 := Zbq h.2.1 0
 have hb1 := Zbq h.2.1 1
 have l0 := Zbs hb0 xs (insL l 0).length lR
 have l1 := Zbs hb1 ys (insL l 1).length lR
 have o0 := Zcn hb0
 have o1 := Zcn hb1
 have e0 : (bitsK (insL l 0) xs (insL l 0).length).length = in0 := by omega
 have e1 : (bitsK (insL l 1) ys (insL l 1).length).length = in1 := by omega
 obtain ⟨inp, hinp⟩ : ∃ inp, bitsK (insL l 0) xs (insL l 0).length ++ bitsK (insL l 1) ys (insL l 1).length = inp := ⟨_, rfl⟩
 have hX : inp.length = in0 + in1 := by rw [← hinp, List.length_append, e0, e1]
 have hbt : ∀ j, j < in0 + in1 → Bt (gi inp j) := fun j hj => Zcy (by rw [← hinp]; exact allB_iff.2 fun z hz => (List.mem_append.1 hz).elim (allB_iff.1 (Zcx _ _ _) z) (allB_iff.1 (Zcx _ _ _) z)) (by omega)
 rw [hinp]
 intro k
 induction k with
 | zero => intro _; exact ⟨Kp.refl _ _ _, rfl, fun j hj => by omega, fun z hz => by simp [cS] at hz, rfl, fun j hj => by omega⟩
 | succ k ih =>
  intro hk
  have hi := ih (by omega)
  have hci := cS_inv (in0 : Int) in1 h.2.1 k (by omega)
  obtain ⟨sf1, sf2, sf3, sf4, sf5, sf6⟩ := Zes ((in0 : Int) + in1) h.2.1 (by omega : k < l.length) hci
  -- the new line's wires
  have hr : PrOk (in0 + in1) inp (cS l in0 in1 k).g (stepG l in0 in1 k (cS l in0 in1 k)) (stepV l xs ys k (valK l xs ys k)) ∧ ((stepG l in0 in1 k (cS l in0 in1 k)).o.length : Int) = gi (wids sW l) k := by
   unfold stepG stepV
   by_cases k1 : (lx l k).kind = 1
   ·rw [if_pos k1, if_pos k1]
    have hw := sf4 k1
    obtain ⟨W, hW⟩ : ∃ W : Nat, (lx l k).width = W := ⟨(lx l k).width.toNat, by omega⟩
    have hp : (lx l k).party = 0 ∨ (lx l k).party = 1 := by
     rcases sf1 with q | q | q | q | q | q
     ·exact q.2.1
     all_goals (exfalso; have := q.1; omega)
    -- where the wires begin
    have hst : ∃ a : Nat, nxt l in0 (lx l k).party k = a ∧ a + W ≤ in0 + in1 ∧ (inp.drop a).take W = bitsN (inV l xs ys k).toNat W ∧ 0 ≤ inV l xs ys k ∧ inV l xs ys k ≤ 2 ^ W - 1 := by
     unfold nxt inV
     rcases hp with hp | hp
     ·obtain ⟨i1, i2, i3⟩ := insL_at (by omega) k1 hp
      rw [hp, if_pos rfl, if_pos rfl, i3]
      obtain ⟨j, hj⟩ : ∃ j, (insL (l.take k) 0).length = j := ⟨_, rfl⟩
      rw [hj] at i1 i2 ⊢
      have hs := Zcg hb0 i1
      have hle := offs_le hb0 (by omega : j + 1 ≤ (insL l 0).length) lR
      have hpt := bitsK_part hb0 xs (insL l 0).length lR i1
      have hnn := (Zcu (M := 10) (fun z hz => by have := hb0 z hz; omega) j (Nat.le_of_lt i1)).1
      have hft := (fitB_at f0).2 j i1
      rw [i2, hW] at hs hpt hft
      have hWn : ((W : Nat) : Int).toNat = W := by simp
      rw [hWn] at hs hpt hft
      refine ⟨offs (insL l 0) j, by unfold offs; omega, by omega, ?_, hft.1, hft.2⟩
      rw [← hinp, List.drop_append_of_le_length (by omega), List.take_append_of_le_length (by simp; omega), hpt]
     ·obtain ⟨i1, i2, i3⟩ := insL_at (by omega) k1 hp
      rw [hp, if_neg (by decide), if_neg (by decide), i3]
      obtain ⟨j, hj⟩ : ∃ j, (insL (l.take k) 1).length = j := ⟨_, rfl⟩
      rw [hj] at i1 i2 ⊢
      have hs := Zcg hb1 i1
      have hle := offs_le hb1 (by omega : j + 1 ≤ (insL l 1).length) lR
      have hpt := bitsK_part hb1 ys (insL l 1).length lR i1
      have hnn := (Zcu (M := 10) (fun z hz => by have := hb1 z hz; omega) j (Nat.le_of_lt i1)).1
      have hft := (fitB_at f1).2 j i1
      rw [i2, hW] at hs hpt hft
      have hWn : ((W : Nat) : Int).toNat = W := by simp
      rw [hWn] at hs hpt hft
      refine ⟨in0 + offs (insL l 1) j, by unfold offs; omega, by omega, ?_, hft.1, hft.2⟩
      rw [← hinp, ← e0, List.drop_length_add_append, hpt]
    obtain ⟨a, ha, haw, hbits, hv0, hv1⟩ := hst
    rw [ha, hW]
    have hWn : ((W : Nat) : Int).toNat = W := by simp
    rw [hWn]
    have hwv : ∀ i, i < W → wv inp (cS l in0 in1 k).g ((a + i : Nat) : Int) = gi inp (a + i) := fun i hi' => by
     rw [hi.kp.v _ (by simp; omega), wv_nil, Int.toNat_natCast]
    refine ⟨⟨Kp.refl _ _ _, fun z hz => ?_, ?_⟩, by dsimp only; rw [Zcl]; omega⟩
    ·obtain ⟨i, hi', rfl⟩ := List.mem_map.1 hz
     have hi2 := List.mem_range.1 hi'
     have e : (a : Int) + (i : Int) = ((a + i : Nat) : Int) := by omega
     dsimp only
     rw [e]
     exact ⟨by have := hi.kp.len; omega, by rw [hwv i hi2]; exact hbt _ (by omega)⟩
    ·dsimp only
     rw [pv_spn hwv (by omega), hbits, numN_bitsN]
     ·omega
     ·have e : ((2 ^ W : Nat) : Int) = (2 : Int) ^ W := by rw [Int.natCast_pow]; rfl
      have : ((inV l xs ys k).toNat : Int) < ((2 ^ W : Nat) : Int) := by rw [e]; omega
      exact Int.ofNat_lt.1 this
   ·rw [if_neg k1, if_neg k1]
    have hps : ∀ j, j < (psL l (cS l in0 in1 k).ws (lx l k)).length → Wl (in0 + in1) inp (cS l in0 in1 k).g (gl (psL l (cS l in0 in1 k).ws (lx l k)) j) ∧ numN (pv inp (cS l in0 in1 k).g (gl (psL l (cS l in0 in1 k).ws (lx l k)) j)) = gi (pvsL l (valK l xs ys k) (lx l k)) j ∧ ((gl (psL l (cS l in0 in1 k).ws (lx l k)) j).length : Int) = gi (wids sW l) (sFind l (sx (lx l k).parts j)).toNat := fun j hj => by
     have hj' : j < (lx l k).parts.length := by simpa [psL] using hj
     have hm : (lx l k).parts[j] ∈ (lx l k).parts := List.getElem_mem hj'
     have hq := sf2 _ hm
     have e1 : gl (psL l (cS l in0 in1 k).ws (lx l k)) j = gl (cS l in0 in1 k).ws (sFind l (lx l k).parts[j]).toNat := by
      unfold gl psL
      rw [List.getD_eq_getElem?_getD, List.getElem?_map, List.getElem?_eq_getElem hj']
      rfl
     have e2 : gi (pvsL l (valK l xs ys k) (lx l k)) j = gi (valK l xs ys k) (sFind l (lx l k).parts[j]).toNat := by
      unfold gi pvsL
      rw [List.getD_eq_getElem?_getD, List.getElem?_map, List.getElem?_eq_getElem hj']
      rfl
     have e3 : sx (lx l k).parts j = (lx l k).parts[j] := by simp [sx, hj']
     have h9 := hi.w (sFind l (lx l k).parts[j]).toNat (by omega)
     have h8 := (hci.wid (sFind l (lx l k).parts[j]).toNat (by omega)).1
     rw [e1, e2, e3]
     exact ⟨h9.1, h9.2, h8⟩
    have hpr := lineG_v hX (g := (cS l in0 in1 k).g) (pvs := pvsL l (valK l xs ys k) (lx l k)) sf1 k1 (fun k2 => val_fit h.2.1 (by omega) k2) (fun j hj => ⟨(hps j hj).1, (hps j hj).2.1⟩)
    have hXi : ((in0 + in1 : Nat) : Int) = (in0 : Int) + in1 := by omega
    rw [hXi] at hpr
    refine ⟨?_, (sf3 k1).2⟩
    have hn : lineV (lx l k) (gl (psL l (cS l in0 in1 k).ws (lx l k)) 0).length (pvsL l (valK l xs ys k) (lx l k)) = lineV (lx l k) (nP l (lx l k)) (pvsL l (valK l xs ys k) (lx l k)) := by
     by_cases hp0 : 0 < (psL l (cS l in0 in1 k).ws (lx l k)).length
     ·have := (hps 0 hp0).2.2
      have e : (gl (psL l (cS l in0 in1 k).ws (lx l k)) 0).length = nP l (lx l k) := by unfold nP; omega
      rw [e]
     ·have hk2 : (lx l k).kind = 2 := by
       rcases sf1 with q | q | q | q | q | q
       ·exact absurd q.1 k1
       ·exact q.1
       all_goals (exfalso; have := q.2.1; omega)
      unfold lineV; rw [if_pos hk2, if_pos hk2]
    rw [← hn]
    exact hpr
  obtain ⟨hpr, hlen⟩ := hr
  show VInv l (in0 + in1) inp (k + 1) (stepC l (stepG l in0 in1 k (cS l in0 in1 k)) k (cS l in0 in1 k)) (valK l xs ys k ++ [stepV l xs ys k (valK l xs ys k)])
  generalize stepG l in0 in1 k (cS l in0 in1 k) = r at *
  generalize stepV l xs ys k (valK l xs ys k) = v at *
  have hvl := valK_len l xs ys k
  generalize valK l xs ys k = vs at *
  have hwl := hci.ws
  generalize cS l in0 in1 k = s at *
  obtain ⟨kp, wl, hn⟩ := hpr
  have hvb : 0 ≤ v ∧ v < 2 ^ (gi (wids sW l) k).toNat := by
   have h9 := Zev wl.bd
   rw [hn, pv_len] at h9
   have e : (gi (wids sW l) k).toNat = r.o.length := by omega
   rw [e]; exact h9
  have hgv : ∀ j, j < k → gi (vs ++ [v]) j = gi vs j := fun j hj => gi_snocL (by omega)
  have hgk : gi (vs ++ [v]) k = v := by rw [← hvl]; exact Zci
  have hoV : oV l (vs ++ [v]) k = oV l vs k := oV_congr k hgv
  obtain ⟨q1, q2⟩ := hi.os.kp kp
  refine ⟨hi.kp.trans kp, by simp [hvl], fun j hj => ?_, ?_, ?_, fun j hj => ?_⟩
  ·simp only [stepC]
   rcases Nat.lt_or_ge j k with hj1 | hj1
   ·rw [gl_snoc_lt (by omega), hgv j hj1]
    obtain ⟨a1, a2⟩ := (hi.w j hj1).1.kp kp
    exact ⟨a1, by rw [a2]; exact (hi.w j hj1).2⟩
   ·obtain rfl : j = k := by omega
    rw [Zeo hwl, hgk]
    exact ⟨wl, hn⟩
  ·simp only [stepC]
   split
   ·exact q1.app wl
   ·exact q1
  ·simp only [stepC]
   rw [byK, oV, hoV, hgk]
   by_cases h6 : (lx l k).kind = 6
   ·have hO : outP (lx l k) = true := by simp [outP, h6]
    rw [if_pos h6, if_pos h6, if_pos hO, pv_app, q2, hi.o, List.length_append, show ([gi (wids sW l) k] : List Int).length = 1 from rfl, bitsK]
    have hol := oV_len l vs k
    rw [Zci, show gi (oV l vs k ++ [v]) (byK outP l (wids sW l) k).length = v by rw [← hol]; exact Zci]
    congr 1
    ·exact bitsK_congr _ fun j hj => ⟨(gi_snocL hj).symm, (gi_snocL (by omega)).symm⟩
    ·have := bitsN_numN wl.bd
     rw [hn, pv_len] at this
     rw [show (gi (wids sW l) k).toNat = r.o.length by omega]
     exact this.symm
   ·have hO : ¬ outP (lx l k) = true := by simp [outP, h6]
    rw [if_neg h6, if_neg h6, if_neg hO, q2, hi.o]
  ·rcases Nat.lt_or_ge j k with hj1 | hj1
   ·rw [hgv j hj1]; exact hi.b j hj1
   ·obtain rfl : j = k := by omega
    rw [hgk]; exact hvb
theorem oV_bd {l : List Ln} {vs : List Int} (h : ∀ j, j < l.length → 0 ≤ gi vs j ∧ gi vs j < 2 ^ (gi (wids sW l) j).toNat) : ∀ k, k ≤ l.length → ∀ j, j < (byK outP l (wids sW l) k).length → 0 ≤ gi (oV l vs k) j ∧ gi (oV l vs k) j ≤ 2 ^ (gi (byK outP l (wids sW l) k) j).toNat - 1 := by
 intro k
 induction k with
 | zero => intro _ j hj; simp [byK] at hj
 | succ k ih =>
  intro hk j
  have hol := oV_len l vs k
  rw [oV, byK]
  by_cases h6 : (lx l k).kind = 6
  ·rw [if_pos h6, if_pos (show outP (lx l k) = true by simp [outP, h6])]
   intro hj
   rcases Nat.lt_or_ge j (byK outP l (wids sW l) k).length with h1 | h1
   ·rw [gi_snocL (by omega), gi_snocL h1]; exact ih (by omega) j h1
   ·obtain rfl : j = (byK outP l (wids sW l) k).length := by simp at hj; omega
    rw [Zci, show gi (oV l vs k ++ [gi vs k]) (byK outP l (wids sW l) k).length = gi vs k by rw [← hol]; exact Zci]
    have := h k (by omega)
    omega
  ·rw [if_neg h6, if_neg (show ¬ outP (lx l k) = true by simp [outP, h6])]
   exact ih (by omega) j
def rpV (l : List Ln) (xs ys : List Int) : List Int := oV l (valK l xs ys l.length) l.length
theorem rc_law {l : List Ln} {xs ys want : List Int} (h : rcF l xs ys = some want) : coB l = true ∧ fitB (insL l 0) xs = true ∧ fitB (insL l 1) ys = true ∧ want = rpV l xs ys ∧
 (∀ j, j < l.length → 0 ≤ gi (valK l xs ys l.length) j ∧ gi (valK l xs ys l.length) j < 2 ^ (gi (wids sW l) j).toNat) := by
 unfold rcF at h
 by_cases hc : coB l = true ∧ fitB (insL l 0) xs = true ∧ fitB (insL l 1) ys = true
 ·rw [if_pos hc] at h
  injection h with h
  obtain ⟨hg, hcb⟩ := Zce hc.1
  have hd := coB_data hc.1
  obtain ⟨in0, h0⟩ : ∃ in0 : Nat, (in0 : Int) = sumI (insL l 0) := ⟨(sumI (insL l 0)).toNat, by have := hd.x; omega⟩
  obtain ⟨in1, h1⟩ : ∃ in1 : Nat, (in1 : Int) = sumI (insL l 1) := ⟨(sumI (insL l 1)).toNat, by have := hd.y; omega⟩
  have hv := cS_val hg h0 h1 hc.2.1 hc.2.2 l.length lR
  rw [h0, h1] at hv
  refine ⟨hc.1, hc.2.1, hc.2.2, ?_, hv.b⟩
  rw [← h]
  have hrun : runB l (bitsK (insL l 0) xs (insL l 0).length ++ bitsK (insL l 1) ys (insL l 1).length) = bitsK (outsL l) (rpV l xs ys) (outsL l).length := hv.o
  rw [hrun]
  refine (num_bits (Zdg hg.2.1) ?_ (oV_bd hv.b l.length lR) (Zcx _ _ _) (Zbs (Zdg hg.2.1) _ _ lR)).2 rfl
  exact (oV_len l _ l.length).symm
 ·rw [if_neg hc] at h; cases h
def pwK (l : List Ln) (x : Ln) (j : Nat) : Int := gi (wids sW l) (sFind l (sx x.parts j)).toNat
theorem psL_atV {l : List Ln} {ws : List (List Int)} {x : Ln} {j : Nat} (h : j < x.parts.length) : gl (psL l ws x) j = gl ws (sFind l (sx x.parts j)).toNat := by
 unfold gl psL sx
 simp [List.getD_eq_getElem?_getD, h]
 rfl
theorem pvsL_at {l : List Ln} {vs : List Int} {x : Ln} {j : Nat} (h : j < x.parts.length) : gi (pvsL l vs x) j = gi vs (sFind l (sx x.parts j)).toNat := by
 unfold gi pvsL sx
 simp [List.getD_eq_getElem?_getD, h]
 rfl
theorem pvsL_len (l : List Ln) (vs : List Int) (x : Ln) : (pvsL l vs x).length = x.parts.length := by simp [pvsL]
theorem pvsL_take {l : List Ln} {vs : List Int} {x : Ln} {j : Nat} (h : j < x.parts.length) : (pvsL l vs x).take (j + 1) = (pvsL l vs x).take j ++ [gi vs (sFind l (sx x.parts j)).toNat] := by
 rw [Zbl (by rw [pvsL_len]; exact h), pvsL_at h]
def LFit (l : List Ln) (x : Ln) : Prop :=
 (x.kind = 1 ∧ x.parts.length = 0 ∧ (x.party = 0 ∨ x.party = 1)) ∨
 (x.kind = 2 ∧ x.parts.length = 0 ∧ 0 ≤ x.value ∧ x.value ≤ 1023) ∨
 (x.kind = 3 ∧ x.parts.length = 2 ∧ 1 ≤ pwK l x 0 ∧ pwK l x 0 ≤ 10 ∧ pwK l x 1 = pwK l x 0 ∧ opB x.op = true) ∨
 (x.kind = 4 ∧ x.parts.length = 1 ∧ 1 ≤ pwK l x 0 ∧ pwK l x 0 ≤ 10) ∨
 (x.kind = 5 ∧ x.parts.length = 3 ∧ pwK l x 0 = 1) ∨
 (x.kind = 6 ∧ x.parts.length = 1)
theorem sx_memV {ps : List Str} {j : Nat} (h : j < ps.length) : sx ps j ∈ ps := by
 unfold sx; simp [List.getD_eq_getElem?_getD, h]
theorem line_fit {l : List Ln} {k : Nat} (h : allW l) (hk : k < l.length) :
 (∀ nm ∈ (lx l k).parts, 0 ≤ sFind l nm ∧ sFind l nm < k) ∧ LFit l (lx l k) := by
 have hi := cS_inv 0 0 h k (by omega)
 obtain ⟨f1, f2, _⟩ := Zes 0 h hk hi
 refine ⟨f2, ?_⟩
 have hlen : (psL l (cS l 0 0 k).ws (lx l k)).length = (lx l k).parts.length := by simp [psL]
 have hp : ∀ j, j < (lx l k).parts.length → ((gl (psL l (cS l 0 0 k).ws (lx l k)) j).length : Int) = pwK l (lx l k) j := fun j hj => by
  have hf := f2 _ (sx_memV hj)
  rw [psL_atV hj, (hi.wid _ (by omega)).1]; rfl
 unfold LFit
 rcases f1 with ⟨k1, k2, _, _, k5⟩ | ⟨k1, _, _, k4, k5, k6⟩ | ⟨k1, k2, k3, k4, k5, _⟩ | ⟨k1, k2, k3⟩ | ⟨k1, k2, k3, _⟩ | ⟨k1, k2, _⟩
 ·exact .inl ⟨k1, by omega, k2⟩
 ·exact .inr (.inl ⟨k1, by omega, k4, k5⟩)
 ·have h0 := hp 0 (by omega)
  have h1 := hp 1 (by omega)
  obtain ⟨k6, k7⟩ := k3
  exact .inr (.inr (.inl ⟨k1, by omega, by omega, by omega, by omega, k5⟩))
 ·have h0 := hp 0 (by omega)
  obtain ⟨k6, k7⟩ := k3
  exact .inr (.inr (.inr (.inl ⟨k1, by omega, by omega, by omega⟩)))
 ·have h0 := hp 0 (by omega)
  exact .inr (.inr (.inr (.inr (.inl ⟨k1, by omega, by omega⟩))))
 ·exact .inr (.inr (.inr (.inr (.inr ⟨k1, by omega⟩))))
theorem valK_bd {l : List Ln} {xs ys : List Int} (hg : goodP l) (f0 : fitB (insL l 0) xs = true) (f1 : fitB (insL l 1) ys = true) {k : Nat} (hk : k ≤ l.length) {j : Nat} (hj : j < k) :
 0 ≤ gi (valK l xs ys k) j ∧ gi (valK l xs ys k) j < 2 ^ (gi (wids sW l) j).toNat := by
 have hs := goodP_sums hg
 obtain ⟨in0, h0⟩ : ∃ in0 : Nat, (in0 : Int) = sumI (insL l 0) := ⟨(sumI (insL l 0)).toNat, by omega⟩
 obtain ⟨in1, h1⟩ : ∃ in1 : Nat, (in1 : Int) = sumI (insL l 1) := ⟨(sumI (insL l 1)).toNat, by omega⟩
 exact (cS_val hg h0 h1 f0 f1 k hk).b j hj
theorem valK_1023 {l : List Ln} {xs ys : List Int} (hg : goodP l) (f0 : fitB (insL l 0) xs = true) (f1 : fitB (insL l 1) ys = true) {k : Nat} (hk : k ≤ l.length) {j : Nat} (hj : j < k) :
 0 ≤ gi (valK l xs ys k) j ∧ gi (valK l xs ys k) j ≤ 1023 := by
 obtain ⟨h1, h2⟩ := valK_bd hg f0 f1 hk hj
 refine ⟨h1, ?_⟩
 have hw := gi_bd (wids_bd l) (show (0 : Int) ≤ 0 ∧ (0 : Int) ≤ 10 by omega) j
 have : (2 : Int) ^ (gi (wids sW l) j).toNat ≤ 2 ^ 10 := by
  have h3 : (2 : Nat) ^ (gi (wids sW l) j).toNat ≤ 2 ^ 10 := Nat.pow_le_pow_right (by omega) (by omega)
  exact_mod_cast h3
 have h4 : (2 : Int) ^ 10 = 1024 := by decide
 omega
def cntI (l : List Ln) (p : Int) (k : Nat) : Nat := (insL (l.take k) p).length
theorem cntI_succ {l : List Ln} (p : Int) {k : Nat} (hk : k < l.length) : cntI l p (k + 1) = cntI l p k + if (lx l k).kind = 1 ∧ (lx l k).party = p then 1 else 0 := by
 unfold cntI
 rw [Zdj hk, Zbf]
 split <;> simp
theorem cntI_lt {l : List Ln} {p : Int} {k : Nat} (hk : k < l.length) (h1 : (lx l k).kind = 1) (hp : (lx l k).party = p) : cntI l p k < (insL l p).length := (insL_at hk h1 hp).1
theorem cntI_le (l : List Ln) (p : Int) (k : Nat) : cntI l p k ≤ l.length := by
 unfold cntI insL
 rw [List.length_map]
 exact Nat.le_trans (List.length_filter_le _ _) (by rw [List.length_take]; omega)
theorem stepV_1 {l : List Ln} {xs ys : List Int} {k : Nat} {vs : List Int} (h : (lx l k).kind = 1) : stepV l xs ys k vs = if (lx l k).party = 0 then gi xs (cntI l 0 k) else gi ys (cntI l 1 k) := by
 unfold stepV inV cntI; rw [if_pos h]
theorem stepV_o {l : List Ln} {xs ys : List Int} {k : Nat} {vs : List Int} (h : (lx l k).kind ≠ 1) : stepV l xs ys k vs = lineV (lx l k) (pwK l (lx l k) 0).toNat (pvsL l vs (lx l k)) := by
 unfold stepV; rw [if_neg h]; rfl
theorem lineV_2 {x : Ln} {n : Nat} {ps : List Int} (h : x.kind = 2) : lineV x n ps = x.value := by unfold lineV; rw [if_pos h]
theorem lineV_3 {x : Ln} {n : Nat} {ps : List Int} (h : x.kind = 3) : lineV x n ps = opV x.op n (gi ps 0) (gi ps 1) := by unfold lineV; rw [if_neg (by omega), if_pos h]
theorem lineV_4 {x : Ln} {n : Nat} {ps : List Int} (h : x.kind = 4) : lineV x n ps = 2 ^ n - 1 - gi ps 0 := by unfold lineV; rw [if_neg (by omega), if_neg (by omega), if_pos h]
theorem lineV_5 {x : Ln} {n : Nat} {ps : List Int} (h : x.kind = 5) : lineV x n ps = gi ps (2 - gi ps 0).toNat := by unfold lineV; rw [if_neg (by omega), if_neg (by omega), if_neg (by omega), if_pos h]
theorem lineV_6 {x : Ln} {n : Nat} {ps : List Int} (h : x.kind = 6) : lineV x n ps = gi ps 0 := by unfold lineV; rw [if_neg (by omega), if_neg (by omega), if_neg (by omega), if_neg (by omega)]
theorem fitB_lenV {ws ns : List Int} (h : fitB ws ns = true) : ws.length = ns.length := by
 unfold fitB at h
 rw [Bool.and_eq_true] at h
 exact of_decide_eq_true h.1
theorem band_mask {z : Int} {W N : Nat} (hN : N = 2 ^ W) (hW : W ≤ 10) (h1 : -1000000 ≤ z) (h2 : z ≤ 1000000) : bits .and .i64 z ((N : Int) - 1) = z % N := by
 have hp : 1 ≤ N := by rw [hN]; exact Nat.one_le_two_pow
 have h1024 : N ≤ 1024 := by rw [hN]; exact Nat.pow_le_pow_right (by omega) hW
 have e : (N : Int) - 1 = ((N - 1 : Nat) : Int) := by omega
 rw [e]
 show IntKind.i64.wrap ((BitVec.ofInt 64 z &&& BitVec.ofInt 64 ((N - 1 : Nat) : Int)).toNat : Int) = _
 rw [BitVec.toNat_and, Zdv (a := N - 1) (by omega), BitVec.toNat_ofInt, hN, Nat.and_two_pow_sub_one_eq_mod, ← hN]
 have h3 : (((z % ((2 ^ 64 : Nat) : Int)).toNat % N : Nat) : Int) = z % N := by
  rw [Int.natCast_emod, Int.toNat_of_nonneg (Int.emod_nonneg _ (by decide)), Int.emod_emod_of_dvd]
  rw [hN]
  exact Int.natCast_dvd_natCast.2 (Nat.pow_dvd_pow 2 (by omega))
 rw [h3]
 have h4 := Int.emod_nonneg z (show (N : Int) ≠ 0 by omega)
 have h5 := Int.emod_lt_of_pos z (show (0 : Int) < N by omega)
 exact IntWalk.i64_in _ (by omega)
theorem bitA_any (b : Bool) (w : World) : Calls Tryz.prog 157 #[.bool b] w fun e w' => e = .returned (.int .i64 (if b = true then 1 else 0)) ∧ w = w' := by
 cases b
 ·go_enter Tryz.func157, Tryz.ntmps157
  go_wp2
  go_ret
  exact ⟨rfl, rfl⟩
 ·go_enter Tryz.func157, Tryz.ntmps157
  go_wp2
  go_ret
  exact ⟨rfl, rfl⟩
set_option maxHeartbeats 1600000 in
theorem operate_43 (W A B : Nat) (w : World) (h1 : 1 ≤ W) (h10 : W ≤ 10) (ha : A ≤ 1023) (hb : B ≤ 1023) :
 Calls Tryz.prog 137 #[.string (bs [43]), .int .i64 (W : Int), .int .i64 (A : Int), .int .i64 (B : Int)] w fun e w' => e = .returned (.int .i64 (opV [43] W A B)) ∧ w = w' := by
 have t43 : ((bs [43]).toList == [43]) = true := bs_is rfl
 have t45 : ((bs [43]).toList == [45]) = false := Zac (by decide)
 have t42 : ((bs [43]).toList == [42]) = false := Zac (by decide)
 have t60 : ((bs [43]).toList == [60]) = false := Zac (by decide)
 have t61 : ((bs [43]).toList == [61]) = false := Zac (by decide)
 have t38 : ((bs [43]).toList == [38]) = false := Zac (by decide)
 have t124 : ((bs [43]).toList == [124]) = false := Zac (by decide)
 have t94 : ((bs [43]).toList == [94]) = false := Zac (by decide)
 obtain ⟨N2, hN⟩ : ∃ N2, Hid (N2 = 2 ^ W) := ⟨_, zH rfl⟩
 have hN2 : Hid ((2 : Int) ^ W = (N2 : Int)) := zH (by rw [hN.out, Int.natCast_pow]; rfl)
 have hNb := (Zcc hN.out h10).1
 have hN1 : 1 ≤ N2 := by rw [hN.out]; exact Nat.one_le_two_pow
 have hR : Hid (opV [43] W A B = (A + B : Int) % N2) := zH (by unfold opV; rw [if_pos rfl, hN2.out])
 have hw1 : IntKind.i64.wrap ((A : Int) + B) = A + B := by rw [IntKind.wrap_i64] <;> omega
 have hw2 : IntKind.i64.wrap ((N2 : Int) - 1) = N2 - 1 := by rw [IntKind.wrap_i64] <;> omega
 have hbm : bits .and .i64 ((A : Int) + B) ((N2 : Int) - 1) = ((A : Int) + B) % N2 := band_mask hN.out h10 (by omega) (by omega)
 have hs := hN2.out
 have hs2 : ((W : Nat) : Int).toNat = W := by omega
 rw [hR.out]
 go_enter Tryz.func137, Tryz.ntmps137
 go_wp2
 go_ret
 exact ⟨rfl, rfl⟩
set_option maxHeartbeats 1600000 in
theorem operate_45 (W A B : Nat) (w : World) (h1 : 1 ≤ W) (h10 : W ≤ 10) (ha : A ≤ 1023) (hb : B ≤ 1023) :
 Calls Tryz.prog 137 #[.string (bs [45]), .int .i64 (W : Int), .int .i64 (A : Int), .int .i64 (B : Int)] w fun e w' => e = .returned (.int .i64 (opV [45] W A B)) ∧ w = w' := by
 have t43 : ((bs [45]).toList == [43]) = false := Zac (by decide)
 have t45 : ((bs [45]).toList == [45]) = true := bs_is rfl
 have t42 : ((bs [45]).toList == [42]) = false := Zac (by decide)
 have t60 : ((bs [45]).toList == [60]) = false := Zac (by decide)
 have t61 : ((bs [45]).toList == [61]) = false := Zac (by decide)
 have t38 : ((bs [45]).toList == [38]) = false := Zac (by decide)
 have t124 : ((bs [45]).toList == [124]) = false := Zac (by decide)
 have t94 : ((bs [45]).toList == [94]) = false := Zac (by decide)
 obtain ⟨N2, hN⟩ : ∃ N2, Hid (N2 = 2 ^ W) := ⟨_, zH rfl⟩
 have hN2 : Hid ((2 : Int) ^ W = (N2 : Int)) := zH (by rw [hN.out, Int.natCast_pow]; rfl)
 have hNb := (Zcc hN.out h10).1
 have hN1 : 1 ≤ N2 := by rw [hN.out]; exact Nat.one_le_two_pow
 have hR : Hid (opV [45] W A B = (A - B : Int) % N2) := zH (by unfold opV; rw [if_neg (by decide), if_pos rfl, hN2.out])
 have hw1 : IntKind.i64.wrap ((A : Int) - B) = A - B := by rw [IntKind.wrap_i64] <;> omega
 have hw2 : IntKind.i64.wrap ((N2 : Int) - 1) = N2 - 1 := by rw [IntKind.wrap_i64] <;> omega
 have hbm : bits .and .i64 ((A : Int) - B) ((N2 : Int) - 1) = ((A : Int) - B) % N2 := band_mask hN.out h10 (by omega) (by omega)
 have hs := hN2.out
 have hs2 : ((W : Nat) : Int).toNat = W := by omega
 rw [hR.out]
 go_enter Tryz.func137, Tryz.ntmps137
 go_wp2
 go_ret
 exact ⟨rfl, rfl⟩
set_option maxHeartbeats 1600000 in
theorem operate_42 (W A B : Nat) (w : World) (h1 : 1 ≤ W) (h10 : W ≤ 10) (ha : A ≤ 1023) (hb : B ≤ 1023) :
 Calls Tryz.prog 137 #[.string (bs [42]), .int .i64 (W : Int), .int .i64 (A : Int), .int .i64 (B : Int)] w fun e w' => e = .returned (.int .i64 (opV [42] W A B)) ∧ w = w' := by
 have t43 : ((bs [42]).toList == [43]) = false := Zac (by decide)
 have t45 : ((bs [42]).toList == [45]) = false := Zac (by decide)
 have t42 : ((bs [42]).toList == [42]) = true := bs_is rfl
 have t60 : ((bs [42]).toList == [60]) = false := Zac (by decide)
 have t61 : ((bs [42]).toList == [61]) = false := Zac (by decide)
 have t38 : ((bs [42]).toList == [38]) = false := Zac (by decide)
 have t124 : ((bs [42]).toList == [124]) = false := Zac (by decide)
 have t94 : ((bs [42]).toList == [94]) = false := Zac (by decide)
 obtain ⟨N2, hN⟩ : ∃ N2, Hid (N2 = 2 ^ W) := ⟨_, zH rfl⟩
 have hN2 : Hid ((2 : Int) ^ W = (N2 : Int)) := zH (by rw [hN.out, Int.natCast_pow]; rfl)
 have hNb := (Zcc hN.out h10).1
 have hN1 : 1 ≤ N2 := by rw [hN.out]; exact Nat.one_le_two_pow
 have hR : Hid (opV [42] W A B = (A * B : Int)) := zH (by unfold opV; rfl)
 have hm : A * B ≤ 1023 * 1023 := Nat.mul_le_mul ha hb
 have hw1 : IntKind.i64.wrap ((A : Int) * B) = A * B := by rw [← Int.natCast_mul]; exact IntWalk.i64_in _ (by omega)
 have hw2 : IntKind.i64.wrap ((N2 : Int) - 1) = N2 - 1 := by rw [IntKind.wrap_i64] <;> omega
 have hs := hN2.out
 have hs2 : ((W : Nat) : Int).toNat = W := by omega
 rw [hR.out]
 go_enter Tryz.func137, Tryz.ntmps137
 go_wp2
 go_ret
 exact ⟨rfl, rfl⟩
set_option maxHeartbeats 1600000 in
theorem operate_60 (W A B : Nat) (w : World) (h1 : 1 ≤ W) (h10 : W ≤ 10) (ha : A ≤ 1023) (hb : B ≤ 1023) :
 Calls Tryz.prog 137 #[.string (bs [60]), .int .i64 (W : Int), .int .i64 (A : Int), .int .i64 (B : Int)] w fun e w' => e = .returned (.int .i64 (opV [60] W A B)) ∧ w = w' := by
 have t43 : ((bs [60]).toList == [43]) = false := Zac (by decide)
 have t45 : ((bs [60]).toList == [45]) = false := Zac (by decide)
 have t42 : ((bs [60]).toList == [42]) = false := Zac (by decide)
 have t60 : ((bs [60]).toList == [60]) = true := bs_is rfl
 have t61 : ((bs [60]).toList == [61]) = false := Zac (by decide)
 have t38 : ((bs [60]).toList == [38]) = false := Zac (by decide)
 have t124 : ((bs [60]).toList == [124]) = false := Zac (by decide)
 have t94 : ((bs [60]).toList == [94]) = false := Zac (by decide)
 obtain ⟨N2, hN⟩ : ∃ N2, Hid (N2 = 2 ^ W) := ⟨_, zH rfl⟩
 have hN2 : Hid ((2 : Int) ^ W = (N2 : Int)) := zH (by rw [hN.out, Int.natCast_pow]; rfl)
 have hNb := (Zcc hN.out h10).1
 have hN1 : 1 ≤ N2 := by rw [hN.out]; exact Nat.one_le_two_pow
 have hR : Hid (opV [60] W A B = if (A : Int) < B then 1 else 0) := zH (by unfold opV; rfl)
 have hw2 : IntKind.i64.wrap ((N2 : Int) - 1) = N2 - 1 := by rw [IntKind.wrap_i64] <;> omega
 have hs := hN2.out
 have hs2 : ((W : Nat) : Int).toNat = W := by omega
 rw [hR.out]
 by_cases hc : A < B
 ·rw [if_pos (by omega)]
  have hd : decide (A < B) = true := decide_eq_true hc
  clear hc
  go_enter Tryz.func137, Tryz.ntmps137
  go_wp2_with fail
  refine (bitA_any true _).mono ?_
  rintro e w1 ⟨rfl, rfl⟩
  go_wp2
  go_ret
  exact ⟨rfl, rfl⟩
 ·rw [if_neg (by omega)]
  have hd : decide (A < B) = false := decide_eq_false hc
  clear hc
  go_enter Tryz.func137, Tryz.ntmps137
  go_wp2_with fail
  refine (bitA_any false _).mono ?_
  rintro e w1 ⟨rfl, rfl⟩
  go_wp2
  go_ret
  exact ⟨rfl, rfl⟩
set_option maxHeartbeats 1600000 in
theorem operate_61 (W A B : Nat) (w : World) (h1 : 1 ≤ W) (h10 : W ≤ 10) (ha : A ≤ 1023) (hb : B ≤ 1023) :
 Calls Tryz.prog 137 #[.string (bs [61]), .int .i64 (W : Int), .int .i64 (A : Int), .int .i64 (B : Int)] w fun e w' => e = .returned (.int .i64 (opV [61] W A B)) ∧ w = w' := by
 have t43 : ((bs [61]).toList == [43]) = false := Zac (by decide)
 have t45 : ((bs [61]).toList == [45]) = false := Zac (by decide)
 have t42 : ((bs [61]).toList == [42]) = false := Zac (by decide)
 have t60 : ((bs [61]).toList == [60]) = false := Zac (by decide)
 have t61 : ((bs [61]).toList == [61]) = true := bs_is rfl
 have t38 : ((bs [61]).toList == [38]) = false := Zac (by decide)
 have t124 : ((bs [61]).toList == [124]) = false := Zac (by decide)
 have t94 : ((bs [61]).toList == [94]) = false := Zac (by decide)
 obtain ⟨N2, hN⟩ : ∃ N2, Hid (N2 = 2 ^ W) := ⟨_, zH rfl⟩
 have hN2 : Hid ((2 : Int) ^ W = (N2 : Int)) := zH (by rw [hN.out, Int.natCast_pow]; rfl)
 have hNb := (Zcc hN.out h10).1
 have hN1 : 1 ≤ N2 := by rw [hN.out]; exact Nat.one_le_two_pow
 have hR : Hid (opV [61] W A B = if (A : Int) = B then 1 else 0) := zH (by unfold opV; rfl)
 have hw2 : IntKind.i64.wrap ((N2 : Int) - 1) = N2 - 1 := by rw [IntKind.wrap_i64] <;> omega
 have hs := hN2.out
 have hs2 : ((W : Nat) : Int).toNat = W := by omega
 rw [hR.out]
 by_cases hc : A = B
 ·rw [if_pos (by omega)]
  obtain rfl : A = B := by omega
  have hd : ((A : Int) == A) = true := by simp
  clear hc hR
  go_enter Tryz.func137, Tryz.ntmps137
  go_wp2_with fail
  refine (bitA_any true _).mono ?_
  rintro e w1 ⟨rfl, rfl⟩
  go_wp2
  go_ret
  exact ⟨rfl, rfl⟩
 ·rw [if_neg (by omega)]
  have hd : ((A : Int) == B) = false := by simp; omega
  clear hc
  go_enter Tryz.func137, Tryz.ntmps137
  go_wp2_with fail
  refine (bitA_any false _).mono ?_
  rintro e w1 ⟨rfl, rfl⟩
  go_wp2
  go_ret
  exact ⟨rfl, rfl⟩
set_option maxHeartbeats 1600000 in
theorem operate_38 (W A B : Nat) (w : World) (h1 : 1 ≤ W) (h10 : W ≤ 10) (ha : A ≤ 1023) (hb : B ≤ 1023) :
 Calls Tryz.prog 137 #[.string (bs [38]), .int .i64 (W : Int), .int .i64 (A : Int), .int .i64 (B : Int)] w fun e w' => e = .returned (.int .i64 (opV [38] W A B)) ∧ w = w' := by
 have t43 : ((bs [38]).toList == [43]) = false := Zac (by decide)
 have t45 : ((bs [38]).toList == [45]) = false := Zac (by decide)
 have t42 : ((bs [38]).toList == [42]) = false := Zac (by decide)
 have t60 : ((bs [38]).toList == [60]) = false := Zac (by decide)
 have t61 : ((bs [38]).toList == [61]) = false := Zac (by decide)
 have t38 : ((bs [38]).toList == [38]) = true := bs_is rfl
 have t124 : ((bs [38]).toList == [124]) = false := Zac (by decide)
 have t94 : ((bs [38]).toList == [94]) = false := Zac (by decide)
 obtain ⟨N2, hN⟩ : ∃ N2, Hid (N2 = 2 ^ W) := ⟨_, zH rfl⟩
 have hN2 : Hid ((2 : Int) ^ W = (N2 : Int)) := zH (by rw [hN.out, Int.natCast_pow]; rfl)
 have hNb := (Zcc hN.out h10).1
 have hN1 : 1 ≤ N2 := by rw [hN.out]; exact Nat.one_le_two_pow
 have hR : Hid (opV [38] W A B = ((A &&& B : Nat) : Int)) := zH (by unfold opV; rw [Int.toNat_natCast, Int.toNat_natCast]; rfl)
 have hw2 : IntKind.i64.wrap ((N2 : Int) - 1) = N2 - 1 := by rw [IntKind.wrap_i64] <;> omega
 have hbn : bits .and .i64 (A : Int) (B : Int) = ((A &&& B : Nat) : Int) := band_nat (by omega) (by omega)
 have hs := hN2.out
 have hs2 : ((W : Nat) : Int).toNat = W := by omega
 rw [hR.out]
 go_enter Tryz.func137, Tryz.ntmps137
 go_wp2
 go_ret
 exact ⟨rfl, rfl⟩
set_option maxHeartbeats 1600000 in
theorem operate_124 (W A B : Nat) (w : World) (h1 : 1 ≤ W) (h10 : W ≤ 10) (ha : A ≤ 1023) (hb : B ≤ 1023) :
 Calls Tryz.prog 137 #[.string (bs [124]), .int .i64 (W : Int), .int .i64 (A : Int), .int .i64 (B : Int)] w fun e w' => e = .returned (.int .i64 (opV [124] W A B)) ∧ w = w' := by
 have t43 : ((bs [124]).toList == [43]) = false := Zac (by decide)
 have t45 : ((bs [124]).toList == [45]) = false := Zac (by decide)
 have t42 : ((bs [124]).toList == [42]) = false := Zac (by decide)
 have t60 : ((bs [124]).toList == [60]) = false := Zac (by decide)
 have t61 : ((bs [124]).toList == [61]) = false := Zac (by decide)
 have t38 : ((bs [124]).toList == [38]) = false := Zac (by decide)
 have t124 : ((bs [124]).toList == [124]) = true := bs_is rfl
 have t94 : ((bs [124]).toList == [94]) = false := Zac (by decide)
 obtain ⟨N2, hN⟩ : ∃ N2, Hid (N2 = 2 ^ W) := ⟨_, zH rfl⟩
 have hN2 : Hid ((2 : Int) ^ W = (N2 : Int)) := zH (by rw [hN.out, Int.natCast_pow]; rfl)
 have hNb := (Zcc hN.out h10).1
 have hN1 : 1 ≤ N2 := by rw [hN.out]; exact Nat.one_le_two_pow
 have hR : Hid (opV [124] W A B = ((A ||| B : Nat) : Int)) := zH (by unfold opV; rw [Int.toNat_natCast, Int.toNat_natCast]; rfl)
 have hw2 : IntKind.i64.wrap ((N2 : Int) - 1) = N2 - 1 := by rw [IntKind.wrap_i64] <;> omega
 have hbn : bits .or .i64 (A : Int) (B : Int) = ((A ||| B : Nat) : Int) := bor_nat (by omega) (by omega)
 have hs := hN2.out
 have hs2 : ((W : Nat) : Int).toNat = W := by omega
 rw [hR.out]
 go_enter Tryz.func137, Tryz.ntmps137
 go_wp2
 go_ret
 exact ⟨rfl, rfl⟩
set_option maxHeartbeats 1600000 in
theorem operate_94 (W A B : Nat) (w : World) (h1 : 1 ≤ W) (h10 : W ≤ 10) (ha : A ≤ 1023) (hb : B ≤ 1023) :
 Calls Tryz.prog 137 #[.string (bs [94]), .int .i64 (W : Int), .int .i64 (A : Int), .int .i64 (B : Int)] w fun e w' => e = .returned (.int .i64 (opV [94] W A B)) ∧ w = w' := by
 have t43 : ((bs [94]).toList == [43]) = false := Zac (by decide)
 have t45 : ((bs [94]).toList == [45]) = false := Zac (by decide)
 have t42 : ((bs [94]).toList == [42]) = false := Zac (by decide)
 have t60 : ((bs [94]).toList == [60]) = false := Zac (by decide)
 have t61 : ((bs [94]).toList == [61]) = false := Zac (by decide)
 have t38 : ((bs [94]).toList == [38]) = false := Zac (by decide)
 have t124 : ((bs [94]).toList == [124]) = false := Zac (by decide)
 have t94 : ((bs [94]).toList == [94]) = true := bs_is rfl
 obtain ⟨N2, hN⟩ : ∃ N2, Hid (N2 = 2 ^ W) := ⟨_, zH rfl⟩
 have hN2 : Hid ((2 : Int) ^ W = (N2 : Int)) := zH (by rw [hN.out, Int.natCast_pow]; rfl)
 have hNb := (Zcc hN.out h10).1
 have hN1 : 1 ≤ N2 := by rw [hN.out]; exact Nat.one_le_two_pow
 have hR : Hid (opV [94] W A B = ((A ^^^ B : Nat) : Int)) := zH (by unfold opV; rw [Int.toNat_natCast, Int.toNat_natCast]; rfl)
 have hw2 : IntKind.i64.wrap ((N2 : Int) - 1) = N2 - 1 := by rw [IntKind.wrap_i64] <;> omega
 have hbn : bits .xor .i64 (A : Int) (B : Int) = ((A ^^^ B : Nat) : Int) := bxor_nat (by omega) (by omega)
 have hs := hN2.out
 have hs2 : ((W : Nat) : Int).toNat = W := by omega
 rw [hR.out]
 go_enter Tryz.func137, Tryz.ntmps137
 go_wp2
 go_ret
 exact ⟨rfl, rfl⟩
theorem operate_any (op : Str) (W : Nat) (a b : Int) (w : World) (ho : opB op = true) (h1 : 1 ≤ W) (h10 : W ≤ 10) (ha : 0 ≤ a ∧ a ≤ 1023) (hb : 0 ≤ b ∧ b ≤ 1023) :
 Calls Tryz.prog 137 #[.string (bs op), .int .i64 (W : Int), .int .i64 a, .int .i64 b] w fun e w' => e = .returned (.int .i64 (opV op W a b)) ∧ w = w' := by
 obtain ⟨A, rfl⟩ := Int.eq_ofNat_of_zero_le ha.1
 obtain ⟨B, rfl⟩ := Int.eq_ofNat_of_zero_le hb.1
 rcases opB_cases ho with rfl | rfl | rfl | rfl | rfl | rfl | rfl | rfl
 ·exact operate_43 W A B w h1 h10 (by omega) (by omega)
 ·exact operate_45 W A B w h1 h10 (by omega) (by omega)
 ·exact operate_42 W A B w h1 h10 (by omega) (by omega)
 ·exact operate_60 W A B w h1 h10 (by omega) (by omega)
 ·exact operate_61 W A B w h1 h10 (by omega) (by omega)
 ·exact operate_38 W A B w h1 h10 (by omega) (by omega)
 ·exact operate_124 W A B w h1 h10 (by omega) (by omega)
 ·exact operate_94 W A B w h1 h10 (by omega) (by omega)
end Go.Proofs.YtenknpcbbcbciaaGreat
