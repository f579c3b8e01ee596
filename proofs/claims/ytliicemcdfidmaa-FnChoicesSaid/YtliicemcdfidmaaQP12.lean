/- Plain facts: what the gadgets' circuits answer for numbers. No program in sight. Numbers as inputs: RunWith of the program where it succeeds. Plain facts: the circuit of a constant. No program in sight. -/
import Derived.Test.YtliicemcdfidmaaQP11
import Derived.Test.YtliicemcdfidmaaQP08
import Derived.Test.YtliicemcdfidmaaQP10
namespace Go.Proofs.Ytliicemcdfidmaa
open Go.RowKit
set_option linter.unusedVariables false
set_option linter.unusedSimpArgs false
theorem eqs_v {X : Nat} {inp : List Int} (hX : inp.length = X) {g0 : List G3} {us vs : List Int} {w : Nat} (hu : Rw_ X inp g0 us w) (hv : Rw_ X inp g0 vs w) :
    ∀ i, i ≤ w → Kp X inp g0 (eqs X g0 us vs i).g ∧ ∀ j, j < i → (0 ≤ gi (eqs X g0 us vs i).o j ∧ gi (eqs X g0 us vs i).o j < (X : Int) + (eqs X g0 us vs i).g.length) ∧ wv inp (eqs X g0 us vs i).g (gi (eqs X g0 us vs i).o j) = 1 - (wv inp g0 (gi us j) + wv inp g0 (gi vs j)) % 2 := by
  intro i
  induction i with
  | zero => intro _; exact ⟨Kp.refl _ _ _, fun j hj => by omega⟩
  | succ i ih =>
    intro hi
    obtain ⟨h1, h2⟩ := ih (by omega)
    have hl := eqs_o X g0 us vs i
    have hk := h1.len
    have la := hu.lt i (by omega)
    have lb := hv.lt i (by omega)
    have ea := h1.v _ la
    have eb := h1.v _ lb
    have ba' := hu.bt i (by omega)
    have bb' := hv.bt i (by omega)
    rw [eqs]
    generalize eqs X g0 us vs i = s at *
    dsimp only
    have k1 := (Kp.refl X inp s.g).snoc hX ⟨0, gi us i, gi vs i⟩
    have l1 : (s.g ++ [(⟨0, gi us i, gi vs i⟩ : G3)]).length = s.g.length + 1 := by simp
    have e1 : wv inp (s.g ++ [⟨0, gi us i, gi vs i⟩]) ((X : Int) + s.g.length) = (wv inp g0 (gi us i) + wv inp g0 (gi vs i)) % 2 := by
      rw [wv_new hX rfl, gval_x, ea, eb, bx ba' bb']
    generalize s.g ++ [(⟨0, gi us i, gi vs i⟩ : G3)] = g1 at *
    have k2 := k1.snoc hX ⟨2, (X : Int) + s.g.length, 0⟩
    have l2 : (g1 ++ [(⟨2, (X : Int) + s.g.length, 0⟩ : G3)]).length = s.g.length + 2 := by simp [l1]
    have e2 : wv inp (g1 ++ [⟨2, (X : Int) + s.g.length, 0⟩]) ((X : Int) + s.g.length + 1) = 1 - (wv inp g0 (gi us i) + wv inp g0 (gi vs i)) % 2 := by
      rw [wv_new hX (by rw [l1]; omega), gval_n, e1]
    generalize g1 ++ [(⟨2, (X : Int) + s.g.length, 0⟩ : G3)] = g2 at *
    refine ⟨h1.trans k2, fun j hj => ?_⟩
    rcases Nat.lt_or_ge j i with h | h
    · rw [gi_append_lt (by omega)]
      have h3 := h2 j h
      exact ⟨by omega, by rw [k2.v _ h3.1]; exact h3.2⟩
    · obtain rfl : j = i := by omega
      rw [gi_lastG hl]
      exact ⟨by omega, e2⟩
theorem ands_v {X : Nat} {inp : List Int} (hX : inp.length = X) {g0 : List G3} {es : List Int} {w : Nat} (he : Rw_ X inp g0 es w) :
    ∀ i, i < w → Kp X inp g0 (ands X es g0 i).1 ∧ (0 ≤ (ands X es g0 i).2 ∧ (ands X es g0 i).2 < (X : Int) + (ands X es g0 i).1.length) ∧ Bt (wv inp (ands X es g0 i).1 (ands X es g0 i).2) ∧ (wv inp (ands X es g0 i).1 (ands X es g0 i).2 = 1 ↔ ∀ j, j ≤ i → wv inp g0 (gi es j) = 1) := by
  intro i
  induction i with
  | zero =>
    intro h
    refine ⟨Kp.refl _ _ _, he.lt 0 h, he.bt 0 h, ?_⟩
    show wv inp g0 (gi es 0) = 1 ↔ _
    constructor
    · intro h1 j hj; obtain rfl : j = 0 := by omega
      exact h1
    · intro h1; exact h1 0 (Nat.le_refl _)
  | succ i ih =>
    intro hi
    obtain ⟨h1, h2, h3, h4⟩ := ih (by omega)
    have hk := h1.len
    have la := he.lt (i + 1) hi
    have ea := h1.v _ la
    have ba' := he.bt (i + 1) hi
    rw [ands]
    generalize ands X es g0 i = s at *
    dsimp only
    have k1 := (Kp.refl X inp s.1).snoc hX ⟨1, s.2, gi es (i + 1)⟩
    have l1 : (s.1 ++ [(⟨1, s.2, gi es (i + 1)⟩ : G3)]).length = s.1.length + 1 := by simp
    have e1 : wv inp (s.1 ++ [⟨1, s.2, gi es (i + 1)⟩]) ((X : Int) + s.1.length) = wv inp s.1 s.2 * wv inp g0 (gi es (i + 1)) := by
      rw [wv_new hX rfl, gval_a, ea, ba h3 ba']
    refine ⟨h1.trans k1, by omega, ?_, ?_⟩
    · rw [e1]; rcases bt01 h3 with a | a <;> rcases bt01 ba' with b | b <;> rw [a, b] <;> unfold Bt <;> decide
    · rw [e1]
      constructor
      · intro h j hj
        rcases bt01 h3 with a | a <;> rcases bt01 ba' with b | b <;> rw [a, b] at h <;> try (exact absurd h (by decide))
        rcases Nat.lt_or_ge j (i + 1) with h5 | h5
        · exact h4.1 a j (by omega)
        · obtain rfl : j = i + 1 := by omega
          exact b
      · intro h
        rw [h4.2 (fun j hj => h j (by omega)), h (i + 1) (Nat.le_refl _)]; rfl
theorem chs_v {X : Nat} {inp : List Int} (hX : inp.length = X) {g0 : List G3} {us vs : List Int} {s : Int} {w : Nat} (hs : 0 ≤ s ∧ s < (X : Int) + g0.length) (bs : Bt (wv inp g0 s)) (hu : Rw_ X inp g0 us w) (hv : Rw_ X inp g0 vs w) :
    ∀ i, i ≤ w → Kp X inp g0 (chs X g0 s us vs i).g ∧ ∀ j, j < i → (0 ≤ gi (chs X g0 s us vs i).o j ∧ gi (chs X g0 s us vs i).o j < (X : Int) + (chs X g0 s us vs i).g.length) ∧ wv inp (chs X g0 s us vs i).g (gi (chs X g0 s us vs i).o j) = if wv inp g0 s = 1 then wv inp g0 (gi us j) else wv inp g0 (gi vs j) := by
  intro i
  induction i with
  | zero => intro _; exact ⟨Kp.refl _ _ _, fun j hj => by omega⟩
  | succ i ih =>
    intro hi
    obtain ⟨h1, h2⟩ := ih (by omega)
    have hl := chs_o X g0 s us vs i
    have hk := h1.len
    have la := hu.lt i (by omega)
    have lb := hv.lt i (by omega)
    have ea := h1.v _ la
    have eb := h1.v _ lb
    have es := h1.v _ hs
    have ba' := hu.bt i (by omega)
    have bb' := hv.bt i (by omega)
    rw [chs]
    generalize chs X g0 s us vs i = t at *
    dsimp only
    have k1 := (Kp.refl X inp t.g).snoc hX ⟨0, gi us i, gi vs i⟩
    have l1 : (t.g ++ [(⟨0, gi us i, gi vs i⟩ : G3)]).length = t.g.length + 1 := by simp
    have e1 : wv inp (t.g ++ [⟨0, gi us i, gi vs i⟩]) ((X : Int) + t.g.length) = (wv inp g0 (gi us i) + wv inp g0 (gi vs i)) % 2 := by
      rw [wv_new hX rfl, gval_x, ea, eb, bx ba' bb']
    generalize t.g ++ [(⟨0, gi us i, gi vs i⟩ : G3)] = g1 at *
    have k2 := k1.snoc hX ⟨1, s, (X : Int) + t.g.length⟩
    have l2 : (g1 ++ [(⟨1, s, (X : Int) + t.g.length⟩ : G3)]).length = t.g.length + 2 := by simp [l1]
    have e2 : wv inp (g1 ++ [⟨1, s, (X : Int) + t.g.length⟩]) ((X : Int) + t.g.length + 1) = wv inp g0 s * ((wv inp g0 (gi us i) + wv inp g0 (gi vs i)) % 2) := by
      rw [wv_new hX (by rw [l1]; omega), gval_a, e1, k1.v s (by omega), es, ba bs (by unfold Bt; omega)]
    generalize g1 ++ [(⟨1, s, (X : Int) + t.g.length⟩ : G3)] = g2 at *
    have k3 := k2.snoc hX ⟨0, (X : Int) + t.g.length + 1, gi vs i⟩
    have l3 : (g2 ++ [(⟨0, (X : Int) + t.g.length + 1, gi vs i⟩ : G3)]).length = t.g.length + 3 := by simp [l2]
    have e3 : wv inp (g2 ++ [⟨0, (X : Int) + t.g.length + 1, gi vs i⟩]) ((X : Int) + t.g.length + 2) = if wv inp g0 s = 1 then wv inp g0 (gi us i) else wv inp g0 (gi vs i) := by
      rw [wv_new hX (by rw [l2]; omega), gval_x, e2, k2.v _ (by omega), eb]
      rcases bt01 bs with a | a <;> rcases bt01 ba' with b | b <;> rcases bt01 bb' with c | c <;> rw [a, b, c] <;> decide
    generalize g2 ++ [(⟨0, (X : Int) + t.g.length + 1, gi vs i⟩ : G3)] = g3 at *
    refine ⟨h1.trans k3, fun j hj => ?_⟩
    rcases Nat.lt_or_ge j i with h | h
    · rw [gi_append_lt (by omega)]
      have h3 := h2 j h
      exact ⟨by omega, by rw [k3.v _ h3.1]; exact h3.2⟩
    · obtain rfl : j = i := by omega
      rw [gi_lastG hl]
      exact ⟨by omega, e3⟩
theorem gi_spn' (a : Int) {n j : Nat} (h : j < n) : gi (spn a n) j = a + j := by unfold spn gi; simp [h]
theorem bitsN_consG (n k : Nat) : bitsN n (k + 1) = ((n % 2 : Nat) : Int) :: bitsN (n / 2) k := by
  unfold bitsN tab
  rw [List.range_succ_eq_map, List.map_cons, List.map_map]
  congr 1
  · simp
  · refine List.map_congr_left fun i _ => ?_
    show ((n / 2 ^ (i + 1) % 2 : Nat) : Int) = ((n / 2 / 2 ^ i % 2 : Nat) : Int)
    rw [Nat.div_div_eq_div_mul, Nat.pow_succ, Nat.mul_comm]
theorem bitsN_app (u v w k : Nat) (hu : u < 2 ^ w) : bitsN (u + v * 2 ^ w) (w + k) = bitsN u w ++ bitsN v k := by
  induction w generalizing u with
  | zero => obtain rfl : u = 0 := by simpa using hu
            simp [bitsN, tab]
  | succ w ih =>
    rw [show w + 1 + k = (w + k) + 1 by omega, bitsN_consG, bitsN_consG, List.cons_append]
    have e1 : (u + v * 2 ^ (w + 1)) % 2 = u % 2 := by rw [Nat.pow_succ, ← Nat.mul_assoc]; omega
    have e2 : (u + v * 2 ^ (w + 1)) / 2 = u / 2 + v * 2 ^ w := by rw [Nat.pow_succ, ← Nat.mul_assoc]; omega
    rw [e1, e2, ih (u / 2) (by rw [Nat.pow_succ] at hu; omega)]
structure UV (w u v : Nat) (X : Nat) (inp : List Int) : Prop where
  len : inp.length = X
  ru : Rw_ X inp [] (spn 0 w) w
  rv : Rw_ X inp [] (spn w w) w
  nu : nb (fun j => wv inp [] (gi (spn 0 w) j)) w = u
  nv : nb (fun j => wv inp [] (gi (spn w w) j)) w = v
theorem UV.mk_ {w u v : Nat} (hu : u < 2 ^ w) (hv : v < 2 ^ w) (rest : List Int) : UV w u v (w + w + rest.length) (bitsN u w ++ bitsN v w ++ rest) := by
  have e1 : ∀ j, j < w → wv (bitsN u w ++ bitsN v w ++ rest) [] (gi (spn 0 w) j) = gi (bitsN u w) j := fun j hj => by
    rw [gi_spn' 0 hj, wv_nil, show (0 + (j : Int)).toNat = j by omega, List.append_assoc, gi_append_lt (by rw [bitsN_len]; exact hj)]
  have e2 : ∀ j, j < w → wv (bitsN u w ++ bitsN v w ++ rest) [] (gi (spn w w) j) = gi (bitsN v w) j := fun j hj => by
    rw [gi_spn' w hj, wv_nil, show ((w : Int) + (j : Int)).toNat = w + j by omega, gi_append_lt (by rw [List.length_append, bitsN_len, bitsN_len]; omega)]
    unfold gi
    rw [List.getD_eq_getElem?_getD, List.getD_eq_getElem?_getD, List.getElem?_append_right (by rw [bitsN_len]; omega), bitsN_len, show w + j - w = j by omega]
  refine ⟨by simp [bitsN_len]; omega, ⟨fun j hj => ?_, fun j hj => ?_⟩, ⟨fun j hj => ?_, fun j hj => ?_⟩, ?_, ?_⟩
  · rw [gi_spn' 0 hj]; simp; omega
  · rw [e1 j hj]; exact bitsN_bt hj
  · rw [gi_spn' w hj]; simp; omega
  · rw [e2 j hj]; exact bitsN_bt hj
  · rw [nb_congr w e1, ← numN_bits' hu, numN_nb', bitsN_len]
  · rw [nb_congr w e2, ← numN_bits' hv, numN_nb', bitsN_len]
theorem UV.two {w u v : Nat} (hu : u < 2 ^ w) (hv : v < 2 ^ w) : UV w u v (w + w) (bitsN u w ++ bitsN v w) := by
  have := UV.mk_ hu hv []
  simpa using this
theorem numN_pick (inp : List Int) (g : List G3) (o : List Int) : numN (pick (vals g inp g.length) o) = nb (fun j => wv inp g (gi o j)) o.length := by
  rw [numN_nb', pick_len]
  exact nb_congr _ fun j hj => by unfold pick; rw [gi_map hj]; rfl
def ans (G : Go2) (inp : List Int) : Int := numN (pick (vals G.g inp G.g.length) G.o)
theorem sub_core {w u v : Nat} (hw : 1 ≤ w) {X : Nat} {inp : List Int} (h : UV w u v X inp) : AdOk X inp [] (subS X [] (spn 0 w) (spn w w) w) w ∧
    (wv inp (subS X [] (spn 0 w) (spn w w) w).g (subS X [] (spn 0 w) (spn w w) w).c = if u < v then 1 else 0) ∧
    nb (fun j => wv inp (subS X [] (spn 0 w) (spn w w) w).g (gi (subS X [] (spn 0 w) (spn w w) w).o j)) w = (u : Int) - v + if u < v then 2 ^ w else 0 := by
  obtain ⟨h1, h2⟩ := subS_v h.len h.ru h.rv w (Nat.le_refl _)
  have h3 := h2 (by omega)
  rw [h.nu, h.nv] at h3
  have hb := nb_bd w h1.ob
  have hc := h1.cb (by omega)
  generalize nb (fun j => wv inp (subS X [] (spn 0 w) (spn w w) w).g (gi (subS X [] (spn 0 w) (spn w w) w).o j)) w = D at *
  generalize wv inp (subS X [] (spn 0 w) (spn w w) w).g (subS X [] (spn 0 w) (spn w w) w).c = c at *
  generalize (2 : Int) ^ w = P at *
  rcases bt01 hc with rfl | rfl
  · have : ¬ u < v := by omega
    rw [if_neg this, if_neg this]
    exact ⟨h1, rfl, by omega⟩
  · have : u < v := by omega
    rw [if_pos this, if_pos this]
    exact ⟨h1, rfl, by omega⟩
theorem less_v {w u v : Nat} (hw : 1 ≤ w) (hu : u < 2 ^ w) (hv : v < 2 ^ w) : ans (lessG w) (bitsN u w ++ bitsN v w) = if u < v then 1 else 0 := by
  have h := UV.two hu hv
  obtain ⟨h1, h2, h3⟩ := sub_core hw h
  unfold ans lessG
  rw [show ((w : Int) + w) = ((w + w : Nat) : Int) by omega]
  dsimp only
  rw [← h2]
  simp [pick, numN, wv]
theorem greatest_v {w u v : Nat} (hw : 1 ≤ w) (hu : u < 2 ^ w) (hv : v < 2 ^ w) : ans (greatestG w) (bitsN u w ++ bitsN v w) = if u < v then (v : Int) else u := by
  have h := UV.two hu hv
  obtain ⟨h1, h2, h3⟩ := sub_core hw h
  have hc := h1.cl (by omega)
  have bc := h1.cb (by omega)
  have up : ∀ us, Rw_ (w + w) (bitsN u w ++ bitsN v w) [] us w → Rw_ (w + w) (bitsN u w ++ bitsN v w) (subS ((w + w : Nat) : Int) [] (spn 0 w) (spn w w) w).g us w := fun us r =>
    ⟨fun j hj => by have := r.lt j hj; have := h1.kp.len; omega, fun j hj => by rw [h1.kp.v _ (r.lt j hj)]; exact r.bt j hj⟩
  obtain ⟨_, c2⟩ := chs_v h.len hc bc (up _ h.rv) (up _ h.ru) w (Nat.le_refl _)
  unfold ans greatestG
  rw [show ((w : Int) + w) = ((w + w : Nat) : Int) by omega]
  dsimp only
  rw [numN_pick, chs_o, nb_congr w (fun j hj => (c2 j hj).2), h2]
  by_cases hlt : u < v
  · rw [if_pos hlt, if_pos hlt]
    simp only [if_true]
    rw [nb_congr w (fun j hj => h1.kp.v _ (h.rv.lt j hj)), h.nv]
  · rw [if_neg hlt, if_neg hlt]
    simp only [show ¬ ((0 : Int) = 1) by decide, if_false]
    rw [nb_congr w (fun j hj => h1.kp.v _ (h.ru.lt j hj)), h.nu]
theorem equal_v {w u v : Nat} (hw : 1 ≤ w) (hu : u < 2 ^ w) (hv : v < 2 ^ w) : ans (equalG w) (bitsN u w ++ bitsN v w) = if u = v then 1 else 0 := by
  have h := UV.two hu hv
  obtain ⟨h1, h2⟩ := eqs_v h.len h.ru h.rv w (Nat.le_refl _)
  have he : Rw_ (w + w) (bitsN u w ++ bitsN v w) (eqs ((w + w : Nat) : Int) [] (spn 0 w) (spn w w) w).g (eqs ((w + w : Nat) : Int) [] (spn 0 w) (spn w w) w).o w :=
    ⟨fun j hj => (h2 j hj).1, fun j hj => by rw [(h2 j hj).2]; unfold Bt; omega⟩
  obtain ⟨_, a2, a3, a4⟩ := ands_v h.len he (w - 1) (by omega)
  unfold ans equalG
  rw [show ((w : Int) + w) = ((w + w : Nat) : Int) by omega]
  dsimp only
  have key : (∀ j, j ≤ w - 1 → wv (bitsN u w ++ bitsN v w) (eqs ((w + w : Nat) : Int) [] (spn 0 w) (spn w w) w).g (gi (eqs ((w + w : Nat) : Int) [] (spn 0 w) (spn w w) w).o j) = 1) ↔ u = v := by
    constructor
    · intro hj
      have : nb (fun j => wv (bitsN u w ++ bitsN v w) [] (gi (spn 0 w) j)) w = nb (fun j => wv (bitsN u w ++ bitsN v w) [] (gi (spn w w) j)) w := nb_congr w fun j hj' => by
        have e := hj j (by omega)
        rw [(h2 j hj').2] at e
        have b1 := h.ru.bt j hj'
        have b2 := h.rv.bt j hj'
        unfold Bt at b1 b2
        omega
      rw [h.nu, h.nv] at this
      omega
    · intro e j hj
      rw [(h2 j (by omega)).2]
      have := nb_inj w h.ru.bt h.rv.bt (by rw [h.nu, h.nv, e]) j (by omega)
      have b1 := h.ru.bt j (by omega)
      unfold Bt at b1
      omega
  rw [key] at a4
  have e0 : numN (pick (vals (ands ((w + w : Nat) : Int) (eqs ((w + w : Nat) : Int) [] (spn 0 w) (spn w w) w).o (eqs ((w + w : Nat) : Int) [] (spn 0 w) (spn w w) w).g (w - 1)).1 (bitsN u w ++ bitsN v w) (ands ((w + w : Nat) : Int) (eqs ((w + w : Nat) : Int) [] (spn 0 w) (spn w w) w).o (eqs ((w + w : Nat) : Int) [] (spn 0 w) (spn w w) w).g (w - 1)).1.length) [(ands ((w + w : Nat) : Int) (eqs ((w + w : Nat) : Int) [] (spn 0 w) (spn w w) w).o (eqs ((w + w : Nat) : Int) [] (spn 0 w) (spn w w) w).g (w - 1)).2]) = wv (bitsN u w ++ bitsN v w) (ands ((w + w : Nat) : Int) (eqs ((w + w : Nat) : Int) [] (spn 0 w) (spn w w) w).o (eqs ((w + w : Nat) : Int) [] (spn 0 w) (spn w w) w).g (w - 1)).1 (ands ((w + w : Nat) : Int) (eqs ((w + w : Nat) : Int) [] (spn 0 w) (spn w w) w).o (eqs ((w + w : Nat) : Int) [] (spn 0 w) (spn w w) w).g (w - 1)).2 := by simp [pick, numN, wv]
  rw [e0]
  by_cases he : u = v
  · rw [if_pos he]; exact a4.2 he
  · rw [if_neg he]
    rcases bt01 a3 with h | h
    · exact h
    · exact absurd (a4.1 h) he
theorem choose_v {w u v t : Nat} (hw : 1 ≤ w) (hu : u < 2 ^ w) (hv : v < 2 ^ w) (ht : t < 2) : ans (chooseG w) (bitsN (u + v * 2 ^ w) (2 * w) ++ bitsN t 1) = if t = 1 then (u : Int) else v := by
  have h := UV.mk_ hu hv (bitsN t 1)
  rw [bitsN_len] at h
  have e : bitsN (u + v * 2 ^ w) (2 * w) = bitsN u w ++ bitsN v w := by rw [show 2 * w = w + w by omega]; exact bitsN_app u v w w hu
  have es : wv (bitsN u w ++ bitsN v w ++ bitsN t 1) [] (2 * (w : Int)) = t := by
    rw [wv_nil, show (2 * (w : Int)).toNat = (bitsN u w ++ bitsN v w).length by simp [bitsN_len]; omega]
    unfold gi
    rw [List.getD_eq_getElem?_getD, List.getElem?_append_right (Nat.le_refl _), Nat.sub_self]
    rcases (show t = 0 ∨ t = 1 by omega) with rfl | rfl <;> rfl
  obtain ⟨_, c2⟩ := chs_v h.len (g0 := []) (s := 2 * (w : Int)) (by simp; omega) (by rw [es]; unfold Bt; omega) h.ru h.rv w (Nat.le_refl _)
  rw [e]
  unfold ans chooseG
  rw [show (2 * (w : Int) + 1) = ((w + w + 1 : Nat) : Int) by omega]
  rw [numN_pick, chs_o, nb_congr w (fun j hj => (c2 j hj).2), es]
  by_cases h1 : t = 1
  · rw [if_pos h1]
    simp only [show (t : Int) = 1 by omega, if_true]
    exact h.nu
  · rw [if_neg h1]
    simp only [show ¬ ((t : Int) = 1) by omega, if_false]
    exact h.nv
attribute [local go_sem] sepAt sepUpon pureAt pureUpon
set_option maxRecDepth 100000 in
set_option maxHeartbeats 3000000 in
theorem RunWith_ok (x y : Int) (Ag : Option Addr) (ng cg : Nat) (Ao : Option Addr) (no co : Nat) (a b X Y : Nat) (gs : List G3) (os : List Int) (w : World) (hr : RG w Ag ng gs ∧ RI w Ao no os) (hng : ng ≤ 2097152) (hno : no ≤ 16) (hc : circB x y gs os = true) (hxX : x = X) (hyY : y = Y) (hX : X ≤ 16) (hY : Y ≤ 16) (ha : a < 2 ^ X) (hb : b < 2 ^ Y) :
    Calls Try.prog 15 #[.agg #[.int .i64 x, .int .i64 y, .slice Ag ng cg, .slice Ao no co], .int .i64 a, .int .i64 b] w fun e w' => e = .returned (.tuple #[.int .i64 (ans ⟨gs, os⟩ (bitsN a X ++ bitsN b Y)), .bool true]) ∧ Below w.heap.size w w' := by
  subst hxX; subst hyY
  have hB : Below w.heap.size w (w.alloc (.cells #[.int .i64 X, .int .i64 Y, .slice Ag ng cg, .slice Ao no co] 28)) := (Below.refl _ _).alloc (Nat.le_refl _) _
  have hx0 : BxC (w.alloc (.cells #[.int .i64 X, .int .i64 Y, .slice Ag ng cg, .slice Ao no co] 28)) w.heap.size X Y Ag ng cg Ao no co := BxC.new w _
  obtain ⟨hx, hy, hg3, ho3, _, hao⟩ := circB_bd hc
  have hlg := hr.1.len
  have hlo := hr.2.len
  rw [hlg] at hg3 hao
  have hp1 : (2 : Nat) ^ X ≤ 65536 := Nat.le_trans (Nat.pow_le_pow_right (by omega) hX) (by decide)
  have hp2 : (2 : Nat) ^ Y ≤ 65536 := Nat.le_trans (Nat.pow_le_pow_right (by omega) hY) (by decide)
  obtain ⟨NX, hNX⟩ : ∃ N : Nat, 2 ^ X = N := ⟨_, rfl⟩
  obtain ⟨NY, hNY⟩ : ∃ N : Nat, 2 ^ Y = N := ⟨_, rfl⟩
  rw [hNX] at ha hp1
  rw [hNY] at hb hp2
  have hNXi : (2 : Int) ^ X = NX := by rw [← hNX]; simp
  have hNYi : (2 : Int) ^ Y = NY := by rw [← hNY]; simp
  have hq := hx0; obtain ⟨k0, k1, k2, k3⟩ := hq
  have H0 := Lib.hid hc; clear hc
  go_enter Try.func15, Try.ntmps15
  go_wp2_with fail
  refine (IsCircuit_any _ _ Ag ng cg Ao no co gs os _ (hr.1.below hB (Nat.le_refl _)) (hr.2.below hB (Nat.le_refl _)) hng (by omega)).mono ?_
  rintro e v1 ⟨rfl, b1⟩
  rw [H0.out]
  have B1 := hB.trans (b1.mono hB.size)
  have x1 := hx0.below b1
  have hz1 := B1.size
  clear k0 k1 k2 k3 hx0 b1 hB
  have hbits : allB 0 1 (bitsN a X ++ bitsN b Y) = true := allB_iff.2 fun z hz => (List.mem_append.1 hz).elim (allB_iff.1 (bitsN_bd a X) z) (allB_iff.1 (bitsN_bd b Y) z)
  obtain ⟨V, hV⟩ : ∃ V, vals gs (bitsN a X ++ bitsN b Y) ng = V := ⟨_, rfl⟩
  have hVl : V.length = X + Y + ng := by rw [← hV, vals_len, List.length_append, bitsN_len, bitsN_len]
  have hVb : allB 0 1 V = true := by rw [← hV]; exact vals_bd (n := (X : Int) + Y) (by rw [List.length_append, bitsN_len, bitsN_len]; omega) hbits ng ng (Nat.le_refl _) (by have h := (circB_bd H0.out).2.2.2.2.1; rw [hlg] at h; exact h)
  have hao' : allB 0 (((X + Y + ng : Nat) : Int) - 1) os = true := by rw [show ((X + Y + ng : Nat) : Int) - 1 = (X : Int) + Y + ng - 1 by omega]; exact hao
  obtain ⟨P, hP⟩ : ∃ P, pick V os = P := ⟨_, rfl⟩
  have hPl : P.length = no := by rw [← hP, pick_len]; exact hlo
  have hPb : allB 0 1 P = true := by rw [← hP]; exact pick_bd hVb (by rw [hVl]; exact hao')
  have hans : ans ⟨gs, os⟩ (bitsN a X ++ bitsN b Y) = numN P := by unfold ans; dsimp only; rw [hlg, hV, hP]
  have hgat : gatesB ((X : Int) + Y) gs ng = true := by have h := (circB_bd H0.out).2.2.2.2.1; rw [hlg] at h; exact h
  have HA := Lib.hid hans; have HV := Lib.hid hV; have HVl := Lib.hid hVl; have HP := Lib.hid hP; have HPl := Lib.hid hPl; have HPb := Lib.hid hPb; have Hao := Lib.hid hao'; have Hgat := Lib.hid hgat; have Hbits := Lib.hid hbits
  clear hans hV hVl hP hPl hPb hao' hgat hbits hao hVb
  have HDa : Hid (inB 0 ((NX : Int) - 1) a = true) := Lib.hid (inB_t ⟨by omega, by omega⟩)
  have HDb : Hid (inB 0 ((NY : Int) - 1) b = true) := Lib.hid (inB_t ⟨by omega, by omega⟩)
  have hsa : IntKind.i64.wrap ((NX : Int) - 1) = (NX : Int) - 1 := by rw [IntKind.wrap_i64] <;> omega
  have hsb : IntKind.i64.wrap ((NY : Int) - 1) = (NY : Int) - 1 := by rw [IntKind.wrap_i64] <;> omega
  have hta : ((X : Nat) : Int).toNat = X := by simp
  have htb : ((Y : Nat) : Int).toNat = Y := by simp
  have g1 : ¬ (16 : Int) < no := by omega
  have g2 : ¬ 16 < no := by omega
  have g3 : ¬ (16 : Int) < X := by omega
  have g4 : ¬ 16 < X := by omega
  have g5 : ¬ (16 : Int) < Y := by omega
  have g6 : ¬ 16 < Y := by omega
  have hq := x1; obtain ⟨k0, k1, k2, k3⟩ := hq
  go_wp2_with fail
  refine (within_any _ _ _ true HDa.out _).mono ?_
  rintro e v2 ⟨rfl, rfl⟩
  go_wp2_with fail
  refine (within_any _ _ _ true HDb.out _).mono ?_
  rintro e v3 ⟨rfl, rfl⟩
  clear hNX hNY hNXi hNYi hsa hsb
  go_wp2_with fail
  refine wp_region_mem0 (17) [(⟨w.heap.size, 0, none⟩, .int .i64 X), (⟨w.heap.size, 1, none⟩, .int .i64 Y), (⟨w.heap.size, 2, none⟩, .slice Ag ng cg), (⟨w.heap.size, 3, none⟩, .slice Ao no co)] [(4, [], []), (8, [], []), (9, [4, 8], []), (10, [9], []), (13, [10], []), (14, [13], [])] [14] [(4, Res.row v1.heap.size X (bitsN a X)), (8, Res.row v1.heap.size Y (bitsN b Y)), (9, Res.row v1.heap.size (X + Y) (bitsN a X ++ bitsN b Y)), (10, Res.row v1.heap.size (X + Y + ng) V), (13, Res.row v1.heap.size no P), (14, Res.plain (.int .i64 (numN P)))] (by kernel_rfl) (by kernel_rfl) (by kernel_rfl) (by simp only [CellsL, List.mem_cons, forall_eq_or_imp, List.not_mem_nil, false_implies, implies_true, and_true]; repeat (any_goals (apply And.intro)); all_goals (first | assumption | go_simp)) ?_
  simp only [List.take_succ_cons, List.take_zero, List.drop_succ_cons, List.drop_zero, List.take_nil, List.drop_nil, List.take, List.drop]
  repeat (first
    | ((with_reducible refine mem_pure0 ?_ ?_ ?_)
       · exact rfl
       · exact rfl
       intro K hK
       apply Exists.intro
       refine ⟨fun w3 hw3 => ?_, ?_⟩
       · have hcs := hw3
         simp only [CellsL, List.mem_cons, forall_eq_or_imp, List.not_mem_nil, false_implies, implies_true, and_true] at hcs
         clear hw3
         go_simp
         first | done | exact ⟨rfl, rfl⟩ | rfl
       refine hK _ ?_
       clear hK K
       try simp only [Act.put, List.setIfInBounds_toArray, List.set_cons_zero, List.set_cons_succ])
    | ((with_reducible refine mem_skip ?_ ?_ ?_)
       · exact rfl
       · exact wanted_not rfl rfl rfl rfl
       simp only [Act.put, List.setIfInBounds_toArray, List.set_cons_zero, List.set_cons_succ])
    | ((with_reducible refine mem_pure ?_ ?_ ?_)
       · exact rfl
       · exact wanted_some rfl rfl rfl rfl
       intro K hK
       apply Exists.intro
       refine ⟨fun w3 hw3 => ?_, ?_⟩
       · have hcs := hw3
         simp only [CellsL, List.mem_cons, forall_eq_or_imp, List.not_mem_nil, false_implies, implies_true, and_true] at hcs
         clear hw3
         go_simp
         first | done | exact ⟨rfl, rfl⟩ | rfl
       refine hK _ ?_
       clear hK K
       try simp only [Act.put, List.setIfInBounds_toArray, List.set_cons_zero, List.set_cons_succ]))
  focus
    (with_reducible refine mem_row v1.heap.size X (bitsN a X) ?_ ?_ ?_ ?_ ?_ (hw := ?_))
    · exact rfl
    · exact rfl
    · omega
    · intro w3 hw3 hc3 hp3
      have hcs := hc3
      simp only [CellsL, List.mem_cons, forall_eq_or_imp, List.not_mem_nil, false_implies, implies_true, and_true] at hcs
      (go_simp; refine (bitsOf_any a X _ (by omega) (by omega)).mono ?_; rintro e w5 hT; obtain ⟨A9, c9, rfl, ho4, hb4⟩ := hT.open_ (bitsN_len _ _); exact retPost.mk_ (postRow.mk_ ho4 hb4))
    rotate_left
    · first | exact wanted_none rfl | exact wanted_some rfl rfl rfl rfl
    intro A3 c3
    try simp only [Act.put, List.setIfInBounds_toArray, List.set_cons_zero, List.set_cons_succ]
  repeat (first
    | ((with_reducible refine mem_pure0 ?_ ?_ ?_)
       · exact rfl
       · exact rfl
       intro K hK
       apply Exists.intro
       refine ⟨fun w3 hw3 => ?_, ?_⟩
       · have hcs := hw3
         simp only [CellsL, List.mem_cons, forall_eq_or_imp, List.not_mem_nil, false_implies, implies_true, and_true] at hcs
         clear hw3
         go_simp
         first | done | exact ⟨rfl, rfl⟩ | rfl
       refine hK _ ?_
       clear hK K
       try simp only [Act.put, List.setIfInBounds_toArray, List.set_cons_zero, List.set_cons_succ])
    | ((with_reducible refine mem_skip ?_ ?_ ?_)
       · exact rfl
       · exact wanted_not rfl rfl rfl rfl
       simp only [Act.put, List.setIfInBounds_toArray, List.set_cons_zero, List.set_cons_succ])
    | ((with_reducible refine mem_pure ?_ ?_ ?_)
       · exact rfl
       · exact wanted_some rfl rfl rfl rfl
       intro K hK
       apply Exists.intro
       refine ⟨fun w3 hw3 => ?_, ?_⟩
       · have hcs := hw3
         simp only [CellsL, List.mem_cons, forall_eq_or_imp, List.not_mem_nil, false_implies, implies_true, and_true] at hcs
         clear hw3
         go_simp
         first | done | exact ⟨rfl, rfl⟩ | rfl
       refine hK _ ?_
       clear hK K
       try simp only [Act.put, List.setIfInBounds_toArray, List.set_cons_zero, List.set_cons_succ]))
  focus
    (with_reducible refine mem_row v1.heap.size Y (bitsN b Y) ?_ ?_ ?_ ?_ ?_ (hw := ?_))
    · exact rfl
    · exact rfl
    · omega
    · intro w3 hw3 hc3 hp3
      have hcs := hc3
      simp only [CellsL, List.mem_cons, forall_eq_or_imp, List.not_mem_nil, false_implies, implies_true, and_true] at hcs
      (go_simp; refine (bitsOf_any b Y _ (by omega) (by omega)).mono ?_; rintro e w5 hT; obtain ⟨A9, c9, rfl, ho4, hb4⟩ := hT.open_ (bitsN_len _ _); exact retPost.mk_ (postRow.mk_ ho4 hb4))
    rotate_left
    · first | exact wanted_none rfl | exact wanted_some rfl rfl rfl rfl
    intro A5 c5
    try simp only [Act.put, List.setIfInBounds_toArray, List.set_cons_zero, List.set_cons_succ]
  repeat (first
    | ((with_reducible refine mem_pure0 ?_ ?_ ?_)
       · exact rfl
       · exact rfl
       intro K hK
       apply Exists.intro
       refine ⟨fun w3 hw3 => ?_, ?_⟩
       · have hcs := hw3
         simp only [CellsL, List.mem_cons, forall_eq_or_imp, List.not_mem_nil, false_implies, implies_true, and_true] at hcs
         clear hw3
         go_simp
         first | done | exact ⟨rfl, rfl⟩ | rfl
       refine hK _ ?_
       clear hK K
       try simp only [Act.put, List.setIfInBounds_toArray, List.set_cons_zero, List.set_cons_succ])
    | ((with_reducible refine mem_skip ?_ ?_ ?_)
       · exact rfl
       · exact wanted_not rfl rfl rfl rfl
       simp only [Act.put, List.setIfInBounds_toArray, List.set_cons_zero, List.set_cons_succ])
    | ((with_reducible refine mem_pure ?_ ?_ ?_)
       · exact rfl
       · exact wanted_some rfl rfl rfl rfl
       intro K hK
       apply Exists.intro
       refine ⟨fun w3 hw3 => ?_, ?_⟩
       · have hcs := hw3
         simp only [CellsL, List.mem_cons, forall_eq_or_imp, List.not_mem_nil, false_implies, implies_true, and_true] at hcs
         clear hw3
         go_simp
         first | done | exact ⟨rfl, rfl⟩ | rfl
       refine hK _ ?_
       clear hK K
       try simp only [Act.put, List.setIfInBounds_toArray, List.set_cons_zero, List.set_cons_succ]))
  focus
    (with_reducible refine mem_row v1.heap.size (X + Y) (bitsN a X ++ bitsN b Y) ?_ ?_ ?_ ?_ ?_ (hw := ?_))
    · exact rfl
    · exact rfl
    · omega
    · intro w3 hw3 hc3 hp3
      have hcs := hc3
      simp only [CellsL, List.mem_cons, forall_eq_or_imp, List.not_mem_nil, false_implies, implies_true, and_true] at hcs
      (have h4 : Own w3 v1.heap.size w3.heap.size (.slice A3 X c3) X (bitsN a X) := hp3.1.1.1; have h8 : Own w3 v1.heap.size w3.heap.size (.slice A5 Y c5) Y (bitsN b Y) := hp3.1.2.1.1; go_simp; refine (with_any A3 A5 X c3 Y c5 _ _ _ h4.reads h8.reads (by omega) (by omega)).mono ?_; rintro e w5 ⟨A9, c9, rfl, ho4, hb4⟩; exact retPost.mk_ (postRow.mk_ ho4 hb4))
    rotate_left
    · first | exact wanted_none rfl | exact wanted_some rfl rfl rfl rfl
    intro A6 c6
    try simp only [Act.put, List.setIfInBounds_toArray, List.set_cons_zero, List.set_cons_succ]
  repeat (first
    | ((with_reducible refine mem_pure0 ?_ ?_ ?_)
       · exact rfl
       · exact rfl
       intro K hK
       apply Exists.intro
       refine ⟨fun w3 hw3 => ?_, ?_⟩
       · have hcs := hw3
         simp only [CellsL, List.mem_cons, forall_eq_or_imp, List.not_mem_nil, false_implies, implies_true, and_true] at hcs
         clear hw3
         go_simp
         first | done | exact ⟨rfl, rfl⟩ | rfl
       refine hK _ ?_
       clear hK K
       try simp only [Act.put, List.setIfInBounds_toArray, List.set_cons_zero, List.set_cons_succ])
    | ((with_reducible refine mem_skip ?_ ?_ ?_)
       · exact rfl
       · exact wanted_not rfl rfl rfl rfl
       simp only [Act.put, List.setIfInBounds_toArray, List.set_cons_zero, List.set_cons_succ])
    | ((with_reducible refine mem_pure ?_ ?_ ?_)
       · exact rfl
       · exact wanted_some rfl rfl rfl rfl
       intro K hK
       apply Exists.intro
       refine ⟨fun w3 hw3 => ?_, ?_⟩
       · have hcs := hw3
         simp only [CellsL, List.mem_cons, forall_eq_or_imp, List.not_mem_nil, false_implies, implies_true, and_true] at hcs
         clear hw3
         go_simp
         first | done | exact ⟨rfl, rfl⟩ | rfl
       refine hK _ ?_
       clear hK K
       try simp only [Act.put, List.setIfInBounds_toArray, List.set_cons_zero, List.set_cons_succ]))
  focus
    (with_reducible refine mem_row v1.heap.size (X + Y + ng) V ?_ ?_ ?_ ?_ ?_ (hw := ?_))
    · exact rfl
    · exact rfl
    · omega
    · intro w3 hw3 hc3 hp3
      have hcs := hc3
      simp only [CellsL, List.mem_cons, forall_eq_or_imp, List.not_mem_nil, false_implies, implies_true, and_true] at hcs
      (have h4 : Own w3 v1.heap.size w3.heap.size (.slice A6 (X + Y) c6) (X + Y) (bitsN a X ++ bitsN b Y) := hp3.1.1.1; go_simp; have q9 := Circuit_values_any X Y Ag ng cg Ao no co A6 (X + Y) c6 gs (bitsN a X ++ bitsN b Y) w3 (hr.1.below (B1.trans ((alt_below hw3).mono B1.size)) (Nat.le_refl _)) h4.reads Hbits.out Hgat.out (by omega) (by omega); rw [HV.out] at q9; refine q9.mono ?_; rintro e w5 hT; obtain ⟨A9, c9, rfl, ho4, hb4⟩ := hT.open_ HVl.out; exact retPost.mk_ (postRow.mk_ ho4 hb4))
    rotate_left
    · first | exact wanted_none rfl | exact wanted_some rfl rfl rfl rfl
    intro A7 c7
    try simp only [Act.put, List.setIfInBounds_toArray, List.set_cons_zero, List.set_cons_succ]
  repeat (first
    | ((with_reducible refine mem_pure0 ?_ ?_ ?_)
       · exact rfl
       · exact rfl
       intro K hK
       apply Exists.intro
       refine ⟨fun w3 hw3 => ?_, ?_⟩
       · have hcs := hw3
         simp only [CellsL, List.mem_cons, forall_eq_or_imp, List.not_mem_nil, false_implies, implies_true, and_true] at hcs
         clear hw3
         go_simp
         first | done | exact ⟨rfl, rfl⟩ | rfl
       refine hK _ ?_
       clear hK K
       try simp only [Act.put, List.setIfInBounds_toArray, List.set_cons_zero, List.set_cons_succ])
    | ((with_reducible refine mem_skip ?_ ?_ ?_)
       · exact rfl
       · exact wanted_not rfl rfl rfl rfl
       simp only [Act.put, List.setIfInBounds_toArray, List.set_cons_zero, List.set_cons_succ])
    | ((with_reducible refine mem_pure ?_ ?_ ?_)
       · exact rfl
       · exact wanted_some rfl rfl rfl rfl
       intro K hK
       apply Exists.intro
       refine ⟨fun w3 hw3 => ?_, ?_⟩
       · have hcs := hw3
         simp only [CellsL, List.mem_cons, forall_eq_or_imp, List.not_mem_nil, false_implies, implies_true, and_true] at hcs
         clear hw3
         go_simp
         first | done | exact ⟨rfl, rfl⟩ | rfl
       refine hK _ ?_
       clear hK K
       try simp only [Act.put, List.setIfInBounds_toArray, List.set_cons_zero, List.set_cons_succ]))
  focus
    (with_reducible refine mem_row v1.heap.size no P ?_ ?_ ?_ ?_ ?_ (hw := ?_))
    · exact rfl
    · exact rfl
    · omega
    · intro w3 hw3 hc3 hp3
      have hcs := hc3
      simp only [CellsL, List.mem_cons, forall_eq_or_imp, List.not_mem_nil, false_implies, implies_true, and_true] at hcs
      (have h4 : Own w3 v1.heap.size w3.heap.size (.slice A7 (X + Y + ng) c7) (X + Y + ng) V := hp3.1.1.1; go_simp; have q9 := at_any A7 Ao (X + Y + ng) c7 no co V os w3 h4.reads (hr.2.below (B1.trans ((alt_below hw3).mono B1.size)) (Nat.le_refl _)) (by omega) (by omega) Hao.out; rw [HP.out] at q9; refine q9.mono ?_; rintro e w5 hT; obtain ⟨A9, c9, rfl, ho4, hb4⟩ := hT.open_ HPl.out; exact retPost.mk_ (postRow.mk_ ho4 hb4))
    rotate_left
    · first | exact wanted_none rfl | exact wanted_some rfl rfl rfl rfl
    intro A8 c8
    try simp only [Act.put, List.setIfInBounds_toArray, List.set_cons_zero, List.set_cons_succ]
  repeat (first
    | ((with_reducible refine mem_pure0 ?_ ?_ ?_)
       · exact rfl
       · exact rfl
       intro K hK
       apply Exists.intro
       refine ⟨fun w3 hw3 => ?_, ?_⟩
       · have hcs := hw3
         simp only [CellsL, List.mem_cons, forall_eq_or_imp, List.not_mem_nil, false_implies, implies_true, and_true] at hcs
         clear hw3
         go_simp
         first | done | exact ⟨rfl, rfl⟩ | rfl
       refine hK _ ?_
       clear hK K
       try simp only [Act.put, List.setIfInBounds_toArray, List.set_cons_zero, List.set_cons_succ])
    | ((with_reducible refine mem_skip ?_ ?_ ?_)
       · exact rfl
       · exact wanted_not rfl rfl rfl rfl
       simp only [Act.put, List.setIfInBounds_toArray, List.set_cons_zero, List.set_cons_succ])
    | ((with_reducible refine mem_pure ?_ ?_ ?_)
       · exact rfl
       · exact wanted_some rfl rfl rfl rfl
       intro K hK
       apply Exists.intro
       refine ⟨fun w3 hw3 => ?_, ?_⟩
       · have hcs := hw3
         simp only [CellsL, List.mem_cons, forall_eq_or_imp, List.not_mem_nil, false_implies, implies_true, and_true] at hcs
         clear hw3
         go_simp
         first | done | exact ⟨rfl, rfl⟩ | rfl
       refine hK _ ?_
       clear hK K
       try simp only [Act.put, List.setIfInBounds_toArray, List.set_cons_zero, List.set_cons_succ]))
  focus
    (with_reducible refine mem_plain (.int .i64 (numN P)) ?_ ?_ ?_ ?_ (hw := ?_))
    · exact rfl
    · exact rfl
    · intro w3 hw3 hc3 hp3
      have hcs := hc3
      simp only [CellsL, List.mem_cons, forall_eq_or_imp, List.not_mem_nil, false_implies, implies_true, and_true] at hcs
      (have h4 : Own w3 v1.heap.size w3.heap.size (.slice A8 no c8) no P := hp3.1.1.1; go_simp; refine (number_any A8 no c8 P w3 h4.reads (by omega) HPb.out).mono ?_; rintro e w5 ⟨rfl, rfl⟩; exact retPost.mk_ (postPlain.mk_ (Below.refl _ _)))
    rotate_left
    · first | exact wanted_none rfl | exact wanted_some rfl rfl rfl rfl
    try simp only [Act.put, List.setIfInBounds_toArray, List.set_cons_zero, List.set_cons_succ]
  repeat (first
    | ((with_reducible refine mem_pure0 ?_ ?_ ?_)
       · exact rfl
       · exact rfl
       intro K hK
       apply Exists.intro
       refine ⟨fun w3 hw3 => ?_, ?_⟩
       · have hcs := hw3
         simp only [CellsL, List.mem_cons, forall_eq_or_imp, List.not_mem_nil, false_implies, implies_true, and_true] at hcs
         clear hw3
         go_simp
         first | done | exact ⟨rfl, rfl⟩ | rfl
       refine hK _ ?_
       clear hK K
       try simp only [Act.put, List.setIfInBounds_toArray, List.set_cons_zero, List.set_cons_succ])
    | ((with_reducible refine mem_skip ?_ ?_ ?_)
       · exact rfl
       · exact wanted_not rfl rfl rfl rfl
       simp only [Act.put, List.setIfInBounds_toArray, List.set_cons_zero, List.set_cons_succ])
    | ((with_reducible refine mem_pure ?_ ?_ ?_)
       · exact rfl
       · exact wanted_some rfl rfl rfl rfl
       intro K hK
       apply Exists.intro
       refine ⟨fun w3 hw3 => ?_, ?_⟩
       · have hcs := hw3
         simp only [CellsL, List.mem_cons, forall_eq_or_imp, List.not_mem_nil, false_implies, implies_true, and_true] at hcs
         clear hw3
         go_simp
         first | done | exact ⟨rfl, rfl⟩ | rfl
       refine hK _ ?_
       clear hK K
       try simp only [Act.put, List.setIfInBounds_toArray, List.set_cons_zero, List.set_cons_succ]))
  refine wpSep_end ?_
  intro wy hwy hcy hfin hap
  have hbz := alt_below hwy
  clear hfin hap hcy hwy k0 k1 k2 k3
  go_wp2
  go_ret2
  exact ⟨by rw [HA.out]; rfl, B1.trans (hbz.mono B1.size)⟩
end Go.Proofs.Ytliicemcdfidmaa
namespace Go.Proofs.Ytliicemcdfidmaa
open Go.RowKit
set_option linter.unusedVariables false
set_option linter.unusedSimpArgs false
def cstS (X : Int) (v k : Nat) (g0 : List G3) : Go2 := ⟨g0 ++ [⟨3, 0, 0⟩] ++ [⟨2, X + g0.length, 0⟩], (bitsN v k).map fun b => X + g0.length + 1 - b⟩
theorem bitsN_len2 (v k : Nat) : (bitsN v k).length = k := by simp [bitsN, tab_len]
theorem bitsN_01 (v k j : Nat) (hj : j < k) : gi (bitsN v k) j = 0 ∨ gi (bitsN v k) j = 1 := by
  unfold bitsN
  rw [gi_tab hj]
  have : v / 2 ^ j % 2 = 0 ∨ v / 2 ^ j % 2 = 1 := by omega
  rcases this with h | h <;> simp [h]
def cstW (N : Int) (bits : List Int) : List Int := bits.map fun b => N + 1 - b
theorem cstW_snoc {N : Int} {bits : List Int} {j : Nat} (h : j < bits.length) : cstW N (bits.take (j + 1)) = cstW N (bits.take j) ++ [N + 1 - gi bits j] := by
  unfold cstW; rw [gi_take_snoc h]; simp
def cstC (n w : Nat) : Go2 := cstS 0 n w []
theorem cstC_v {n w : Nat} (h : n < 2 ^ w) : ans (cstC n w) [] = n := by
  unfold ans cstC cstS
  dsimp only
  have e : pick (vals ([] ++ [(⟨3, 0, 0⟩ : G3)] ++ [(⟨2, 0 + (([] : List G3).length : Int), 0⟩ : G3)]) [] ([] ++ [(⟨3, 0, 0⟩ : G3)] ++ [(⟨2, 0 + (([] : List G3).length : Int), 0⟩ : G3)]).length) ((bitsN n w).map fun b => 0 + (([] : List G3).length : Int) + 1 - b) = bitsN n w := by
    unfold pick
    rw [List.map_map]
    refine List.ext_getElem (by simp) fun i h1 h2 => ?_
    rw [List.getElem_map]
    have hb := allB_iff.1 (bitsN_bd n w) _ (List.getElem_mem h2)
    rcases (show (bitsN n w)[i] = 0 ∨ (bitsN n w)[i] = 1 by omega) with h3 | h3 <;> simp only [Function.comp, h3] <;> rfl
  rw [e, numN_bits' h]
theorem cstC_ok {n w : Nat} (hw : w ≤ 40) : circB 0 0 (cstC n w).g (cstC n w).o = true := by
  have hg : gatesB (0 + 0) ([] ++ [(⟨3, 0, 0⟩ : G3)] ++ [(⟨2, 0 + (([] : List G3).length : Int), 0⟩ : G3)]) 2 = true := by decide
  have hl : ((bitsN n w).map fun b => 0 + (([] : List G3).length : Int) + 1 - b).length = w := by simp [bitsN_len]
  have ho : allB 0 1 ((bitsN n w).map fun b => 0 + (([] : List G3).length : Int) + 1 - b) = true := allB_iff.2 fun z hz => by
    obtain ⟨b, hb, rfl⟩ := List.mem_map.1 hz
    have := allB_iff.1 (bitsN_bd n w) b hb
    simp; omega
  unfold circB cstC cstS
  simp only [Bool.and_eq_true, inB_iff, decide_eq_true_eq]
  exact ⟨by omega, by omega, by simp, by rw [hl]; exact hw, hg, ho⟩
end Go.Proofs.Ytliicemcdfidmaa
