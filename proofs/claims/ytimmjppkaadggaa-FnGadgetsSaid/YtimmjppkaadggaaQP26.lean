/- Plain facts: the product's circuit answers the product. No program in sight. Slices of slices of ints: read, owned, appended to, marked. Lengths up to 2^20. Appending a list to a slice of lists of the call's own; calls that return a slice of lists. Lengths up to 2^22. Contracts of equality of lists, of small circuits, of the tables of a circuit's outs. The laws' own comparison of two lists. Lengths up to 2^21. The laws' words big, pSameCircuit, pSum, pIn. -/
import Derived.Test.YtimmjppkaadggaaQP21
import Derived.Test.YtimmjppkaadggaaQP16
import Derived.Test.YtimmjppkaadggaaQP03
import Derived.Test.YtimmjppkaadggaaQP01
namespace Go.Proofs.Ytimmjppkaadggaa
open Go.RowKit
set_option linter.unusedVariables false
set_option linter.unusedSimpArgs false
theorem numN_append (xs ys : List Int) : numN (xs ++ ys) = numN xs + numN ys * 2 ^ xs.length := by
  induction xs with
  | nil => simp [numN]
  | cons a l ih =>
    rw [List.cons_append, numN, numN, ih, List.length_cons, Int.pow_succ]
    have : 2 * (numN ys * 2 ^ l.length) = numN ys * (2 ^ l.length * 2) := by rw [Int.mul_comm 2, Int.mul_assoc]
    omega
def pv (inp : List Int) (g : List G3) (o : List Int) : List Int := o.map (wv inp g)
theorem pv_len (inp : List Int) (g : List G3) (o : List Int) : (pv inp g o).length = o.length := by simp [pv]
theorem pv_app (inp : List Int) (g : List G3) (a b : List Int) : pv inp g (a ++ b) = pv inp g a ++ pv inp g b := by simp [pv]
theorem pv_nb (inp : List Int) (g : List G3) (o : List Int) : numN (pv inp g o) = nb (fun j => wv inp g (gi o j)) o.length := by
  rw [numN_nb', pv_len]
  exact nb_congr _ fun j hj => by unfold pv; rw [gi_map hj]
def Wl (X : Nat) (inp : List Int) (g : List G3) (o : List Int) : Prop := ∀ z ∈ o, (0 ≤ z ∧ z < (X : Int) + g.length) ∧ Bt (wv inp g z)
theorem Wl.kp {X : Nat} {inp : List Int} {g h : List G3} {o : List Int} (hw : Wl X inp g o) (k : Kp X inp g h) : Wl X inp h o ∧ pv inp h o = pv inp g o := by
  refine ⟨fun z hz => ?_, List.map_congr_left fun z hz => k.v z (hw z hz).1⟩
  have h1 := hw z hz
  exact ⟨by have := k.len; omega, by rw [k.v z h1.1]; exact h1.2⟩
theorem Wl.app {X : Nat} {inp : List Int} {g : List G3} {a b : List Int} (h1 : Wl X inp g a) (h2 : Wl X inp g b) : Wl X inp g (a ++ b) := fun z hz => (List.mem_append.1 hz).elim (h1 z) (h2 z)
theorem Wl.rw_ {X : Nat} {inp : List Int} {g : List G3} {o : List Int} {w : Nat} (h : Wl X inp g o) (hl : o.length = w) : Rw_ X inp g o w :=
  ⟨fun j hj => (h _ (gi_mem (by omega))).1, fun j hj => (h _ (gi_mem (by omega))).2⟩
theorem Wl.of {X : Nat} {inp : List Int} {g : List G3} {o : List Int} {w : Nat} (h : Rw_ X inp g o w) (hl : o.length = w) : Wl X inp g o := fun z hz => by
  obtain ⟨j, hj, rfl⟩ := List.getElem_of_mem hz
  have h1 := h.lt j (by omega)
  have h2 := h.bt j (by omega)
  rw [gi_lt hj] at h1 h2
  exact ⟨h1, h2⟩
theorem rowG_v {X : Nat} {inp : List Int} (hX : inp.length = X) {g0 : List G3} {us : List Int} {v : Int} {w : Nat} (hv : 0 ≤ v ∧ v < (X : Int) + g0.length) (bv : Bt (wv inp g0 v)) (hu : Rw_ X inp g0 us w) :
    ∀ i, i ≤ w → Kp X inp g0 (rowG X v us g0 i).g ∧ ∀ j, j < i → (0 ≤ gi (rowG X v us g0 i).o j ∧ gi (rowG X v us g0 i).o j < (X : Int) + (rowG X v us g0 i).g.length) ∧ wv inp (rowG X v us g0 i).g (gi (rowG X v us g0 i).o j) = wv inp g0 (gi us j) * wv inp g0 v := by
  intro i
  induction i with
  | zero => intro _; exact ⟨Kp.refl _ _ _, fun j hj => by omega⟩
  | succ i ih =>
    intro hi
    obtain ⟨h1, h2⟩ := ih (by omega)
    have hl := row_o X v us g0 i
    have hk := h1.len
    have la := hu.lt i (by omega)
    have ea := h1.v _ la
    have ev := h1.v _ hv
    have ba' := hu.bt i (by omega)
    rw [rowG]
    generalize rowG X v us g0 i = s at *
    dsimp only
    have k1 := (Kp.refl X inp s.g).snoc hX ⟨1, gi us i, v⟩
    have l1 : (s.g ++ [(⟨1, gi us i, v⟩ : G3)]).length = s.g.length + 1 := by simp
    have e1 : wv inp (s.g ++ [⟨1, gi us i, v⟩]) ((X : Int) + s.g.length) = wv inp g0 (gi us i) * wv inp g0 v := by
      rw [wv_new hX rfl, gval_a, ea, ev, ba ba' bv]
    generalize s.g ++ [(⟨1, gi us i, v⟩ : G3)] = g1 at *
    refine ⟨h1.trans k1, fun j hj => ?_⟩
    rcases Nat.lt_or_ge j i with h | h
    · rw [gi_append_lt (by omega)]
      have h3 := h2 j h
      exact ⟨by omega, by rw [k1.v _ h3.1]; exact h3.2⟩
    · obtain rfl : j = i := by omega
      rw [gi_lastG hl]
      exact ⟨by omega, e1⟩
theorem nb_mul (f : Nat → Int) (c : Int) : ∀ i, nb (fun j => f j * c) i = nb f i * c
  | 0 => by simp [nb]
  | i + 1 => by
    rw [nb, nb, nb_mul f c i, Int.add_mul]
    have : f i * c * 2 ^ i = f i * 2 ^ i * c := by rw [Int.mul_assoc, Int.mul_comm c, ← Int.mul_assoc]
    omega
theorem row_all {X : Nat} {inp : List Int} (hX : inp.length = X) {g0 : List G3} {us : List Int} {v : Int} {w : Nat} (hv : 0 ≤ v ∧ v < (X : Int) + g0.length) (bv : Bt (wv inp g0 v)) (hu : Rw_ X inp g0 us w) :
    Kp X inp g0 (rowG X v us g0 w).g ∧ Wl X inp (rowG X v us g0 w).g (rowG X v us g0 w).o ∧ numN (pv inp (rowG X v us g0 w).g (rowG X v us g0 w).o) = nb (fun j => wv inp g0 (gi us j)) w * wv inp g0 v := by
  obtain ⟨h1, h2⟩ := rowG_v hX hv bv hu w (Nat.le_refl _)
  have hl := row_o X v us g0 w
  refine ⟨h1, Wl.of (w := w) ⟨fun j hj => (h2 j hj).1, fun j hj => ?_⟩ hl, ?_⟩
  · rw [(h2 j hj).2]
    rcases bt01 (hu.bt j hj) with a | a <;> rcases bt01 bv with b | b <;> rw [a, b] <;> unfold Bt <;> decide
  · rw [pv_nb, hl, nb_congr w (fun j hj => (h2 j hj).2), nb_mul]
structure PrOk (X : Nat) (inp : List Int) (g0 : List G3) (s : Go2) (T : Int) : Prop where
  kp : Kp X inp g0 s.g
  wl : Wl X inp s.g s.o
  n : numN (pv inp s.g s.o) = T
theorem prod_v {X : Nat} {inp : List Int} (hX : inp.length = X) {g0 : List G3} {us vs : List Int} {w : Nat} (hw : 1 ≤ w) (hu : Rw_ X inp g0 us w) (hv : Rw_ X inp g0 vs w) :
    ∀ i, i < w → PrOk X inp g0 (prodS X g0 us vs w (i + 1)) (nb (fun j => wv inp g0 (gi us j)) w * nb (fun j => wv inp g0 (gi vs j)) (i + 1)) := by
  intro i
  induction i with
  | zero =>
    intro _
    rw [prodS, prodStep, if_pos rfl]
    obtain ⟨h1, h2, h3⟩ := row_all hX (v := gi vs 0) (hv.lt 0 (by omega)) (hv.bt 0 (by omega)) hu
    refine ⟨h1, h2, ?_⟩
    show numN (pv inp (rowG X (gi vs 0) us g0 w).g (rowG X (gi vs 0) us g0 w).o) = _
    rw [h3]; simp [nb]
  | succ i ih =>
    intro hi
    obtain ⟨s1, s2, s3⟩ := ih (by omega)
    have hol := prodS_o X g0 us vs w hw i
    rw [prodS]
    generalize prodS X g0 us vs w (i + 1) = s at *
    rw [prodStep, if_neg (by omega)]
    have hrl : (prodRest X (i + 1) s).length = w := prodRest_len (n := w) (by omega) (by omega) (by rw [hol]; split <;> rename_i h <;> first | (rw [if_pos (by omega)]) | (rw [if_neg (by omega)]; omega))
    -- the gates ahead of the row, and what is added to
    have hG : Kp X inp s.g (prodG1 X (i + 1) s) ∧ Wl X inp (prodG1 X (i + 1) s) (prodRest X (i + 1) s) ∧ numN (pv inp (prodG1 X (i + 1) s) (prodRest X (i + 1) s)) = numN (pv inp s.g (s.o.drop (i + 1))) := by
      have hd : Wl X inp s.g (s.o.drop (i + 1)) := fun z hz => s2 z (List.mem_of_mem_drop hz)
      unfold prodG1 prodRest
      by_cases h1 : i + 1 = 1
      · rw [if_pos h1, if_pos h1, h1]
        rw [h1] at hd
        have k1 := (Kp.refl X inp s.g).snoc hX ⟨3, 0, 0⟩
        have l1 : (s.g ++ [(⟨3, 0, 0⟩ : G3)]).length = s.g.length + 1 := by simp
        have e1 : wv inp (s.g ++ [⟨3, 0, 0⟩]) ((X : Int) + s.g.length) = 1 := by rw [wv_new hX rfl]; rfl
        generalize s.g ++ [(⟨3, 0, 0⟩ : G3)] = g1 at *
        have k2 := k1.snoc hX ⟨2, (X : Int) + s.g.length, 0⟩
        have l2 : (g1 ++ [(⟨2, (X : Int) + s.g.length, 0⟩ : G3)]).length = s.g.length + 2 := by simp [l1]
        have e2 : wv inp (g1 ++ [⟨2, (X : Int) + s.g.length, 0⟩]) ((X : Int) + s.g.length + 1) = 0 := by rw [wv_new hX (by rw [l1]; omega), gval_n, e1]; rfl
        generalize g1 ++ [(⟨2, (X : Int) + s.g.length, 0⟩ : G3)] = g2 at *
        obtain ⟨d1, d2⟩ := hd.kp k2
        refine ⟨k2, d1.app fun z hz => ?_, ?_⟩
        · simp only [List.mem_singleton] at hz
          subst hz
          exact ⟨by omega, by rw [e2]; unfold Bt; decide⟩
        · rw [pv_app, numN_append, d2, show pv inp g2 [(X : Int) + s.g.length + 1] = [0] by simp [pv, e2]]
          simp [numN]
      · rw [if_neg h1, if_neg h1]
        exact ⟨Kp.refl _ _ _, hd, rfl⟩
    obtain ⟨q1, q2, q3⟩ := hG
    generalize hg1 : prodG1 X (i + 1) s = g1 at *
    generalize prodRest X (i + 1) s = rest at *
    have kz := s1.trans q1
    have la := hv.lt (i + 1) (by omega)
    have ea := kz.v _ la
    have hu1 : Rw_ X inp g1 us w := ⟨fun j hj => by have := hu.lt j hj; have := kz.len; omega, fun j hj => by rw [kz.v _ (hu.lt j hj)]; exact hu.bt j hj⟩
    obtain ⟨r1, r2, r3⟩ := row_all hX (v := gi vs (i + 1)) (g0 := g1) (by have := kz.len; omega) (by rw [ea]; exact hv.bt (i + 1) (by omega)) hu1
    have hrl2 := row_o X (gi vs (i + 1)) us g1 w
    generalize rowG X (gi vs (i + 1)) us g1 w = t at *
    obtain ⟨d1, d2⟩ := q2.kp r1
    obtain ⟨a1, a2⟩ := addS_v hX (d1.rw_ hrl) (r2.rw_ hrl2) w (Nat.le_refl _)
    have ha := a2 (by omega)
    have hao := addS_o X t.g rest t.o w
    generalize addS X t.g rest t.o w = A at *
    have kA := (kz.trans r1).trans a1.kp
    have wA : Wl X inp A.g A.o := Wl.of (w := w) ⟨a1.ol, a1.ob⟩ hao
    have hT : Wl X inp s.g (s.o.take (i + 1)) := fun z hz => s2 z (List.mem_of_mem_take hz)
    obtain ⟨t1, t2⟩ := hT.kp ((q1.trans r1).trans a1.kp)
    have htl : (s.o.take (i + 1)).length = i + 1 := by rw [List.length_take, hol]; split <;> omega
    refine ⟨kA, (t1.app wA).app (fun z hz => ?_), ?_⟩
    · simp only [List.mem_singleton] at hz
      subst hz
      exact ⟨a1.cl (by omega), a1.cb (by omega)⟩
    · show numN (pv inp A.g (s.o.take (i + 1) ++ A.o ++ [A.c])) = _
      rw [pv_app, pv_app, List.append_assoc, numN_append, numN_append, pv_len, pv_len, htl, hao, t2]
      have e4 : numN (pv inp A.g A.o) + numN (pv inp A.g [A.c]) * 2 ^ w = numN (pv inp g1 rest) + numN (pv inp t.g t.o) := by
        rw [pv_nb, hao, show numN (pv inp A.g [A.c]) = wv inp A.g A.c by simp [pv, numN], ha]
        rw [← d2, pv_nb inp t.g rest, hrl, pv_nb inp t.g t.o, hrl2]
      rw [e4, q3, r3, ea, nb_congr w (g := fun j => wv inp g0 (gi us j)) (fun j hj => kz.v _ (hu.lt j hj))]
      have e5 : numN (pv inp s.g s.o) = numN (pv inp s.g (s.o.take (i + 1))) + numN (pv inp s.g (s.o.drop (i + 1))) * 2 ^ (i + 1) := by
        have h9 := numN_append (pv inp s.g (s.o.take (i + 1))) (pv inp s.g (s.o.drop (i + 1)))
        rw [← pv_app, List.take_append_drop, pv_len, htl] at h9
        exact h9
      rw [s3] at e5
      rw [show nb (fun j => wv inp g0 (gi vs j)) (i + 1 + 1) = nb (fun j => wv inp g0 (gi vs j)) (i + 1) + wv inp g0 (gi vs (i + 1)) * 2 ^ (i + 1) from rfl]
      rw [Int.mul_add, e5, Int.add_mul]
      have e6 : nb (fun j => wv inp g0 (gi us j)) w * wv inp g0 (gi vs (i + 1)) * 2 ^ (i + 1) = nb (fun j => wv inp g0 (gi us j)) w * (wv inp g0 (gi vs (i + 1)) * 2 ^ (i + 1)) := Int.mul_assoc _ _ _
      omega
theorem product_v {w u v : Nat} (hw : 1 ≤ w) (hu : u < 2 ^ w) (hv : v < 2 ^ w) : ans (prodG w) (bitsN u w ++ bitsN v w) = (u : Int) * v := by
  have h := UV.two hu hv
  have hp := prod_v h.len hw h.ru h.rv (w - 1) (by omega)
  rw [show w - 1 + 1 = w by omega, h.nu, h.nv] at hp
  unfold ans prodG
  rw [show ((w : Int) + w) = ((w + w : Nat) : Int) by omega, ← hp.n]
  rfl
def gl (xss : List (List Int)) (j : Nat) : List Int := xss.getD j []
theorem gl_append_lt {xss yss : List (List Int)} {j : Nat} (h : j < xss.length) : gl (xss ++ yss) j = gl xss j := by
  unfold gl; rw [List.getD_eq_getElem?_getD, List.getD_eq_getElem?_getD, List.getElem?_append_left h]
theorem gl_append_eq {xss : List (List Int)} {ys : List Int} : gl (xss ++ [ys]) xss.length = ys := by simp [gl]
def RII (w : World) (A : Option Addr) (n : Nat) (xss : List (List Int)) : Prop :=
  xss.length = n ∧ (0 < n → ∃ b o, A = some ⟨b, o, none⟩ ∧ b < w.heap.size ∧ ∀ j, j < n → ∃ A' m c', w.cell? ⟨b, o + j, none⟩ = some (.slice A' m c') ∧ RI w A' m (gl xss j))
theorem RII.len {w : World} {A : Option Addr} {n : Nat} {xss : List (List Int)} (h : RII w A n xss) : xss.length = n := h.1
theorem RII.at_ {w : World} {A : Option Addr} {n : Nat} {xss : List (List Int)} {k : Nat} (h : RII w A n xss) (hk : k < n) :
    ∃ b o A' m c', A = some ⟨b, o, none⟩ ∧ b < w.heap.size ∧ w.cell? ⟨b, o + k, none⟩ = some (.slice A' m c') ∧ RI w A' m (gl xss k) := by
  obtain ⟨b, o, hA, hb, hc⟩ := h.2 (by omega)
  obtain ⟨A', m, c', h1, h2⟩ := hc k hk
  exact ⟨b, o, A', m, c', hA, hb, h1, h2⟩
theorem RII.below {w w' : World} {A : Option Addr} {n : Nat} {xss : List (List Int)} (h : RII w A n xss) {B : Nat} (hb : Below B w w') (hB : w.heap.size ≤ B) : RII w' A n xss :=
  ⟨h.1, fun hn => by
    obtain ⟨b, o, hA, hlt, hc⟩ := h.2 hn
    refine ⟨b, o, hA, Nat.lt_of_lt_of_le hlt hb.size, fun j hj => ?_⟩
    obtain ⟨A', m, c', h1, h2⟩ := hc j hj
    exact ⟨A', m, c', (hb.cell (p := ⟨b, o + j, none⟩) (by exact Nat.lt_of_lt_of_le hlt hB)).trans h1, h2.below hb hB⟩⟩
theorem RII.drewN {w : World} {A : Option Addr} {n : Nat} {xss : List (List Int)} (h : RII w A n xss) (k : Nat) : RII (w.drewN k) A n xss := h
def OwnII (w : World) (lo hi : Nat) (v : Value) (n : Nat) (xss : List (List Int)) : Prop :=
  ∃ vals : List Value, w.ownsRow lo 25 1 v n vals ∧ (∀ g, v.ownBlock = some g → g < hi) ∧ xss.length = n ∧
    (∀ j : Nat, j < n → ∃ A' m c', vals[j]? = some (.slice A' m c') ∧ Own w lo hi (.slice A' m c') m (gl xss j)) ∧
    (∀ (i j : Nat) (u u' : Value), i < j → vals[i]? = some u → vals[j]? = some u' → Apart u u')
theorem ownsRow_ne {w : World} {lo lo' e e' s s' n n' : Nat} {v v' : Value} {xs xs' : List Value} (h : w.ownsRow lo e s v n xs) (h' : w.ownsRow lo' e' s' v' n' xs') (hne : e ≠ e') : Apart v v' := by
  intro g hg hg'
  rcases h.2 with ⟨rfl, _⟩ | ⟨a, cap, cur, rfl, _, hh, _⟩
  · simp [Value.ownBlock] at hg
  · rcases h'.2 with ⟨rfl, _⟩ | ⟨b, cap', cur', rfl, _, hh', _⟩
    · simp [Value.ownBlock] at hg'
    · simp only [Value.ownBlock, Option.some.injEq] at hg hg'
      subst hg; subst hg'
      rw [hh] at hh'
      injection hh' with hh'
      injection hh' with _ ht
      exact hne ht
theorem OwnII.len {w : World} {lo hi n : Nat} {v : Value} {xss : List (List Int)} (h : OwnII w lo hi v n xss) : xss.length = n := by
  obtain ⟨_, _, _, h3, _⟩ := h; exact h3
theorem OwnII.none_ (w : World) (lo hi : Nat) : OwnII w lo hi (.slice none 0 0) 0 [] :=
  ⟨[], World.ownsRow_nil w lo _ _, fun g hg => by simp [Value.ownBlock] at hg, rfl, fun j hj => absurd hj (by omega), fun i j u u' _ h => by simp at h⟩
theorem OwnII.lt {w : World} {lo hi n : Nat} {v : Value} {xss : List (List Int)} (h : OwnII w lo hi v n xss) : ∀ g, v.ownBlock = some g → lo ≤ g ∧ g < hi ∧ g < w.heap.size := by
  obtain ⟨vals, h1, h2, _⟩ := h
  exact fun g hg => ⟨(h1.lt g hg).1, h2 g hg, (h1.lt g hg).2⟩
theorem OwnII.some_ {w : World} {lo hi n c : Nat} {A : Option Addr} {xss : List (List Int)} (h : OwnII w lo hi (.slice A n c) n xss) (hn : 0 < n) : ∃ g, A = some ⟨g, 0, none⟩ ∧ lo ≤ g ∧ g < hi ∧ g < w.heap.size := by
  obtain ⟨vals, h1, h2, _⟩ := h
  obtain ⟨g, cap, hv, h3, h4⟩ := h1.form hn
  simp only [Value.slice.injEq, true_and] at hv
  obtain ⟨rfl, rfl⟩ := hv
  exact ⟨g, rfl, h3, h2 g rfl, h4⟩
theorem ownsRow_chg {w w' : World} {lo lo' hi' e s n : Nat} {v : Value} {xs : List Value} (h : w.ownsRow lo e s v n xs) (k : Chg lo' hi' w w') (hd : ∀ g, v.ownBlock = some g → g < lo' ∨ hi' ≤ g) : w'.ownsRow lo e s v n xs := by
  refine ⟨h.1, ?_⟩
  rcases h.2 with h1 | ⟨g, cap, cur, rfl, hlo, hg, r⟩
  · exact .inl h1
  · exact .inr ⟨g, cap, cur, rfl, hlo, by rw [k.block g (h.lt g (by simp [Value.ownBlock])).2 (hd g (by simp [Value.ownBlock]))]; exact hg, r⟩
theorem OwnII.chg {w w' : World} {lo hi lo' hi' n : Nat} {v : Value} {xss : List (List Int)} (h : OwnII w lo hi v n xss) (k : Chg lo' hi' w w') (hd : hi ≤ lo' ∨ hi' ≤ lo) : OwnII w' lo hi v n xss := by
  have hlt := h.lt
  obtain ⟨vals, h1, h2, h3, h4, h5⟩ := h
  refine ⟨vals, ownsRow_chg h1 k (fun g hg => by have := hlt g hg; omega), h2, h3, fun j hj => ?_, h5⟩
  obtain ⟨A', m, c', h6, h7⟩ := h4 j hj
  exact ⟨A', m, c', h6, h7.chg k hd⟩
theorem OwnII.below {w w' : World} {lo hi n : Nat} {v : Value} {xss : List (List Int)} {B : Nat} (h : OwnII w lo hi v n xss) (hb : Below B w w') (hB : w.heap.size ≤ B) : OwnII w' lo hi v n xss := by
  have k : Chg 0 0 w w' := Chg.of_below (hb.mono hB)
  exact h.chg k (.inr (Nat.zero_le _))
theorem OwnII.now {w : World} {lo hi n : Nat} {v : Value} {xss : List (List Int)} (h : OwnII w lo hi v n xss) : OwnII w lo w.heap.size v n xss := by
  have hlt := h.lt
  obtain ⟨vals, h1, h2, h3, h4, h5⟩ := h
  refine ⟨vals, h1, fun g hg => (hlt g hg).2.2, h3, fun j hj => ?_, h5⟩
  obtain ⟨A', m, c', h6, h7⟩ := h4 j hj
  exact ⟨A', m, c', h6, h7.now⟩
theorem OwnII.lo_ {w : World} {lo lo' hi n : Nat} {v : Value} {xss : List (List Int)} (h : OwnII w lo hi v n xss) (hl : lo' ≤ lo) : OwnII w lo' hi v n xss := by
  obtain ⟨vals, h1, h2, h3, h4, h5⟩ := h
  refine ⟨vals, ⟨h1.1, ?_⟩, h2, h3, fun j hj => ?_, h5⟩
  · rcases h1.2 with h6 | ⟨g, cap, cur, hv, hb, r⟩
    · exact .inl h6
    · exact .inr ⟨g, cap, cur, hv, by omega, r⟩
  · obtain ⟨A', m, c', h6, h7⟩ := h4 j hj
    exact ⟨A', m, c', h6, h7.lo_ hl⟩
theorem OwnII.reads {w : World} {lo hi n c : Nat} {A : Option Addr} {xss : List (List Int)} (h : OwnII w lo hi (.slice A n c) n xss) : RII w A n xss := by
  refine ⟨h.len, fun hn => ?_⟩
  obtain ⟨g, rfl, _, _, hlt⟩ := h.some_ hn
  obtain ⟨vals, h1, h2, h3, h4, h5⟩ := h
  refine ⟨g, 0, rfl, hlt, fun j hj => ?_⟩
  obtain ⟨A', m, c', h6, h7⟩ := h4 j hj
  refine ⟨A', m, c', ?_, h7.reads⟩
  obtain ⟨cap, hv⟩ : ∃ cap, c = cap := ⟨_, rfl⟩
  rw [Nat.zero_add, h1.cellAt j (by omega), h6]
theorem OwnII.app {w w2 w5 : World} {lo n c m c' H : Nat} {A A5 : Option Addr} {c5 : Nat} {xss : List (List Int)} {ys : List Int} {vals : List Value} {hi : Nat}
    (h1 : w.ownsRow lo 25 1 (.slice A n c) n vals) (h3 : xss.length = n)
    (h4 : ∀ j : Nat, j < n → ∃ A' m c', vals[j]? = some (.slice A' m c') ∧ Own w lo hi (.slice A' m c') m (gl xss j))
    (h5 : ∀ (i j : Nat) (u u' : Value), i < j → vals[i]? = some u → vals[j]? = some u' → Apart u u')
    (hb : Below w.heap.size w w2) (hnew : Own w2 w.heap.size hi (.slice (some ⟨H, 0, none⟩) m c') m ys) (hlo : lo ≤ w.heap.size)
    (hr : w5.ownsRow lo 25 1 (.slice A5 (n + 1) c5) (n + 1) (vals ++ [.slice (some ⟨H, 0, none⟩) m c'])) (hg : w2.grownBy w5 (Value.slice A n c).ownBlock) :
    OwnII w5 lo w5.heap.size (.slice A5 (n + 1) c5) (n + 1) (xss ++ [ys]) := by
  have hrow2 : w2.ownsRow lo 25 1 (.slice A n c) n vals := h1.kept (grownBy_of_below hb none) (by cases h : (Value.slice A n c).ownBlock <;> simp)
  have hl : vals.length = n := by simpa using h1.1
  have hne : ∀ {lo' hi' k : Nat} {u : Value} {zs : List Int}, Own w2 lo' hi' u k zs → Own w5 lo' hi' u k zs := by
    intro lo' hi' k u zs hu
    exact hu.apart hg (ownsRow_ne hu.1 hrow2 (by decide))
  refine ⟨_, hr, fun g hg' => (hr.lt g hg').2, by simp [h3], fun j hj => ?_, fun i j u u' hij hu hu' => ?_⟩
  · by_cases hjn : j < n
    · obtain ⟨A', m', c'', h6, h7⟩ := h4 j hjn
      refine ⟨A', m', c'', by rw [List.getElem?_append_left (by omega)]; exact h6, ?_⟩
      rw [gl_append_lt (by omega)]
      exact (hne (h7.below hb (.inl (Nat.le_refl _)))).now
    · obtain rfl : j = n := by omega
      refine ⟨some ⟨H, 0, none⟩, m, c', by rw [List.getElem?_append_right (by omega), hl, Nat.sub_self]; rfl, ?_⟩
      rw [← h3, gl_append_eq]
      exact ((hne hnew).lo_ hlo).now
  · by_cases hjn : j < n
    · rw [List.getElem?_append_left (by omega)] at hu hu'
      exact h5 i j u u' hij hu hu'
    · have hj2 : j < (vals ++ [Value.slice (some ⟨H, 0, none⟩) m c']).length := by
        rcases Nat.lt_or_ge j (vals ++ [Value.slice (some ⟨H, 0, none⟩) m c']).length with h | h
        · exact h
        · rw [List.getElem?_eq_none h] at hu'; cases hu'
      simp at hj2
      obtain rfl : j = n := by omega
      rw [List.getElem?_append_left (by omega)] at hu
      rw [List.getElem?_append_right (by omega), hl, Nat.sub_self] at hu'
      simp at hu'
      subst hu'
      obtain ⟨A', m', c'', h6, h7⟩ := h4 i (by omega)
      rw [hu] at h6
      injection h6 with h6
      subst h6
      intro g hg1 hg2
      have q1 := h7.lt g hg1
      have q2 := hnew.lt g hg2
      omega
theorem OwnII.row {w : World} {lo hi n g c : Nat} {xss : List (List Int)} (h : OwnII w lo hi (.slice (some ⟨g, 0, none⟩) n c) n xss) {k : Nat} (hk : k < n) :
    ∃ A' m c', w.cell? ⟨g, k, none⟩ = some (.slice A' m c') ∧ Own w lo hi (.slice A' m c') m (gl xss k) ∧
      ∀ (w' : World) (ys : List Int), Own w' lo hi (.slice A' m c') m ys → w.grownBy w' (Value.slice A' m c').ownBlock → OwnII w' lo hi (.slice (some ⟨g, 0, none⟩) n c) n (xss.set k ys) := by
  obtain ⟨vals, h1, h2, h3, h4, h5⟩ := h
  obtain ⟨A', m, c', h6, h7⟩ := h4 k hk
  refine ⟨A', m, c', by rw [h1.cellAt k (by omega), h6], h7, fun w' ys hy hg => ?_⟩
  have hap := ownsRow_ne h1 h7.1 (by decide)
  refine ⟨vals, h1.kept hg (by
    cases hv : (Value.slice (some ⟨g, 0, none⟩) n c).ownBlock with
    | none => exact .inl rfl
    | some q => exact .inr (fun he => hap q hv he.symm)), h2, by simpa using h3, fun j hj => ?_, h5⟩
  by_cases hjk : j = k
  · subst hjk
    refine ⟨A', m, c', h6, ?_⟩
    rw [show gl (xss.set j ys) j = ys from by simp [gl, h3, hj]]
    exact hy
  · obtain ⟨B', m', d', h8, h9⟩ := h4 j hj
    refine ⟨B', m', d', h8, ?_⟩
    rw [show gl (xss.set k ys) j = gl xss j from by unfold gl; rw [List.getD_eq_getElem?_getD, List.getD_eq_getElem?_getD, List.getElem?_set_ne (fun e => hjk e.symm)]]
    refine h9.apart hg ?_
    rcases Nat.lt_or_gt_of_ne hjk with h | h
    · exact h5 j k _ _ h h8 h6
    · exact (h5 k j _ _ h h6 h8).symm_
theorem OwnII.grown {w w' : World} {lo hi n : Nat} {v : Value} {xss : List (List Int)} (h : OwnII w lo hi v n xss) {v1 : Value} (hg : w.grownBy w' v1.ownBlock) (hn : v1.ownBlock = none) : OwnII w' lo hi v n xss :=
  h.below (below_of_grownBy (by rw [← hn]; exact hg)) (Nat.le_refl _)
theorem OwnII.drewN {w : World} {lo hi n : Nat} {v : Value} {xss : List (List Int)} (h : OwnII w lo hi v n xss) (k : Nat) : OwnII (w.drewN k) lo hi v n xss := h.below (below_of_drewN k) (Nat.le_refl _)
theorem OwnII.alloc {w : World} {lo hi n : Nat} {v : Value} {xss : List (List Int)} (h : OwnII w lo hi v n xss) (o : Obj) : OwnII (w.alloc o) lo hi v n xss := h.below ((Below.refl _ _).alloc (Nat.le_refl _) o) (Nat.le_refl _)
theorem OwnII.hi_ {w : World} {lo hi hi' n : Nat} {v : Value} {xss : List (List Int)} (h : OwnII w lo hi v n xss) (hl : hi ≤ hi') : OwnII w lo hi' v n xss := by
  obtain ⟨vals, h1, h2, h3, h4, h5⟩ := h
  refine ⟨vals, h1, fun g hg => Nat.lt_of_lt_of_le (h2 g hg) hl, h3, fun j hj => ?_, h5⟩
  obtain ⟨A', m, c', h6, h7⟩ := h4 j hj
  exact ⟨A', m, c', h6, h7.hi_ hl⟩
theorem OwnII.new0 (w : World) (lo : Nat) (hl : lo ≤ w.heap.size) : OwnII (w.alloc (.cells #[] 25)) lo (w.heap.size + 1) (.slice (some ⟨w.heap.size, 0, none⟩) 0 0) 0 [] := by
  have h := World.ownsRow_lit (base := lo) (e := 25) (size := 1) w #[] 0 hl (by unfold maxLen; omega) (by simp)
  exact ⟨[], by simpa using h, fun g hg => by simp [Value.ownBlock] at hg; omega, rfl, fun j hj => absurd hj (by omega), fun i j u u' _ h => by simp at h⟩
def RetII (w : World) (xss : List (List Int)) (e : Ending) (w' : World) : Prop :=
  ∃ A' c', e = .returned (.slice A' xss.length c') ∧ OwnII w' w.heap.size w'.heap.size (.slice A' xss.length c') xss.length xss ∧ Below w.heap.size w w'
theorem RetII.mk_ {w : World} {xss : List (List Int)} {n : Nat} {A' : Option Addr} {c' : Nat} {e : Ending} {w' : World} (hn : xss.length = n) (he : e = .returned (.slice A' n c')) (ho : OwnII w' w.heap.size w'.heap.size (.slice A' n c') n xss) (hb : Below w.heap.size w w') : RetII w xss e w' := by
  subst hn; exact ⟨A', c', he, ho, hb⟩
theorem RetII.open_ {w : World} {xss : List (List Int)} {n : Nat} {e : Ending} {w' : World} (h : RetII w xss e w') (hn : xss.length = n) : ∃ A' c', e = .returned (.slice A' n c') ∧ OwnII w' w.heap.size w'.heap.size (.slice A' n c') n xss ∧ Below w.heap.size w w' := by
  subst hn; exact h
def sameB (xs ys : List Int) : Bool := decide (xs = ys)
theorem sameB_len {xs ys : List Int} (h : xs.length ≠ ys.length) : sameB xs ys = false := by
  simp only [sameB, decide_eq_false_iff_not]; intro hc; exact h (by rw [hc])
theorem sameB_at {xs ys : List Int} {k : Nat} (h : gi xs k ≠ gi ys k) : sameB xs ys = false := by
  simp only [sameB, decide_eq_false_iff_not]; intro hc; exact h (by rw [hc])
theorem sameB_all {xs ys : List Int} (h : xs.length = ys.length) (hg : ∀ j, j < xs.length → gi xs j = gi ys j) : sameB xs ys = true := by
  simp only [sameB, decide_eq_true_eq]; exact gi_eq h hg
set_option maxHeartbeats 400000 in
theorem sameInts_any (A B : Option Addr) (n c m d : Nat) (xs ys : List Int) (w : World) (ha : RI w A n xs) (hb : RI w B m ys) (hn : n ≤ 2097152) (hm : m ≤ 2097152) :
    Calls Try.prog 42 #[.slice A n c, .slice B m d] w fun e w' => e = .returned (.bool (sameB xs ys)) ∧ ∃ j, w' = w.drewN j := by
  have hl := ha.len
  have hm' := hb.len
  by_cases h0 : n = m
  · subst h0
    have hne : ((n : Int) != n) = false := by simp
    go_enter Try.func42, Try.ntmps42
    go_wp2
    go_loopw [13] (fun i wr => ∃ k j : Nat, k ≤ n ∧ i = .int .i64 k ∧ wr = w.drewN j ∧ Hid (∀ q, q < k → gi xs q = gi ys q)) (fun i _ => n - (intOf i).toNat)
    case atStart => exact ⟨0, 0, Nat.zero_le _, rfl, rfl, Lib.hid fun q hq => absurd hq (by omega)⟩
    case round =>
      obtain ⟨k, j, hk, rfl, rfl, hq⟩ := hrel
      by_cases hlt : k < n
      · obtain ⟨b, o, rfl, hbB, e1⟩ := ha.at_ hlt
        obtain ⟨b', o', rfl, hbB', e2⟩ := hb.at_ hlt
        by_cases h1 : gi xs k = gi ys k
        · have H1 := Lib.hid h1
          rw [← h1] at e2
          clear h1
          have hnx : (gi xs k != gi xs k) = false := by simp
          generalize hX : gi xs k = X at *
          clear ha hb
          go_wp2_with fail
          go_quiet (fail)
          go_wp2
          go_roundw
          case rel => exact ⟨k + 1, _, by omega, by go_num, by first | rfl | exact World.drewN_drewN _ _ _, Lib.hid fun q hq' => by
            rcases Nat.lt_or_ge q k with h | h
            · exact hq.out q h
            · obtain rfl : q = k := by omega
              exact hX.trans H1.out⟩
          case measure => simp [intOf]; omega
        · have H1 := Lib.hid h1
          have hnx : (gi xs k != gi ys k) = true := by simpa using h1
          clear h1
          have HR : Hid (sameB xs ys = false) := Lib.hid (sameB_at H1.out)
          generalize gi xs k = X at *
          generalize gi ys k = Y at *
          clear ha hb
          go_wp2_with fail
          go_quiet (fail)
          go_wp2
          go_ret
          exact ⟨by rw [HR.out]; rfl, _, by first | rfl | exact World.drewN_drewN _ _ _⟩
      · obtain rfl : k = n := by omega
        have HR : Hid (sameB xs ys = true) := Lib.hid (sameB_all (by omega) fun q hq' => hq.out q (by omega))
        go_wp2
        go_ret
        exact ⟨by rw [HR.out]; rfl, _, rfl⟩
  · have h1 : ((n : Int) != m) = true := by simp; omega
    have HR : Hid (sameB xs ys = false) := Lib.hid (sameB_len (by omega))
    go_enter Try.func42, Try.ntmps42
    go_wp2
    go_ret
    exact ⟨by rw [HR.out]; rfl, 0, rfl⟩
def bigB (n m : Nat) : Bool := decide (1048576 < n + m)
theorem big_any (Y Z : Option Addr) (n c m d : Nat) (w : World) (hn : n ≤ 140737488355328) (hm : m ≤ 140737488355328) :
    Calls Try.prog 4 #[.slice Y n c, .slice Z m d] w fun e w' => e = .returned (.bool (bigB n m)) ∧ w = w' := by
  by_cases h1 : 1048576 < n
  · have h2 : (1048576 : Int) < (n : Int) := by omega
    have HR : Hid (bigB n m = true) := Lib.hid (by unfold bigB; exact decide_eq_true (by omega))
    go_enter Try.func4, Try.ntmps4
    go_wp2
    go_ret
    exact ⟨by rw [HR.out]; rfl, rfl⟩
  · have h2 : ¬ (1048576 : Int) < (n : Int) := by omega
    have hw : IntKind.i64.wrap (1048576 - (n : Int)) = 1048576 - (n : Int) := by rw [IntKind.wrap_i64] <;> omega
    by_cases h3 : (1048576 : Int) - n < m
    · have HR : Hid (bigB n m = true) := Lib.hid (by unfold bigB; exact decide_eq_true (by omega))
      go_enter Try.func4, Try.ntmps4
      go_wp2
      go_ret
      exact ⟨by rw [HR.out]; simp [h3], rfl⟩
    · have HR : Hid (bigB n m = false) := Lib.hid (by unfold bigB; exact decide_eq_false (by omega))
      go_enter Try.func4, Try.ntmps4
      go_wp2
      go_ret
      exact ⟨by rw [HR.out]; first | (simp; done) | (simp; omega), rfl⟩
theorem sameB_refl' (xs : List Int) : sameB xs xs = true := sameB_all rfl fun _ _ => rfl
set_option maxRecDepth 100000 in
set_option maxHeartbeats 2000000 in
theorem pSameCircuit_any (x y : Int) (Ag Bg : Option Addr) (ng cg dg : Nat) (Ao Bo : Option Addr) (no co do_ : Nat) (gs : List G3) (os : List Int) (w : World) (hr : RG w Ag ng gs ∧ RI w Ao no os) (hs : RG w Bg ng gs ∧ RI w Bo no os) (hng : ng ≤ 2097152) (hno : no ≤ 2097152) :
    Calls Try.prog 11 #[.agg #[.int .i64 x, .int .i64 y, .slice Ag ng cg, .slice Ao no co], .agg #[.int .i64 x, .int .i64 y, .slice Bg ng dg, .slice Bo no do_]] w fun e w' => e = .returned (.bool true) ∧ Below w.heap.size w w' := by
  have hB : Below w.heap.size w ((w.alloc (.cells #[.int .i64 x, .int .i64 y, .slice Ag ng cg, .slice Ao no co] 27)).alloc (.cells #[.int .i64 x, .int .i64 y, .slice Bg ng dg, .slice Bo no do_] 27)) := ((Below.refl _ _).alloc (Nat.le_refl _) _).alloc (by simp) _
  have al1 : Below (w.alloc (.cells #[.int .i64 x, .int .i64 y, .slice Ag ng cg, .slice Ao no co] 27)).heap.size (w.alloc (.cells #[.int .i64 x, .int .i64 y, .slice Ag ng cg, .slice Ao no co] 27)) ((w.alloc (.cells #[.int .i64 x, .int .i64 y, .slice Ag ng cg, .slice Ao no co] 27)).alloc (.cells #[.int .i64 x, .int .i64 y, .slice Bg ng dg, .slice Bo no do_] 27)) := (Below.refl _ _).alloc (Nat.le_refl _) _
  have p0 : BxC ((w.alloc (.cells #[.int .i64 x, .int .i64 y, .slice Ag ng cg, .slice Ao no co] 27)).alloc (.cells #[.int .i64 x, .int .i64 y, .slice Bg ng dg, .slice Bo no do_] 27)) w.heap.size x y Ag ng cg Ao no co := (BxC.new w _).below al1
  have p1 : BxC ((w.alloc (.cells #[.int .i64 x, .int .i64 y, .slice Ag ng cg, .slice Ao no co] 27)).alloc (.cells #[.int .i64 x, .int .i64 y, .slice Bg ng dg, .slice Bo no do_] 27)) (w.heap.size + 1) x y Bg ng dg Bo no do_ := by simpa using BxC.new (x := x) (y := y) (Ag := Bg) (ng := ng) (cg := dg) (Ao := Bo) (no := no) (co := do_) (w.alloc (.cells #[.int .i64 x, .int .i64 y, .slice Ag ng cg, .slice Ao no co] 27)) 27
  have n1 : (x != x) = false := by simp
  have n2 : (y != y) = false := by simp
  have n3 : ((ng : Int) != ng) = false := by simp
  have hq := p0; obtain ⟨k0, k1, k2, k3⟩ := hq
  have hq := p1; obtain ⟨m0, m1, m2, m3⟩ := hq
  go_enter Try.func11, Try.ntmps11
  go_wp2_with fail
  refine (sameInts_any Ao Bo no co no do_ os os _ (hr.2.below hB (Nat.le_refl _)) (hs.2.below hB (Nat.le_refl _)) hno hno).mono ?_
  rintro e a1 ⟨rfl, j, rfl⟩
  rw [sameB_refl']
  have hB1 := below_drewN hB j
  have q0 : BxC (((w.alloc (.cells #[.int .i64 x, .int .i64 y, .slice Ag ng cg, .slice Ao no co] 27)).alloc (.cells #[.int .i64 x, .int .i64 y, .slice Bg ng dg, .slice Bo no do_] 27)).drewN j) w.heap.size x y Ag ng cg Ao no co := p0
  have q1 : BxC (((w.alloc (.cells #[.int .i64 x, .int .i64 y, .slice Ag ng cg, .slice Ao no co] 27)).alloc (.cells #[.int .i64 x, .int .i64 y, .slice Bg ng dg, .slice Bo no do_] 27)).drewN j) (w.heap.size + 1) x y Bg ng dg Bo no do_ := p1
  clear k0 k1 k2 k3 m0 m1 m2 m3 p0 p1 al1 hB
  generalize ((w.alloc (.cells #[.int .i64 x, .int .i64 y, .slice Ag ng cg, .slice Ao no co] 27)).alloc (.cells #[.int .i64 x, .int .i64 y, .slice Bg ng dg, .slice Bo no do_] 27)).drewN j = a1 at *
  have hq := q0; obtain ⟨k0, k1, k2, k3⟩ := hq
  have hq := q1; obtain ⟨m0, m1, m2, m3⟩ := hq
  go_wp2
  clear k0 k1 k2 k3 m0 m1 m2 m3
  go_loopw [38] (fun i wr => ∃ k j : Nat, k ≤ ng ∧ i = .int .i64 k ∧ wr = a1.drewN j) (fun i _ => ng - (intOf i).toNat)
  case atStart => exact ⟨0, 0, Nat.zero_le _, rfl, rfl⟩
  case round =>
    obtain ⟨k, j, hk, rfl, rfl⟩ := hrel
    have hB2 := below_drewN hB1 j
    obtain ⟨k0, k1, k2, k3⟩ := q0
    obtain ⟨m0, m1, m2, m3⟩ := q1
    by_cases hlt : k < ng
    · obtain ⟨kb, ob, rfl, hkb, d1, d2, d3⟩ := (hr.1.below hB1 (Nat.le_refl _)).at_ hlt
      obtain ⟨kc, oc, rfl, hkc, f1, f2, f3⟩ := (hs.1.below hB1 (Nat.le_refl _)).at_ hlt
      generalize gg gs k = GG at *
      go_wp2_with fail
      go_quiet (fail)
      clear k0 k1 k2 k3 m0 m1 m2 m3
      go_wp2
      go_roundw
      case rel => exact ⟨k + 1, _, by omega, by go_num, by first | rfl | exact World.drewN_drewN _ _ _⟩
      case measure => simp [intOf]; omega
    · obtain rfl : ng = k := Nat.le_antisymm (Nat.le_of_not_lt hlt) hk
      go_wp2
      go_ret
      exact ⟨rfl, hB2⟩
end Go.Proofs.Ytimmjppkaadggaa
