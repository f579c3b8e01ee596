/- Drawn numbers of both parties. -/
import Derived.Test.YtenknpcbbcbciaaGreatQS39
namespace Go.Proofs.YtenknpcbbcbciaaGreat
open Go.RowKit
set_option linter.unusedVariables false
set_option linter.unusedSimpArgs false
attribute [local go_sem] sepAt sepUpon pureAt pureUpon
def RetNu (b : Nat) (R : Nat → Prop) (T : Nat) (w : World) (e : Ending) (w' : World) : Prop :=
 ∃ (A0 A1 : Option Addr) (n0 c0 n1 c1 : Nat) (xs ys : List Int), e = .returned (.tuple #[.slice A0 n0 c0, .slice A1 n1 c1]) ∧ Own w' w.heap.size w'.heap.size (.slice A0 n0 c0) n0 xs ∧ Own w' w.heap.size w'.heap.size (.slice A1 n1 c1) n1 ys ∧ n0 ≤ 40 ∧ n1 ≤ 41 ∧ Cur w' b R T ∧ Alt (fun i => i = b) w w'
structure TwoR (w : World) (lo g : Nat) (A0 A1 : Option Addr) (n0 c0 n1 c1 : Nat) (xs ys : List Int) : Prop where
 e0 : w.cell? ⟨g, 0, none⟩ = some (.slice A0 n0 c0)
 e1 : w.cell? ⟨g, 1, none⟩ = some (.slice A1 n1 c1)
 o0 : Own w lo w.heap.size (.slice A0 n0 c0) n0 xs
 o1 : Own w lo w.heap.size (.slice A1 n1 c1) n1 ys
 fz : Fz w g
 g0 : (Value.slice A0 n0 c0).ownBlock ≠ some g
 g1 : (Value.slice A1 n1 c1).ownBlock ≠ some g
 ap : ∀ q, (Value.slice A0 n0 c0).ownBlock = some q → (Value.slice A1 n1 c1).ownBlock ≠ some q
 lo_ : lo ≤ g
 lt : g < w.heap.size
section
variable {w w' : World} {lo g n0 c0 n1 c1 : Nat} {A0 A1 : Option Addr} {xs ys : List Int}
theorem TwoR.alt {S : Nat → Prop} (h : TwoR w lo g A0 A1 n0 c0 n1 c1 xs ys) (k : Alt S w w') (hs : ∀ i, lo ≤ i → i < w.heap.size → ¬ S i) : TwoR w' lo g A0 A1 n0 c0 n1 c1 xs ys :=
 ⟨k.cell_ h.e0 (hs _ h.lo_ h.lt), k.cell_ h.e1 (hs _ h.lo_ h.lt), (h.o0.alt k (fun q hq => hs q (h.o0.lt q hq).1 (h.o0.lt q hq).2.2)).now, (h.o1.alt k (fun q hq => hs q (h.o1.lt q hq).1 (h.o1.lt q hq).2.2)).now, h.fz.alt k h.lt (hs _ h.lo_ h.lt), h.g0, h.g1, h.ap, h.lo_, Nat.lt_of_lt_of_le h.lt k.size⟩
theorem OwnII.two {hi : Nat} {xss : List (List Int)} {c : Nat} (h : OwnII w lo hi (.slice (some ⟨g, 0, none⟩) 2 c) 2 xss) (h40 : ∀ xs ∈ xss, xs.length ≤ 40) : ∃ A0 A1 n0 c0 n1 c1 xs ys, TwoR w lo g A0 A1 n0 c0 n1 c1 xs ys ∧ n0 ≤ 40 ∧ n1 ≤ 40 := by
 have hlt := h.lt g (by simp [Value.ownBlock])
 obtain ⟨vals, h1, h2, h3, h4, h5⟩ := h
 obtain ⟨A0, n0, c0, h6, h7⟩ := h4 0 (by omega)
 obtain ⟨A1, n1, c1, h8, h9⟩ := h4 1 (by omega)
 have a0 := Zel h1 h7.1 (by decide)
 have a1 := Zel h1 h9.1 (by decide)
 have m : ∀ j, j < 2 → (gl xss j).length ≤ 40 := fun j hj => by
  have : gl xss j = xss[j]'(by omega) := by simp [gl, List.getD, List.getElem?_eq_getElem (show j < xss.length by omega)]
  rw [this]; exact h40 _ (List.getElem_mem _)
 have l0 := h7.len
 have l1 := h9.len
 have m0 := m 0 (by omega)
 have m1 := m 1 (by omega)
 exact ⟨A0, A1, n0, c0, n1, c1, _, _, ⟨by rw [h1.cellAt 0 (by omega), h6], by rw [h1.cellAt 1 (by omega), h8], h7.now, h9.now, fun q => h1.frozenAt q, fun hh => a0 g (by simp [Value.ownBlock]) hh, fun hh => a1 g (by simp [Value.ownBlock]) hh, fun q hq => h5 0 1 _ _ (by omega) h6 h8 q hq, hlt.1, hlt.2.2⟩, by omega, by omega⟩
theorem TwoR.set0 {q : Nat} (h : TwoR w lo g (some ⟨q, 0, none⟩) A1 n0 c0 n1 c1 xs ys) (u : Int) : TwoR (w.setCell ⟨q, 0, none⟩ (.int .i64 u)) lo g (some ⟨q, 0, none⟩) A1 n0 c0 n1 c1 (xs.set 0 u) ys := by
 have hq : (Value.slice (some ⟨q, 0, none⟩) n0 c0).ownBlock = some q := by simp [Value.ownBlock]
 have hqg : q ≠ g := fun e => h.g0 (by rw [hq, e])
 have k : Alt (fun i => i = q) w (w.setCell ⟨q, 0, none⟩ (.int .i64 u)) := (Alt.refl_ _ w).set_ _ _ (fun _ => rfl)
 exact ⟨k.cell_ h.e0 (fun e => hqg e.symm), k.cell_ h.e1 (fun e => hqg e.symm), ((h.o0.stored 0 u).1).now, (h.o1.alt k (fun p hp e => by subst e; exact h.ap p hq hp)).now, h.fz.set _ _, h.g0, h.g1, h.ap, h.lo_, by simpa using h.lt⟩
theorem TwoR.row1 {A' : Option Addr} {n' c' : Nat} {zs : List Int} (h : TwoR w lo g A0 A1 n0 c0 n1 c1 xs ys) (k : Alt (fun i => (Value.slice A1 n1 c1).ownBlock = some i) w w') (ho : Own w' lo w'.heap.size (.slice A' n' c') n' zs) (hat : ∀ q, (Value.slice A' n' c').ownBlock = some q → (Value.slice A1 n1 c1).ownBlock = some q ∨ w.heap.size ≤ q) :
 TwoR (w'.setCell ⟨g, 1, none⟩ (.slice A' n' c')) lo g A0 A' n0 c0 n' c' xs zs := by
 have kg : Alt (fun i => i = g) w' (w'.setCell ⟨g, 1, none⟩ (.slice A' n' c')) := (Alt.refl_ _ w').set_ _ _ (fun _ => rfl)
 have hg1 : ∀ q, (Value.slice A' n' c').ownBlock = some q → q ≠ g := fun q hq e => by
  rcases hat q hq with h1 | h1
  ·exact h.g1 (e ▸ h1)
  ·have := h.lt; omega
 have d1 := k.cell_ h.e1 h.g1
 have o0 := (h.o0.alt k (fun q hq e => h.ap q hq e)).now
 exact ⟨(World.cell?_setCell_other _ _ _ _ (by simp)).trans (k.cell_ h.e0 h.g1), World.cell?_setCell_same _ _ _ d1, (o0.alt kg (fun q hq e => h.g0 (e ▸ hq))).now, (ho.alt kg (fun q hq e => hg1 q hq e)).now, (h.fz.alt k h.lt h.g1).set _ _, h.g0, fun e => hg1 g e rfl, fun q hq hq' => by
  rcases hat q hq' with h1 | h1
  ·exact h.ap q hq h1
  ·have := (h.o0.lt q hq).2.2; omega, h.lo_, by have := k.size; have := h.lt; simp; omega⟩
end
theorem among_ownZ {w : World} {lo hi n c b T : Nat} {A : Option Addr} {xs : List Int} {R : Nat → Prop} (h : Cur w b R T) (hT : T < 900000000) (ho : Own w lo hi (.slice A n c) n xs) (hb : b < lo) (hn : 0 < n) (hn2 : n ≤ 2147483648) :
 Calls Tryz.prog 87 #[.pointer (some ⟨b, 0, none⟩), .slice A n c] w (RetAmong w b R (T + 2) xs) :=
 among_any A n c xs b R T w h hT ho.reads hn hn2 fun q o hA e => by
  obtain ⟨A', c', hv, _⟩ := ho.form
  subst hA
  obtain ⟨b', o', h1, h2, h3⟩ := ho.reads.2 hn
  obtain ⟨g, cap, hv2, h4, h5⟩ := ho.1.form hn
  simp only [Value.slice.injEq, Option.some.injEq, Addr.mk.injEq, true_and] at hv2
  omega
def Qz (v : Value) : Prop := ∃ x : Int, v = .int .i64 x
theorem Qz.one : ∃ v, Qz v := ⟨.int .i64 0, 0, rfl⟩
abbrev Res.curZ (W : World) (b : Nat) (R : Nat → Prop) (T : Nat) : Res := Res.curQ W b R T Qz Qz.one
theorem RetNu.drew {b T : Nat} {R : Nat → Prop} {w w' : World} {e : Ending} (h : RetNu b R T w e w') (k : Nat) : RetNu b R T w e (w'.drewN k) := by
 obtain ⟨A0, A1, n0, c0, n1, c1, xs, ys, h1, h2, h3, h4, h5, h6, h7⟩ := h
 have kd : Alt (fun _ => False) w' (w'.drewN k) := (Alt.refl_ _ w').drewN_ k
 exact ⟨A0, A1, n0, c0, n1, c1, xs, ys, h1, (h2.alt kd (fun _ _ h => h)).now, (h3.alt kd (fun _ _ h => h)).now, h4, h5, h6.alt kd (fun h => h) (fun _ _ h => h), h7.trans_ kd (fun _ _ h => h.elim)⟩
theorem OwnII.alt_ {S : Nat → Prop} {w w' : World} {lo hi n : Nat} {v : Value} {xss : List (List Int)} (h : OwnII w lo hi v n xss) (k : Alt S w w') (hs : ∀ i, lo ≤ i → i < w.heap.size → ¬ S i) : OwnII w' lo hi v n xss := by
 have hlt := h.lt
 obtain ⟨vals, h1, h2, h3, h4, h5⟩ := h
 refine ⟨vals, Zav h1 k (fun g hg => hs g (hlt g hg).1 (hlt g hg).2.2), h2, h3, fun j hj => ?_, h5⟩
 obtain ⟨A', m, c', h6, h7⟩ := h4 j hj
 exact ⟨A', m, c', h6, h7.alt k (fun g hg => hs g (h7.lt g hg).1 (h7.lt g hg).2.2)⟩
set_option maxRecDepth 100000 in
set_option maxHeartbeats 16000000 in
theorem numbers_any (A : Option Addr) (n c lo hi : Nat) (L : List Lp) (b : Nat) (R : Nat → Prop) (T : Nat) (w : World) (h : Cur w b R T) (hT : T < 600000000) (hL : OLq shortL w lo hi (.slice A n c) n L) (hhi : hi ≤ w.heap.size) (hbl : b < lo) (h40 : n ≤ 40) (hR : ∀ i, R i → i < w.heap.size) (hRb : ¬ R b) :
 Calls Tryz.prog 67 #[.pointer (some ⟨b, 0, none⟩), .slice A n c] w (RetNu b R (T + 400) w) := by
 have hb := h.lt
 have hLl := hL.len
 go_enter Tryz.func67, Tryz.ntmps67
 go_wp2
 go_loopg [6, 7] 2 (fun g av pv wr => ∃ (p : Nat) (G : Option Addr) (cg U : Nat) (xss : List (List Int)), p + g = 2 ∧ pv = .int .i64 p ∧ av = .slice G p cg ∧ OwnII wr w.heap.size wr.heap.size (.slice G p cg) p xss ∧ (∀ xs ∈ xss, xs.length ≤ 40) ∧ Cur wr b R U ∧ U + 100 * g ≤ T + 300 ∧ Alt (fun i => i = b) w wr ∧ w.heap.size ≤ wr.heap.size)
 case atStart => exact ⟨0, none, 0, T, [], by omega, rfl, rfl, OwnII.none_ _ _ _, fun xs hx => by simp at hx, h, by omega, Alt.refl_ _ _, Nat.le_refl _⟩
 case round =>
  obtain ⟨p, G, cg, U, xss, hpg, rfl, rfl, hG, hx40, hu, hU, ha, hsz⟩ := hrel
  clear h
  generalize wr = W0 at *
  generalize gk = gK at *
  have hpg := zH hpg
  have hLr := hL.alt ha (fun i h1 h2 _ e => by omega)
  have hp2 : p ≤ 2 := by have := hpg.out; omega
  by_cases hg0 : gK = 0
  ·obtain rfl : p = 2 := by have := hpg.out; omega
   obtain ⟨g, rfl, hg1, _, _⟩ := hG.some_ (by omega)
   obtain ⟨A0, A1, n0, c0, n1, c1, xs, ys, tw, hn0b, hn1b⟩ := hG.two hx40
   have hU2 : U ≤ T + 300 := by have := hpg.out; omega
   clear hG hx40 hLr
   have d0 := tw.e0
   by_cases hn0 : n0 = 0
   ·subst hn0
    clear d0
    have d0 := tw.e0
    go_wp2_with fail
    refine (one_any 20 b R _ _ hu (by omega) (by omega)).mono ?_
    rintro e x1 ⟨t, rfl, v1, k1, z1⟩
    have tw1 := tw.alt k1 (fun i h1 h2 e => by omega)
    have aa1 := ha.trans_ k1 (fun _ _ h => h)
    have zz1 := aa1.size
    clear tw k1 z1
    have d0 := tw1.e0
    have d1 := tw1.e1
    cases t with
    | false =>
     go_wp2_with fail
     go_quiet (fail)
     go_wp2
     go_ret2
     exact RetNu.drew ⟨_, _, _, _, _, _, _, _, rfl, tw1.o0, tw1.o1, hn0b, by omega, v1.mono (by omega), aa1⟩ _
    | true =>
     have alB : Below x1.heap.size x1 (x1.alloc (.cells #[.int .i64 0] 3)) := bA
     have tw2 := tw1.alt (Alt.of_new (S := fun _ => False) alB) (fun _ _ _ h => h)
     have aa2 := aa1.trans_ (T := fun _ => False) (Alt.of_new alB) (fun _ _ h => h.elim)
     have v2 := v1.alt (Alt.of_new (S := fun _ => False) alB) (fun h => h) (fun _ _ h => h)
     go_wp2_with (
      at_builtin
      go_loud (refine Zal _ rfl _ _ rfl rfl tw2.o1 rfl (Zaj _ _ _ _ (by simp)) (by omega) oM ?_)
      intro A7 c7 x7 hown7 hg7 hat7
      go_loud (
       have kg := Alt.of_grown (S := fun i => (Value.slice A1 n1 c1).ownBlock = some i) hg7 (fun i hi => hi)
       have tw3 := tw2.row1 kg hown7 (fun q hq => by
        rcases hat7 with h9 | h9
        ·exact .inl (h9 ▸ hq)
        ·rw [h9] at hq; injection hq with hq; exact .inr (by omega))
       have aa3 := aa2.trans_ kg (fun i hi e => by have := (tw2.o1.lt i e).1; omega)
       have v3 := v2.alt kg (fun e => by have := (tw2.o1.lt b e).1; omega) (fun i hi e => by have := (tw2.o1.lt i e).1; have := hR i hi; omega)
       have d3 := kg.cell_ tw2.e1 tw2.g1
       have f3 := (tw2.fz.alt kg tw2.lt tw2.g1) 1))
     have ks := (Alt.refl_ (fun i => i = g) x7).set_ ⟨g, 1, none⟩ (.slice A7 (n1 + 1) c7) (fun _ => rfl)
     have aa4 := aa3.trans_ ks (fun i hi e => by omega)
     have v4 := v3.alt ks (fun e => by omega) (fun i hi e => by have := hR i hi; omega)
     have e0 := tw3.e0
     have e1 := tw3.e1
     clear d0 d1 d3 f3 aa3 v3 ks
     go_wp2_with fail
     go_quiet (fail)
     go_wp2
     go_ret2
     exact RetNu.drew ⟨_, _, _, _, _, _, _, _, rfl, tw3.o0, tw3.o1, hn0b, by omega, v4.mono (by omega), aa4⟩ _
   ·have hn0i : (0 : Int) < (n0 : Int) := by omega
    go_wp2_with fail
    refine (one_any 20 b R _ _ hu (by omega) (by omega)).mono ?_
    rintro e y1 ⟨t, rfl, w1, m1, y9⟩
    have tx := tw.alt m1 (fun i h1 h2 e => by omega)
    have ax := ha.trans_ m1 (fun _ _ h => h)
    have zx := ax.size
    clear tw d0 m1 y9 hu ha
    cases t with
    | false =>
     go_wp2_with fail
     refine (one_any 20 b R _ _ w1 (by omega) (by omega)).mono ?_
     rintro e x1 ⟨t, rfl, v1, k1, z1⟩
     have tw1 := tx.alt k1 (fun i h1 h2 e => by omega)
     have aa1 := ax.trans_ k1 (fun _ _ h => h)
     have zz1 := aa1.size
     clear tx k1 z1
     have d0 := tw1.e0
     have d1 := tw1.e1
     cases t with
     | false =>
      go_wp2_with fail
      go_quiet (fail)
      go_wp2
      go_ret2
      exact RetNu.drew ⟨_, _, _, _, _, _, _, _, rfl, tw1.o0, tw1.o1, hn0b, by omega, v1.mono (by omega), aa1⟩ _
     | true =>
      have alB : Below x1.heap.size x1 (x1.alloc (.cells #[.int .i64 0] 3)) := bA
      have tw2 := tw1.alt (Alt.of_new (S := fun _ => False) alB) (fun _ _ _ h => h)
      have aa2 := aa1.trans_ (T := fun _ => False) (Alt.of_new alB) (fun _ _ h => h.elim)
      have v2 := v1.alt (Alt.of_new (S := fun _ => False) alB) (fun h => h) (fun _ _ h => h)
      go_wp2_with (
       at_builtin
       go_loud (refine Zal _ rfl _ _ rfl rfl tw2.o1 rfl (Zaj _ _ _ _ (by simp)) (by omega) oM ?_)
       intro A7 c7 x7 hown7 hg7 hat7
       go_loud (
        have kg := Alt.of_grown (S := fun i => (Value.slice A1 n1 c1).ownBlock = some i) hg7 (fun i hi => hi)
        have tw3 := tw2.row1 kg hown7 (fun q hq => by
         rcases hat7 with h9 | h9
         ·exact .inl (h9 ▸ hq)
         ·rw [h9] at hq; injection hq with hq; exact .inr (by omega))
        have aa3 := aa2.trans_ kg (fun i hi e => by have := (tw2.o1.lt i e).1; omega)
        have v3 := v2.alt kg (fun e => by have := (tw2.o1.lt b e).1; omega) (fun i hi e => by have := (tw2.o1.lt i e).1; have := hR i hi; omega)
        have d3 := kg.cell_ tw2.e1 tw2.g1
        have f3 := (tw2.fz.alt kg tw2.lt tw2.g1) 1))
      have ks := (Alt.refl_ (fun i => i = g) x7).set_ ⟨g, 1, none⟩ (.slice A7 (n1 + 1) c7) (fun _ => rfl)
      have aa4 := aa3.trans_ ks (fun i hi e => by omega)
      have v4 := v3.alt ks (fun e => by omega) (fun i hi e => by have := hR i hi; omega)
      have e0 := tw3.e0
      have e1 := tw3.e1
      clear d0 d1 d3 f3 aa3 v3 ks
      go_wp2_with fail
      go_quiet (fail)
      go_wp2
      go_ret2
      exact RetNu.drew ⟨_, _, _, _, _, _, _, _, rfl, tw3.o0, tw3.o1, hn0b, by omega, v4.mono (by omega), aa4⟩ _
    | true =>
     obtain ⟨q, hA0, hq1, hq2⟩ : ∃ q, A0 = some ⟨q, 0, none⟩ ∧ w.heap.size ≤ q ∧ q < y1.heap.size := by
      obtain ⟨q, cap, hv, h1, h2⟩ := tx.o0.1.form (by omega)
      simp only [Value.slice.injEq, true_and] at hv
      exact ⟨q, hv.1, h1, h2⟩
     subst hA0
     have d0 := tx.e0
     obtain ⟨dq, fq⟩ := tx.o0.cellAt (show 0 < n0 by omega)
     have hn0p : 0 < n0 := by omega
     go_wp2_with fail
     go_wp2_with fail
     refine Zch (7) ((fun i => i = b ∨ R i)) [(⟨g, 0, none⟩, .slice (some ⟨q, 0, none⟩) n0 c0), (⟨g, 0, none⟩, .slice (some ⟨q, 0, none⟩) n0 c0)] [(4, [], []), (5, [101, 4], [101])] [101] [5] [(101, Res.curZ y1 b R (U + 2)), (4, Res.row w.heap.size 2 [-1, 1024]), (5, Res.curZ y1 b R (U + 2 + 2))] ((upd (fun _ => undef) 101 (.int .i64 0))) (by kernel_rfl) (by kernel_rfl) (by kernel_rfl) (by simp only [cD, cC, and_true]; repeat (any_goals (apply And.intro)); all_goals (first | assumption | go_simp)) (fun q9 hq9 => by simp only [List.mem_cons, List.not_mem_nil, or_false, or_self] at hq9; subst hq9; rintro (h | h) <;> first | (have h' : g = b := h; omega) | (have h' : g < w.heap.size := hR _ h; omega)) (⟨⟨⟨w1.alt ((Alt.refl_ (fun _ => False) y1).drewN_ 1) (fun h => h) (fun _ _ h => h), fun i hi => ⟨by have := hR i hi; show i < y1.heap.size; omega, rfl⟩⟩, fun i hi => ⟨.inr hi, hi.elim (fun h => h ▸ w1.lt) (fun h => by have := hR i h; show i < y1.heap.size; omega)⟩⟩, trivial⟩) ((fun d hd d' hd' hn c hc hc' => by simp only [List.mem_cons, List.not_mem_nil, or_false] at hd hd'; rcases hd with rfl; rcases hd' with rfl; exact hn rfl)) ?_
     simp only [List.take_succ_cons, List.take_zero, List.drop_succ_cons, List.drop_zero, List.take_nil, List.drop_nil, List.take, List.drop]
     repeat (first
      | ((first
       | ((with_reducible refine Zan ?_ ?_ ?_)
          ·exact rfl
          ·exact rfl)
       | ((with_reducible refine Zas ?_ ?_ ?_)
          ·exact rfl
          ·exact Zad rfl rfl rfl rfl))
         intro K hK
         apply Exists.intro
         refine ⟨fun w3 hw3 => ?_, ?_⟩
         ·have hcs := hw3
          simp only [cD, cC, and_true] at hcs
          clear hw3
          go_simp
          first | done | exact ⟨rfl, rfl⟩ | rfl
         refine hK _ ?_
         clear hK K
         try simp only [pA, pB, sA, sB, sC])
      | ((with_reducible refine Zar ?_ ?_ ?_)
         ·exact rfl
         ·exact Zak rfl rfl rfl rfl
         simp only [pA, pB, sA, sB, sC]))
     focus
      (with_reducible refine mem_row w.heap.size 2 [-1, 1024] ?_ ?_ ?_ ?_ ?_ (hw := ?_))
      ·exact rfl
      ·exact rfl
      ·omega
      ·intro w3 hw3 hc3 hp3
       have hcs := hc3
       simp only [cD, cC, and_true] at hcs
       (go_simp; exact postRow.new2 _ _ _)
      rotate_left
      ·first | exact Zao rfl | exact Zad rfl rfl rfl rfl
      intro A3 c3
      try simp only [pA, pB, sA, sB, sC]
     refine mem_cur 101 b R (U + 2) (U + 2 + 2) Qz Qz Qz.one Qz.one y1 (.int .i64 0) hRb (by rfl) (by rfl) (by rfl) (by rfl) (by decide) (by rfl) (fun w3 hw3 hc3 hp3 hu3 => ?_) (fun v9 hv9 => ?_)
     ·have h5 : Own w3 w.heap.size w3.heap.size (.slice A3 2 c3) 2 [-1, 1024] := (Zcl (d := 4) (by decide) hp3 (by rfl) (by rfl)).1
      go_simp
      refine (among_ownZ hu3 (by omega) h5 (by omega) (by omega) (by omega)).mono ?_
      rintro e w4 ⟨x, hx, rfl, c4, k4, z4⟩
      exact retPost.mk_ ⟨⟨x, rfl⟩, c4, k4⟩
     obtain ⟨x9, rfl⟩ := hv9
     try simp only [pA, pB, sA, sB, sC]
     repeat (first
      | ((first
       | ((with_reducible refine Zan ?_ ?_ ?_)
          ·exact rfl
          ·exact rfl)
       | ((with_reducible refine Zas ?_ ?_ ?_)
          ·exact rfl
          ·exact Zad rfl rfl rfl rfl))
         intro K hK
         apply Exists.intro
         refine ⟨fun w3 hw3 => ?_, ?_⟩
         ·have hcs := hw3
          simp only [cD, cC, and_true] at hcs
          clear hw3
          go_simp
          first | done | exact ⟨rfl, rfl⟩ | rfl
         refine hK _ ?_
         clear hK K
         try simp only [pA, pB, sA, sB, sC])
      | ((with_reducible refine Zar ?_ ?_ ?_)
         ·exact rfl
         ·exact Zak rfl rfl rfl rfl
         simp only [pA, pB, sA, sB, sC]))
     refine Zbs ?_
     intro wy hwy hcy hfin hap
     have hC4 : Cur wy b R (U + 2 + 2) ∧ ∀ i, R i → i < wy.heap.size ∧ wy.heap[i]? = y1.heap[i]? := hfin.1.1
     have k6 : Alt (fun i => i = b) y1 wy := alt_back (base := y1) (b := b) (R := R) (own := fun _ => False) (Alt.refl_ _ _) (hwy.mono_ (fun i _ h => h.elim (fun h => .inl h) (fun h => .inr (.inl h)))) (fun i h => h.elim) (fun i hi => (hC4.2 i hi).2)
     have w6 := hC4.1
     have t6 := tx.alt k6 (fun i h1 h2 e => by omega)
     have a6 := ax.trans_ k6 (fun _ _ h => h)
     have z6 := a6.size
     clear hfin hap hcy hwy hC4 d0 dq fq tx ax k6
     obtain ⟨dq, fq⟩ := t6.o0.cellAt (show 0 < n0 by omega)
     have ks := (Alt.refl_ (fun i => i = q) wy).set_ ⟨q, 0, none⟩ (.int .i64 x9) (fun _ => rfl)
     have t7 := t6.set0 x9
     have a7 := a6.trans_ ks (fun i hi e => by omega)
     have w7 := w6.alt ks (fun e => by omega) (fun i hi e => by have := hR i hi; omega)
     clear t6 a6 w6 ks
     go_wp2_with fail
     refine (one_any 20 b R _ _ w7 (by omega) (by omega)).mono ?_
     rintro e x1 ⟨t, rfl, v1, k1, z1⟩
     have tw1 := t7.alt k1 (fun i h1 h2 e => by omega)
     have aa1 := a7.trans_ k1 (fun _ _ h => h)
     have zz1 := aa1.size
     clear t7 k1 z1
     have d0 := tw1.e0
     have d1 := tw1.e1
     cases t with
     | false =>
      go_wp2_with fail
      go_quiet (fail)
      go_wp2
      go_ret2
      exact RetNu.drew ⟨_, _, _, _, _, _, _, _, rfl, tw1.o0, tw1.o1, hn0b, by omega, v1.mono (by omega), aa1⟩ _
     | true =>
      have alB : Below x1.heap.size x1 (x1.alloc (.cells #[.int .i64 0] 3)) := bA
      have tw2 := tw1.alt (Alt.of_new (S := fun _ => False) alB) (fun _ _ _ h => h)
      have aa2 := aa1.trans_ (T := fun _ => False) (Alt.of_new alB) (fun _ _ h => h.elim)
      have v2 := v1.alt (Alt.of_new (S := fun _ => False) alB) (fun h => h) (fun _ _ h => h)
      go_wp2_with (
       at_builtin
       go_loud (refine Zal _ rfl _ _ rfl rfl tw2.o1 rfl (Zaj _ _ _ _ (by simp)) (by omega) oM ?_)
       intro A7 c7 x7 hown7 hg7 hat7
       go_loud (
        have kg := Alt.of_grown (S := fun i => (Value.slice A1 n1 c1).ownBlock = some i) hg7 (fun i hi => hi)
        have tw3 := tw2.row1 kg hown7 (fun q hq => by
         rcases hat7 with h9 | h9
         ·exact .inl (h9 ▸ hq)
         ·rw [h9] at hq; injection hq with hq; exact .inr (by omega))
        have aa3 := aa2.trans_ kg (fun i hi e => by have := (tw2.o1.lt i e).1; omega)
        have v3 := v2.alt kg (fun e => by have := (tw2.o1.lt b e).1; omega) (fun i hi e => by have := (tw2.o1.lt i e).1; have := hR i hi; omega)
        have d3 := kg.cell_ tw2.e1 tw2.g1
        have f3 := (tw2.fz.alt kg tw2.lt tw2.g1) 1))
      have ks := (Alt.refl_ (fun i => i = g) x7).set_ ⟨g, 1, none⟩ (.slice A7 (n1 + 1) c7) (fun _ => rfl)
      have aa4 := aa3.trans_ ks (fun i hi e => by omega)
      have v4 := v3.alt ks (fun e => by omega) (fun i hi e => by have := hR i hi; omega)
      have e0 := tw3.e0
      have e1 := tw3.e1
      clear d0 d1 d3 f3 aa3 v3 ks
      go_wp2_with fail
      go_quiet (fail)
      go_wp2
      go_ret2
      exact RetNu.drew ⟨_, _, _, _, _, _, _, _, rfl, tw3.o0, tw3.o1, hn0b, by omega, v4.mono (by omega), aa4⟩ _
  ·have hp1 : p < 2 := by have := hpg.out; omega
   have hp1' : (p : Int) < 2 := by omega
   go_wp2_with fail
   refine (Zbc A n c p _ _ hLr.reads (by omega)).mono ?_
   rintro e w1 ⟨Aw, cw, rfl, hW, b1⟩
   have hk40 : (insL (L.map Lp.x) p).length ≤ 40 := Nat.le_trans (Zbx _ _) (by rw [List.length_map]; omega)
   generalize insL (L.map Lp.x) p = ws at *
   obtain ⟨k, hk⟩ : ∃ k, ws.length = k := ⟨_, rfl⟩
   rw [hk] at hW hk40
   rw [hk]
   have hG1 := hG.below b1 lR
   have k1 : Alt (fun _ => False) W0 w1 := Alt.of_new b1
   have u1 := hu.alt k1 (fun h => h) (fun _ _ h => h)
   have a1 := ha.trans_ k1 (fun _ _ h => h.elim)
   obtain ⟨HI, hHI⟩ := lT (w1.heap.size)
   have hHb : b < HI := by have := hHI.out; have := k1.size; omega
   have hHw : w.heap.size ≤ HI := by have := hHI.out; have := k1.size; omega
   have hWlo : W0.heap.size ≤ HI := by have := hHI.out; have := k1.size; omega
   clear hu ha hLr hG b1 k1
   go_wp2
   go_loopw [8, 19] (fun v i wr => ∃ (j : Nat) (A' : Option Addr) (c' : Nat) (xs : List Int), j ≤ k ∧ i = .int .i64 j ∧ v = .slice A' j c' ∧ Own wr HI wr.heap.size (.slice A' j c') j xs ∧ Cur wr b R (U + 2 * j) ∧ Alt (fun i => i = b) w1 wr ∧ HI ≤ wr.heap.size) (fun _ i _ => k - (intOf i).toNat)
   case atStart => exact ⟨0, none, 0, [], Nat.zero_le _, rfl, rfl, Own.none_ _ _ _, u1.mono (by omega), Alt.refl_ _ _, Nat.le_of_eq hHI.out.symm⟩
   case round =>
    obtain ⟨j, A', c', xs, hj, rfl, rfl, ho, hu, ha, hsw⟩ := hrel
    clear u1
    generalize wr = W1 at *
    by_cases hlt : j < k
    ·obtain ⟨q, o, rfl, hqb, e1⟩ := (hW.alt ha (fun g hg e => by have := (hW.lt g hg).1; omega)).reads.at_ hlt
     generalize gi ws j = X at *
     go_wp2_with fail
     refine (l1Least_any X 12 _).mono ?_
     rintro e w2 ⟨rfl, rfl⟩
     go_wp2_with fail
     refine (l1Most_any 0 (min X 12) _).mono ?_
     rintro e w2 ⟨rfl, rfl⟩
     obtain ⟨V, hV⟩ : ∃ V : Nat, max 0 (min X 12) = (V : Int) := ⟨(max 0 (min X 12)).toNat, by omega⟩
     have hV12 : V ≤ 12 := by omega
     rw [hV]
     clear hV
     obtain ⟨N, hN⟩ : ∃ N : Nat, 2 ^ V = N := ⟨_, rfl⟩
     have hN1 : 1 ≤ N := by rw [← hN]; exact Nat.one_le_two_pow
     have hN2 : N ≤ 4096 := by rw [← hN]; exact Nat.le_trans (Nat.pow_le_pow_right (by omega) hV12) (by decide)
     have hNi : (2 : Int) ^ V = N := by rw [← hN]; simp
     have hta : ((V : Nat) : Int).toNat = V := by simp
     go_wp2_with fail
     refine (Zbm N b R _ _ hu (by omega) (by omega)).mono ?_
     rintro e w2 ⟨v, hv, hv2, rfl, u2, k2, z2⟩
     have ho2 := (ho.alt k2 (fun g hg e => by have := (ho.lt g hg).1; omega)).now
     have ha2 := ha.trans_ k2 (fun _ _ h => h)
     have hz2 : HI ≤ w2.heap.size := by omega
     have hoA := ho2.alloc (.cells #[.int .i64 v] 3)
     have haA := ha2.alloc_ (.cells #[.int .i64 v] 3)
     have uA := u2.alt ((Alt.refl_ (fun _ => False) w2).alloc_ (.cells #[.int .i64 v] 3)) (fun h => h) (fun _ _ h => h)
     clear ho ha hu k2 u2 ha2 z2 hN hNi hta hsw
     go_wp2_with (at_builtin; refine Zal _ rfl _ _ rfl rfl hoA rfl (Zaj _ _ _ _ (by simp)) (by omega) oM ?_; intro A5 c5 w5 hown5 hg5 hat5)
     have a5 := haA.trans_ (Alt.of_grown (S := fun j' => (Value.slice A' j c').ownBlock = some j') hg5 (fun j' hj => hj)) (fun j' hj h => by have := (hoA.lt j' h).1; have := hHI.out; omega)
     have u5 := uA.alt (Alt.of_grown (S := fun j' => (Value.slice A' j c').ownBlock = some j') hg5 (fun j' hj => hj)) (fun h => by have := (hoA.lt b h).1; omega) (fun j' hj h => by have := (hoA.lt j' h).1; have := hR j' hj; omega)
     have hz5 : HI ≤ w5.heap.size := by have := a5.size; have := hHI.out; omega
     clear hoA haA uA hg5 hat5 hz2
     go_wp2
     go_roundw
     case rel => exact ⟨j + 1, _, _, _, by omega, by go_num, rfl, hown5, u5.mono (by omega), a5, hz5⟩
     case measure => simp [intOf]; omega
    ·obtain rfl : j = k := by omega
     have hG2 := hG1.alt_ ha (fun i h1 h2 e => by omega)
     have ha2 := a1.trans_ ha (fun _ _ h => h)
     have hxl := ho.len
     have alB : Below W1.heap.size W1 (W1.alloc (.cells #[.slice A' j c'] 24)) := bA
     have hG3 := hG2.below alB lR
     have ho3 := ho.below alB (.inl lR)
     have hWW : w.heap.size ≤ W1.heap.size := by omega
     clear hW hG1 a1
     go_wp2_with (at_builtin; go_loud (refine wpList_appL _ rfl _ _ rfl rfl hG3 rfl ho3 (Zaf _ _ 0 _ rfl) hWlo hHw (by omega) (by simp; omega) ?_); intro G5 cg5 w5 hG5 hgr hst)
     have ka : Alt (fun _ => False) W1 _ := Alt.of_new alB
     have kg : Alt (fun i => (Value.slice G p cg).ownBlock = some i) _ w5 := Alt.of_grown (S := fun i => (Value.slice G p cg).ownBlock = some i) hgr (fun i hi => hi)
     have a5 := (ha2.trans_ ka (fun _ _ h => h.elim)).trans_ kg (fun i hi e => by have := (hG2.lt i e).1; omega)
     have u5 := (hu.alt ka (fun h => h) (fun _ _ h => h)).alt kg (fun e => by have := (hG2.lt b e).1; omega) (fun i hi e => by have := (hG2.lt i e).1; have := hR i hi; omega)
     have hx5 : ∀ ys ∈ xss ++ [xs], ys.length ≤ 40 := fun ys hy => (List.mem_append.1 hy).elim (hx40 ys) (fun h => by simp at h; subst h; omega)
     have hz5 : w.heap.size ≤ w5.heap.size := by have := a5.size; omega
     clear hG2 hG3 ho ho3 ha ha2 ka kg hgr hst alB
     have hpg' := hpg.out
     go_wp2
     go_roundg (gK - 1)
     case rel => exact ⟨p + 1, G5, cg5, _, _, by omega, congrArg (Value.int .i64) (by omega), rfl, hG5, hx5, u5, by omega, a5, hz5⟩
     case measure => omega
end Go.Proofs.YtenknpcbbcbciaaGreat
