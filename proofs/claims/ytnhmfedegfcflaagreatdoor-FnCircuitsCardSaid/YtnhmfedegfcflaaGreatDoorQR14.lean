/- A circuit as text: the contracts of the reference's functions. Lengths as valid circuits have them. -/
import Derived.Test.YtnhmfedegfcflaaGreatDoorQR10
namespace Go.Proofs.YtnhmfedegfcflaaGreatDoor
open Go.RowKit
set_option linter.unusedVariables false
set_option linter.unusedSimpArgs false
attribute [local go_sem] sepAt sepUpon pureAt pureUpon
def Res.rowW (lo n : Nat) (Q : Int → Prop) : Res :=
 ⟨fun _ v => ∃ A c, v = .slice A n c, fun _ v w => ∃ xs, Own w lo w.heap.size v n xs ∧ ∀ z ∈ xs, Q z, fun _ v b => v.ownBlock = some b, fun _ => ⟨.slice none n 0, none, 0, rfl⟩, fun _ v w w' S ⟨xs, h, hq⟩ k hb => ⟨xs, (h.alt k fun g hg => (hb g hg).1).now, hq⟩⟩
section
variable {P : Program} {W : World} {own : Nat → Prop} {cs : List (Addr × Value)} {sk : List (Nat × List Nat × List Nat)} {ini fi : List Nat} {rs : List (Nat × Res)} {ops : Array Oper} {L : Act → (Nat → Value) → Prop} {k : Nat} {o : Oper} {rest : List Oper} {a : Act} {ρ : Nat → Value}
theorem mem_rowW (lo n : Nat) (Q : Int → Prop) (hr : resAt rs k = Res.rowW lo n Q) (he : effB sk k = true) (hlo : lo ≤ W.heap.size) (hx : ∀ w, Alt (okB W own) W w → CellsL w cs → (mkSep W own cs sk ini fi rs).pre k ρ w → sepAt P o a (fun v w' => ∃ xs, postRow w n xs v w' ∧ ∀ z ∈ xs, Q z) w)
 (h : ∀ A c, wpSep (mkSep W own cs sk ini fi rs) P ops L (k + 1) rest (a.put o.dst (.slice A n c)) (upd ρ k (.slice A n c))) (hw : Region.wanted o (yielded ops a.tmps) = true := by first | exact Zac rfl | exact Zaa rfl rfl rfl rfl) : wpSep (mkSep W own cs sk ini fi rs) P ops L k (o :: rest) a ρ :=
 Zbl (hw := hw) _ hr he (fun w hw hc hp => Zaz (hx w hw hc hp) fun v w' ⟨xs, ⟨A, c, h1, h2, h3⟩, hq⟩ => by
  subst h1
  exact ⟨⟨A, c, rfl⟩, ⟨xs, h2.lo_ (Nat.le_trans hlo hw.size), hq⟩, Alt.of_new h3, fun b hb => ⟨(h2.lt b hb).2.2, .inl (h2.lt b hb).1⟩⟩) fun v hv => by
  obtain ⟨A, c, rfl⟩ := hv
  exact h A c
theorem mem_appW {ops : Array Oper} {L : Act → (Nat → Value) → Prop} (d d2 lo n m : Nat) (Q : Int → Prop) (A0 : Option Addr) (c0 : Nat) (A : Option Addr) (c : Nat) (s x : Operand) (hr : resAt rs k = Res.rowW lo (n + m) Q) (he : effB sk k = true) (hlo : lo ≤ W.heap.size) (hrd : resAt rs d = Res.rowW lo n Q) (hd : consL sk k = [d]) (hdd : d ∈ depsL sk k) (hρ : ρ d = .slice A0 n c0)
 (hrd2 : resAt rs d2 = Res.rowW lo m Q) (hdd2 : d2 ∈ depsL sk k) (hρ2 : ρ d2 = .slice A m c)
 (ho : o.op = .call { callee := .builtin .append, args := #[s, x], argTypes := #[25, 25] }) (hs : a.eval s = .slice A0 n c0) (hx : a.eval x = .slice A m c) (hlen : n + m ≤ 8388608)
 (h : ∀ A' c', wpSep (mkSep W own cs sk ini fi rs) Tryz.prog ops L (k + 1) rest (a.put o.dst (.slice A' (n + m) c')) (upd ρ k (.slice A' (n + m) c'))) (hw : Region.wanted o (yielded ops a.tmps) = true := by first | exact Zac rfl | exact Zaa rfl rfl rfl rfl) : wpSep (mkSep W own cs sk ini fi rs) Tryz.prog ops L k (o :: rest) a ρ :=
 Zbl (hw := hw) _ hr he (fun w hw hc hp => by
  obtain ⟨xs, h1, q1⟩ : ∃ xs, Own w lo w.heap.size (.slice A0 n c0) n xs ∧ ∀ z ∈ xs, Q z := (Zbo hdd hp hρ hrd).1
  obtain ⟨ys, h6, q6⟩ : ∃ ys, Own w lo w.heap.size (.slice A m c) m ys ∧ ∀ z ∈ ys, Q z := (Zbo hdd2 hp hρ2 hrd2).1
  have hh : (mkSep W own cs sk ini fi rs).hit k ρ = fun b => (Value.slice A0 n c0).ownBlock = some b := hit_one hd hρ hrd
  rw [hh]
  obtain ⟨A', c', w', hrun, h2, h3, h4, h5⟩ := run_appI w o.type lo w.heap.size n c0 m c A0 A xs ys h1 h6.reads hlen (Nat.le_trans hlo hw.size)
  unfold sepAt execOp
  simp only [ho, resolve, invoke, builtin, Sem.run_bind, Sem.run_pure, Result.andThen_ok, List.map_toArray, List.map_cons, List.map_nil, hs, hx, hrun]
  exact ⟨⟨A', c', rfl⟩, ⟨_, h2, fun z hz => (List.mem_append.1 hz).elim (q1 z) (q6 z)⟩, Alt.of_grown h3 (fun i hi => hi), fun b hb => ⟨(h2.lt b hb).2.2, by
   rcases h4 with h4 | h4
   ·exact .inr (h4 ▸ hb)
   ·have hb' : (Value.slice A' (n + m) c').ownBlock = some b := hb
    rw [h4] at hb'; injection hb' with hb'
    exact .inl (by omega)⟩⟩) fun v hv => by
  obtain ⟨A', c', rfl⟩ := hv
  exact h A' c'
end
def QN (N : Nat) (z : Int) : Prop := 0 ≤ z ∧ z < (N : Int)
def RetDx (b : Nat) (R : Nat → Prop) (T ng no : Nat) (w : World) (e : Ending) (w' : World) : Prop :=
 ∃ (C : Ci) (A : Option Addr) (ca : Nat) (O : Option Addr) (co : Nat), e = .returned (.agg #[.int .i64 C.i0, .int .i64 C.i1, .slice A C.gs.length ca, .slice O C.os.length co]) ∧ OwnC w' w.heap.size w'.heap.size A C.gs.length ca O C.os.length co C.gs C.os ∧ (0 ≤ C.i0 ∧ C.i0 ≤ 3) ∧ (0 ≤ C.i1 ∧ C.i1 ≤ 3) ∧ C.gs.length ≤ ng ∧ C.os.length ≤ no ∧ circB C.i0 C.i1 C.gs C.os = true ∧ Cur w' b R T ∧ Alt (fun i => i = b) w w'
theorem RetDx.of_ {b lo bm T U ng no : Nat} {R : Nat → Prop} {w base w1 : World} {C : Ci} {A : Option Addr} {ca : Nat} {O : Option Addr} {co : Nat} (hp : PX w1 lo bm C A ca O co) (hlo : w.heap.size < lo) (hk : Alt (fun i => i = b) base w1) (hA : Below w.heap.size w base) (hbs : base.heap.size = w.heap.size + 1)
 (hu : Cur w1 b R U) (hU : U ≤ T) (hR : ∀ i, R i → i < w.heap.size) (hb : b < w.heap.size) (hx : 0 ≤ C.i0 ∧ C.i0 ≤ 3) (hy : 0 ≤ C.i1 ∧ C.i1 ≤ 3) (hn : C.gs.length ≤ ng) (ho : C.os.length ≤ no) (hc : circB C.i0 C.i1 C.gs C.os = true) :
 RetDx b R T ng no w (.returned (.agg #[.int .i64 C.i0, .int .i64 C.i1, .slice A C.gs.length ca, .slice O C.os.length co])) ((((w1.setCell ⟨w.heap.size, 0, none⟩ (.int .i64 C.i0)).setCell ⟨w.heap.size, 1, none⟩ (.int .i64 C.i1)).setCell ⟨w.heap.size, 2, none⟩ (.slice A C.gs.length ca)).setCell ⟨w.heap.size, 3, none⟩ (.slice O C.os.length co)) := by
 have hz := hk.size
 have h1 : Alt (fun i => i = b) w w1 := (Alt.of_new (S := fun i => i = b) hA).trans_ hk (fun _ _ h => h)
 have h2 := Zbh (Alt.refl_ (fun i => i = w.heap.size) w1) (fun _ => rfl) C.i0 C.i1 A C.gs.length ca O C.os.length co
 refine ⟨C, A, ca, O, co, rfl, ?_, hx, hy, hn, ho, hc, (hu.mono hU).alt h2 (by omega) (fun i hi h => by have := hR i hi; omega), Zbh h1 (fun h => absurd h (by omega)) _ _ _ _ _ _ _ _⟩
 rw [Zbr]
 exact (hp.ox.1.set4 (.inl hlo) _ _ _ _ _ _ _ _).lo_ (by omega)
theorem gv_snoc {x y : Int} {gs : List G3} {g : G3} (h : Hid (gatesB (x + y) gs gs.length = true)) (hg : gateB g (x + y + gs.length) = true) : Hid (gatesB (x + y) (gs ++ [g]) (gs ++ [g]).length = true) := zH (by
 rw [List.length_append, show ([g] : List G3).length = 1 from rfl, gatesB_succ]
 have h1 : gatesB (x + y) (gs ++ [g]) gs.length = true := by
  have h2 := h.out
  unfold gatesB at h2 ⊢
  rw [List.all_eq_true] at h2 ⊢
  intro i hi
  have hl := List.mem_range.1 hi
  have e : gg (gs ++ [g]) i = gg gs i := by unfold gg; rw [List.getD_eq_getElem?_getD, List.getD_eq_getElem?_getD, List.getElem?_append_left hl]
  rw [e]; exact h2 i hi
 have e : gg (gs ++ [g]) gs.length = g := by unfold gg; simp
 rw [h1, e, hg]; rfl)
theorem gv_one (n : Int) : gateB ⟨3, 0, 0⟩ n = true := by simp [gateB]
theorem gv_not {n : Int} {N v : Nat} (hN : Hid (n = (N : Int))) (h0 : ¬ N = 0) (hv : (v : Int) < (N : Int) ∨ v = 0) : gateB ⟨2, v, 0⟩ n = true := by
 have hi : inB 0 (n - 1) (v : Int) = true := inB_iff.2 (by have := hN.out; omega)
 simp [gateB, hi]
theorem gv_two {n : Int} {N u v : Nat} {k : Int} (hk : k = 0 ∨ k = 1) (hN : Hid (n = (N : Int))) (h0 : ¬ N = 0) (hu : (u : Int) < (N : Int) ∨ u = 0) (hv : (v : Int) < (N : Int) ∨ v = 0) : gateB ⟨k, u, v⟩ n = true := by
 have hi : inB 0 (n - 1) (u : Int) = true := inB_iff.2 (by have := hN.out; omega)
 have hj : inB 0 (n - 1) (v : Int) = true := inB_iff.2 (by have := hN.out; omega)
 unfold gateB
 rw [if_pos hk, hi, hj]; rfl
theorem cv_mk {x y : Int} {gs : List G3} {os : List Int} {N : Nat} (hx : 0 ≤ x ∧ x ≤ 3) (hy : 0 ≤ y ∧ y ≤ 3) (hg : gs.length ≤ 8) (ho : os.length ≤ 3) (hv : Hid (gatesB (x + y) gs gs.length = true)) (hN : Hid (x + y + (gs.length : Int) = (N : Int))) (hq : ∀ z ∈ os, QN N z) : circB x y gs os = true := by
 unfold circB
 rw [inB_iff.2 (show (0 : Int) ≤ x ∧ x ≤ 20 by omega), inB_iff.2 (show (0 : Int) ≤ y ∧ y ≤ 20 by omega), decide_eq_true (show gs.length ≤ 300 by omega), decide_eq_true (show os.length ≤ 40 by omega), hv.out, hN.out]
 simp only [Bool.true_and]
 exact allB_iff.2 fun z hz => by have := hq z hz; unfold QN at this; omega
set_option maxHeartbeats 4000000 in
theorem circuitV_any (b : Nat) (R : Nat → Prop) (T : Nat) (w : World) (h : Cur w b R T) (hT : T < 800000000) (hR : ∀ i, R i → i < w.heap.size) (hRb : ¬ R b) :
 Calls Tryz.prog 58 #[.pointer (some ⟨b, 0, none⟩)] w (RetDx b R (T + 1000) 8 3 w) := by
 have hA1 : Below w.heap.size w (w.alloc (.cells #[.int .i64 0, .int .i64 0, .slice none 0 0, .slice none 0 0] 27)) := bA
 have hr0 : BxC (w.alloc (.cells #[.int .i64 0, .int .i64 0, .slice none 0 0, .slice none 0 0] 27)) w.heap.size 0 0 none 0 0 none 0 0 := BxC.new w _
 have hb := h.lt
 have hc0 := h.alt (Alt.of_new (S := fun _ => False) hA1) (fun h => h) (fun _ _ h => h)
 have hs0 : (w.alloc (.cells #[.int .i64 0, .int .i64 0, .slice none 0 0, .slice none 0 0] 27)).heap.size = w.heap.size + 1 := by simp
 go_enter Tryz.func58, Tryz.ntmps58
 go_wp2_with fail
 refine (Zaj 4 b R _ _ hc0 (by omega) (by omega)).mono ?_
 rintro e a1 ⟨x, hx, hx2, rfl, c1, y1, s1⟩
 go_wp2_with fail
 refine (Zaj 4 b R _ _ c1 (by omega) (by omega)).mono ?_
 rintro e a2 ⟨y, hy, hy2, rfl, c2, y2, s2⟩
 have hs2 : a2.heap.size = w.heap.size + 1 := by omega
 go_wp2_with fail
 refine (ciNew_any x y _).mono ?_
 rintro e a3 ⟨rfl, rfl⟩
 have c3 := c2.alt (Alt.of_new (S := fun _ => False) ((Below.refl _ _).alloc lR (.cells #[.int .i64 x, .int .i64 y, .slice none 0 0, .slice none 0 0] 95))) (fun h => h) (fun _ _ h => h)
 have hp0 := PX.newV a2 (w.heap.size + 2) x y 95
 have ka := (((Alt.refl_ (fun i => i = b) (w.alloc (.cells #[.int .i64 0, .int .i64 0, .slice none 0 0, .slice none 0 0] 27))).trans_ y1 (fun _ _ h => h)).trans_ y2 (fun _ _ h => h)).alloc_ (.cells #[.int .i64 x, .int .i64 y, .slice none 0 0, .slice none 0 0] 95)
 have hs3 : (a2.alloc (.cells #[.int .i64 x, .int .i64 y, .slice none 0 0, .slice none 0 0] 95)).heap.size = w.heap.size + 2 := by simp; omega
 rw [hs2] at hp0 ⊢
 generalize a2.alloc (.cells #[.int .i64 x, .int .i64 y, .slice none 0 0, .slice none 0 0] 95) = a4 at *
 clear y1 y2 s1 s2 hs2 c1 c2
 go_wp2_with fail
 refine (Zaj 9 b R _ _ c3 (by omega) (by omega)).mono ?_
 rintro e a5 ⟨k, hk0, hk9, rfl, c5, y5, s5⟩
 have hp5 := hp0.alt y5 (by omega) (fun g hg => by omega)
 have kb := ka.trans_ y5 (fun _ _ h => h)
 clear hp0 y5 ka c3
 go_wp2
 go_loopw [4] (fun i wr => ∃ (j : Nat) (C : Ci) (A : Option Addr) (ca U : Nat), j ≤ 8 ∧ i = .int .i64 j ∧ PX wr (w.heap.size + 2) (w.heap.size + 1) C A ca none 0 ∧ C.os = [] ∧ (0 ≤ C.i0 ∧ C.i0 ≤ 3) ∧ (0 ≤ C.i1 ∧ C.i1 ≤ 3) ∧ C.gs.length + j ≤ 8 ∧ Hid (gatesB (C.i0 + C.i1) C.gs C.gs.length = true) ∧ Cur wr b R U ∧ U + 20 * j ≤ T + 300 ∧ Alt (fun i => i = b) (w.alloc (.cells #[.int .i64 0, .int .i64 0, .slice none 0 0, .slice none 0 0] 27)) wr) (fun i _ => (intOf i).toNat)
 case atStart => exact ⟨k, ⟨x, y, [], []⟩, none, 0, _, by omega, rfl, hp5, rfl, by simp; omega, by simp; omega, by simp; omega, zH rfl, c5, by omega, kb⟩
 case round =>
  obtain ⟨j, C, A, ca, U, hj, rfl, hp, hos, hx, hy, hn, hgv, hu, hU, hk⟩ := hrel
  clear hp5 c5 kb
  by_cases hj0 : j = 0
  ·subst hj0
   obtain ⟨N, hN⟩ : ∃ N : Nat, Hid (C.i0 + C.i1 + (C.gs.length : Int) = (N : Int)) := ⟨(C.i0 + C.i1 + (C.gs.length : Int)).toNat, zH (by omega)⟩
   have hNb : N ≤ 20 := by have := hN.out; omega
   have hq := hp.bx; obtain ⟨m0, m1, m2, m3⟩ := hq
   rw [hos] at m3
   have hz0 := hk.size
   have hz1 := hp.lt
   have hfz : ∀ q, (w.alloc (.cells #[.int .i64 0, .int .i64 0, .slice none 0 0, .slice none 0 0] 27)).frozen? ⟨w.heap.size, q, none⟩ = false := Fz.new w _ _
   go_wp2_with fail
   refine (Zba C.i0 C.i1 A C.gs.length ca none 0 0 _ (by omega) (by omega) (by omega)).mono ?_
   rintro e w1 ⟨rfl, hb1⟩
   rw [hN.out]
   have hz2 := hb1.size
   have hp1 := hp.below hb1 lR
   have hkk := hk.new_ hb1
   have u1 := hu.alt (Alt.of_new (S := fun _ => False) hb1) (fun h => h) (fun _ _ h => h)
   clear hp hk hu hb1 m0 m1 m2 m3
   have hq := hp1.bx; obtain ⟨m0, m1, m2, m3⟩ := hq
   rw [hos] at m3
   have hr9 := hr0.alt hkk (by omega)
   have hF : Fz w1 w.heap.size := Fz.alt hfz hkk (by omega) (by omega)
   have e0 := hF 0; have e1 := hF 1; have e2 := hF 2; have e3 := hF 3
   by_cases hN0 : N = 0
   ·subst hN0
    have hq := hr9; obtain ⟨r0, r1, r2, r3⟩ := hq
    have hp9 : PX w1 (w.heap.size + 2) (w.heap.size + 1) { C with os := [] } A ca none 0 := by rw [← hos]; exact hp1
    go_wp2
    have hq9 := BxC.set4 (hr9) C.i0 C.i1 A C.gs.length ca none 0 0
    obtain ⟨q0, q1, q2, q3⟩ := hq9
    refine bodyPost_ret (v := .agg #[.int .i64 C.i0, .int .i64 C.i1, .slice A C.gs.length ca, .slice none 0 0]) (by simp [results, Tryz.results58, go_sem, q0, q1, q2, q3]) rfl ?_
    exact RetDx.of_ hp9 (by omega) hkk hA1 hs0 u1 (by omega) hR hb hx hy (by simp; omega) (by simp) (cv_mk hx hy (by omega) (by simp) hgv hN (fun z hz => absurd hz (by simp)))
   ·have hN1 : ((N : Int) == 0) = false := by simp; omega
    clear hr9 hF e0 e1 e2 e3 m0 m1 m2 m3
    go_wp2_with fail
    refine (Zaj 3 b R _ _ u1 (by omega) (by omega)).mono ?_
    rintro e p2 ⟨v2, hv2, hw2, rfl, u2, k2, z2⟩
    have hp2 := hp1.alt k2 (by omega) (fun g hg => by omega)
    have q2 := hkk.trans_ k2 (fun _ _ h => h)
    clear hp1 hkk k2 u1
    go_wp2
    go_loopw [8] (fun i wr => ∃ (j : Nat) (os : List Int) (O : Option Addr) (co U : Nat), j ≤ 3 ∧ i = .int .i64 j ∧ PX wr (w.heap.size + 2) (w.heap.size + 1) { C with os := os } A ca O co ∧ os.length + j ≤ 3 ∧ Hid (∀ z ∈ os, QN N z) ∧ Cur wr b R U ∧ U + 20 * j ≤ T + 500 ∧ Alt (fun i => i = b) (w.alloc (.cells #[.int .i64 0, .int .i64 0, .slice none 0 0, .slice none 0 0] 27)) wr) (fun i _ => (intOf i).toNat)
    case atStart => exact ⟨1 + v2, [], none, 0, _, by omega, by go_num, by rw [← hos]; exact hp2, by simp; omega, zH (fun z hz => absurd hz (by simp)), u2, by omega, q2⟩
    case round =>
     obtain ⟨j, os, O, co, U, hj, rfl, hp, hol, hob, hu, hU, hk⟩ := hrel
     clear hp2 u2 q2
     by_cases hj0 : j = 0
     ·subst hj0
      have hr9 := hr0.alt hk (by omega)
      have hF : Fz wr w.heap.size := Fz.alt hfz hk (by omega) (by omega)
      have e0 := hF 0; have e1 := hF 1; have e2 := hF 2; have e3 := hF 3
      have hq := hr9; obtain ⟨r0, r1, r2, r3⟩ := hq
      have hq := hp.bx; obtain ⟨m0, m1, m2, m3⟩ := hq
      dsimp only at m0 m1 m2 m3
      go_wp2
      have hq9 := BxC.set4 (hr9) C.i0 C.i1 A C.gs.length ca O os.length co
      obtain ⟨q0, q1, q2, q3⟩ := hq9
      refine bodyPost_ret (v := .agg #[.int .i64 C.i0, .int .i64 C.i1, .slice A C.gs.length ca, .slice O os.length co]) (by simp [results, Tryz.results58, go_sem, q0, q1, q2, q3]) rfl ?_
      exact RetDx.of_ hp (by omega) hk hA1 hs0 hu (by omega) hR hb hx hy (by simp; omega) (by simp; omega) (cv_mk hx hy (by omega) (by omega) hgv hN hob.out)
     ·obtain ⟨j, rfl⟩ : ∃ m, j = m + 1 := ⟨j - 1, by omega⟩
      have hz3 := hk.size
      have hz4 := hp.lt
      have hq := hp.bx; obtain ⟨m0, m1, m2, m3⟩ := hq
      dsimp only at m0 m1 m2 m3
      have hlo5 : w.heap.size + 2 ≤ wr.heap.size := by omega
      have hO : ∀ g, (Value.slice O os.length co).ownBlock = some g → w.heap.size + 2 ≤ g ∧ g < wr.heap.size ∧ g ≠ w.heap.size + 1 := fun g hg => ⟨(hp.ox.1.2.1.lt g hg).1, (hp.ox.1.2.1.lt g hg).2.2, fun h => hp.ox.2.2 (h ▸ hg)⟩
      go_wp2_with fail
      go_wp2_with fail
      refine Zau (15) ((fun i => (i = b ∨ R i) ∨ (Value.slice O os.length co).ownBlock = some i)) [(⟨w.heap.size + 1, 3, none⟩, .slice O os.length co), (⟨w.heap.size + 1, 3, none⟩, .slice O os.length co)] [(10, [], []), (11, [101], [101]), (13, [], []), (14, [100, 13], [100])] [100, 101] [11, 14] [(100, Res.rowW (w.heap.size + 2) os.length (QN N)), (101, Res.cur wr b R U 1), (10, Res.plain (.int .i64 (min N 4))), (11, Res.cur wr b R (U + 2) (min N 4)), (13, Res.rowW (w.heap.size + 2) 1 (QN N)), (14, Res.rowW (w.heap.size + 2) (os.length + 1) (QN N))] ((upd (upd (fun _ => undef) 100 (.slice O os.length co)) 101 (.int .i64 (0 : Nat)))) (by kernel_rfl) (by kernel_rfl) (by kernel_rfl) (by simp only [cD, cC, and_true]; repeat (any_goals (apply And.intro)); all_goals (first | assumption | go_simp)) (fun q9 hq9 => by simp only [List.mem_cons, List.not_mem_nil, or_false, or_self] at hq9; subst hq9; rintro ((h | h) | h) <;> first | (have h' : w.heap.size + 1 = b := h; omega) | (have h' : w.heap.size + 1 < w.heap.size := hR _ h; omega) | exact (hO _ h).2.2 rfl) (⟨⟨⟨os, hp.ox.1.2.1, hob.out⟩, fun i hi => ⟨.inr (.inr hi), (hO i hi).2.1⟩⟩, ⟨⟨hu.alt ((Alt.refl_ (fun _ => False) wr).drewN_ 1) (fun h => h) (fun _ _ h => h), fun i hi => ⟨by have := hR i hi; show i < wr.heap.size; omega, rfl⟩⟩, fun i hi => ⟨.inr (.inl hi), hi.elim (fun h => h ▸ hu.lt) (fun h => by have := hR i h; show i < wr.heap.size; omega)⟩⟩, trivial⟩) ((fun d hd d' hd' hn c hc hc' => by simp only [List.mem_cons, List.not_mem_nil, or_false] at hd hd'; rcases hd with rfl | rfl <;> rcases hd' with rfl | rfl <;> first | exact hn rfl | (have h1 := hO c hc; rcases hc' with h2 | h2; (have h3 : c = b := h2; omega); (have h3 := hR c h2; omega)) | (have h1 := hO c hc'; rcases hc with h2 | h2; (have h3 : c = b := h2; omega); (have h3 := hR c h2; omega)))) ?_
      simp only [List.take_succ_cons, List.take_zero, List.drop_succ_cons, List.drop_zero, List.take_nil, List.drop_nil, List.take, List.drop]
      repeat (first
       | ((first
        | ((with_reducible refine Zad ?_ ?_ ?_)
           ·exact rfl
           ·exact rfl)
        | ((with_reducible refine Zag ?_ ?_ ?_)
           ·exact rfl
           ·exact Zaa rfl rfl rfl rfl))
          intro K hK
          apply Exists.intro
          refine ⟨fun w3 hw3 => ?_, ?_⟩
          ·have hcs := hw3
           simp only [cD, cC, and_true] at hcs
           clear hw3
           go_simp
           first | done | exact ⟨rfl, rfl⟩ | rfl
          refine hK _ ?_
          clear hK K
          try simp only [pA, pB, sA, sB, sC])
       | ((with_reducible refine Zaf ?_ ?_ ?_)
          ·exact rfl
          ·exact Zab rfl rfl rfl rfl
          simp only [pA, pB, sA, sB, sC]))
      focus
       (with_reducible refine Zbc (.int .i64 (min (N : Int) 4)) ?_ ?_ ?_ ?_ (hw := ?_))
       ·exact rfl
       ·exact rfl
       ·intro w3 hw3 hc3 hp3
        have hcs := hc3
        simp only [cD, cC, and_true] at hcs
        (go_simp; refine (least_any N 4 _).mono ?_; rintro e w4 ⟨rfl, rfl⟩; exact retPost.mk_ (postPlain.mk_ (Below.refl _ _)))
       rotate_left
       ·first | exact Zac rfl | exact Zaa rfl rfl rfl rfl
       try simp only [pA, pB, sA, sB, sC]
      refine mem_pick 101 b R U (U + 2) 1 (min (N : Int) 4) wr (.int .i64 (0 : Nat)) hRb (by rfl) (by rfl) (by rfl) (by rfl) (by decide) (by rfl) (fun w3 hw3 hc3 hu3 => ?_) (fun x9 hx9 => ?_)
      ·go_simp
       refine (Zaj _ b R U _ hu3 (by omega) (by omega)).mono ?_
       rintro e w4 ⟨v, hv, hw, rfl, c4, k4, z4⟩
       exact retPost.mk_ ⟨v, hv, rfl, c4, k4⟩
      try simp only [pA, pB, sA, sB, sC]
      have hx10 : x9 ≤ 4 := by omega
      repeat (first
       | ((first
        | ((with_reducible refine Zad ?_ ?_ ?_)
           ·exact rfl
           ·exact rfl)
        | ((with_reducible refine Zag ?_ ?_ ?_)
           ·exact rfl
           ·exact Zaa rfl rfl rfl rfl))
          intro K hK
          apply Exists.intro
          refine ⟨fun w3 hw3 => ?_, ?_⟩
          ·have hcs := hw3
           simp only [cD, cC, and_true] at hcs
           clear hw3
           go_simp
           first | done | exact ⟨rfl, rfl⟩ | rfl
          refine hK _ ?_
          clear hK K
          try simp only [pA, pB, sA, sB, sC])
       | ((with_reducible refine Zaf ?_ ?_ ?_)
          ·exact rfl
          ·exact Zab rfl rfl rfl rfl
          simp only [pA, pB, sA, sB, sC]))
      refine mem_rowW (w.heap.size + 2) 1 (QN N) (by rfl) (by rfl) hlo5 (fun w3 hw3 hc3 hp3 => ?_) (fun A3 c3' => ?_)
      ·go_simp
       exact ⟨_, postRow.new1 _ _, fun z hz => by rw [List.mem_singleton.1 hz]; unfold QN; rw [show IntKind.i64.wrap ((N : Int) - 1) = (N : Int) - 1 by rw [IntKind.wrap_i64] <;> omega, show IntKind.i64.wrap ((N : Int) - 1 - (x9 : Int)) = (N : Int) - 1 - (x9 : Int) by rw [IntKind.wrap_i64] <;> omega]; omega⟩
      try simp only [pA, pB, sA, sB, sC]
      refine mem_appW 100 13 (w.heap.size + 2) os.length 1 (QN N) O co A3 c3' (.tmp 86) (.tmp 94) (by rfl) (by rfl) hlo5 (by rfl) (by rfl) (by decide) (by rfl) (by rfl) (by decide) (by rfl) (by rfl) (by rfl) (by rfl) (by omega) (fun G' cG' => ?_)
      try simp only [pA, pB, sA, sB, sC]
      repeat (first
       | ((first
        | ((with_reducible refine Zad ?_ ?_ ?_)
           ·exact rfl
           ·exact rfl)
        | ((with_reducible refine Zag ?_ ?_ ?_)
           ·exact rfl
           ·exact Zaa rfl rfl rfl rfl))
          intro K hK
          apply Exists.intro
          refine ⟨fun w3 hw3 => ?_, ?_⟩
          ·have hcs := hw3
           simp only [cD, cC, and_true] at hcs
           clear hw3
           go_simp
           first | done | exact ⟨rfl, rfl⟩ | rfl
          refine hK _ ?_
          clear hK K
          try simp only [pA, pB, sA, sB, sC])
       | ((with_reducible refine Zaf ?_ ?_ ?_)
          ·exact rfl
          ·exact Zab rfl rfl rfl rfl
          simp only [pA, pB, sA, sB, sC]))
      refine Zat ?_
      intro wy hwy hcy hfin hap
      obtain ⟨xs, hO4, hQ4⟩ : ∃ xs, Own wy (w.heap.size + 2) wy.heap.size (.slice G' (os.length + 1) cG') (os.length + 1) xs ∧ ∀ z ∈ xs, QN N z := hfin.2.1.1
      have hC4 : Cur wy b R (U + 2) ∧ ∀ i, R i → i < wy.heap.size ∧ wy.heap[i]? = wr.heap[i]? := hfin.1.1
      have hok : ∀ g, (Value.slice G' (os.length + 1) cG').ownBlock = some g → okB wr (fun i => (i = b ∨ R i) ∨ (Value.slice O os.length co).ownBlock = some i) g := fun g hg => (hfin.2.1.2 g hg).1
      have k4 := alt_back hk hwy (fun i hi => by have := hO i hi; omega) (fun i hi => (hC4.2 i hi).2)
      have hxl : xs.length = os.length + 1 := hO4.len
      have hSbm : ¬ okB wr (fun i => (i = b ∨ R i) ∨ (Value.slice O os.length co).ownBlock = some i) (w.heap.size + 1) := fun hc => by
       rcases hc with h1 | (h1 | h1) | h1
       ·omega
       ·omega
       ·have := hR _ h1; omega
       ·exact (hO _ h1).2.2 rfl
      have p4 := hp.outE hwy hSbm (fun g hg hc => by
       have h9 := hp.ox.1.1.lt g hg
       rcases hc with h1 | (h1 | h1) | h1
       ·omega
       ·omega
       ·have := hR _ h1; omega
       ·exact hp.ox.1.2.2 g hg h1) hO4 hok
      have k5 := k4.set_ ⟨w.heap.size + 1, 3, none⟩ (.slice G' (os.length + 1) cG') (fun h => absurd h (by show ¬ w.heap.size + 1 < _; omega))
      have c5 := hC4.1.alt ((Alt.refl_ (fun i => i = w.heap.size + 1) wy).set_ ⟨w.heap.size + 1, 3, none⟩ (.slice G' (os.length + 1) cG') (fun _ => rfl)) (by omega) (fun i hi h => by have := hR i hi; omega)
      have hq := hp.bx.alt hwy hSbm; obtain ⟨m0, m1, m2, m3⟩ := hq
      have f3 := (hp.fz.alt hwy hp.lt hSbm) 3
      dsimp only at m0 m1 m2 m3
      clear hfin hap hcy hwy hok
      go_wp2
      go_roundw
      case rel => exact ⟨j, xs, G', cG', _, by omega, by go_num, by rw [← hxl] at p4 ⊢; exact p4, by omega, zH hQ4, c5, by omega, k5⟩
      case measure => simp [intOf] <;> omega
  ·obtain ⟨j, rfl⟩ : ∃ m, j = m + 1 := ⟨j - 1, by omega⟩
   obtain ⟨N, hN⟩ : ∃ N : Nat, Hid (C.i0 + C.i1 + (C.gs.length : Int) = (N : Int)) := ⟨(C.i0 + C.i1 + (C.gs.length : Int)).toNat, zH (by omega)⟩
   have hNb : N ≤ 20 := by have := hN.out; omega
   have hq := hp.bx; obtain ⟨m0, m1, m2, m3⟩ := hq
   rw [hos] at m3
   have hz0 := hk.size
   have hz1 := hp.lt
   have hbm : ¬ w.heap.size + 1 = b := by omega
   have hbg : ∀ g, w.heap.size + 2 ≤ g → ¬ g = b := fun g hg => by omega
   have hgA : ∀ g, (Value.slice A C.gs.length ca).ownBlock = some g → w.heap.size + 2 ≤ g := fun g hg => (hp.ox.1.1.lt g hg).1
   have hSb : ¬ (b = w.heap.size + 1 ∨ (Value.slice A C.gs.length ca).ownBlock = some b) := fun h => h.elim (fun h => by omega) (fun h => by have := hgA b h; omega)
   have hSR : ∀ i, R i → ¬ (i = w.heap.size + 1 ∨ (Value.slice A C.gs.length ca).ownBlock = some i) := fun i hi h => by have := hR i hi; exact h.elim (fun h => by omega) (fun h => by have := hgA i h; omega)
   go_wp2_with fail
   refine (Zba C.i0 C.i1 A C.gs.length ca none 0 0 _ (by omega) (by omega) (by omega)).mono ?_
   rintro e w1 ⟨rfl, hb1⟩
   rw [hN.out]
   have hp1 := hp.below hb1 lR
   have q1 := hk.new_ hb1
   have u1 := hu.alt (Alt.of_new (S := fun _ => False) hb1) (fun h => h) (fun _ _ h => h)
   have hz2 := hb1.size
   clear hp hk hu hb1 m0 m1 m2 m3
   go_wp2_with fail
   refine (Zaj 4 b R _ _ u1 (by omega) (by omega)).mono ?_
   rintro e p2 ⟨v2, hv2, hw2, rfl, u2, k2, z2⟩
   have hp2 := (hp1).alt k2 hbm hbg
   have q2 := (q1).trans_ k2 (fun _ _ h => h)
   have l2 := k2.size
   by_cases hN0 : N = 0
   ·subst hN0
    go_wp2_with fail
    refine (oneX_any (w.heap.size + 2) (w.heap.size + 1) C A ca none 0 _ hp2 (by omega) (by omega) (by omega) (by omega)).mono ?_
    rintro e wz ⟨A7, c7, rfl, hp7, k7, o7⟩
    have u7 := u2.alt k7 hSb hSR
    have q7 := q2.trans_ (S := fun i => i = b) k7 (fun i hi hT => hT.elim (fun h => by omega) (fun h => by have := hgA i h; omega))
    clear k7 o7
    go_wp2
    go_roundw
    case rel => exact ⟨j, _, A7, c7, _, by omega, by go_num, hp7, hos, hx, hy, by simp; omega, gv_snoc hgv (gv_one _), u7, by omega, q7⟩
    case measure => simp [intOf] <;> omega
   ·by_cases hv3 : v2 = 3
    ·subst hv3
     go_wp2_with fail
     refine (one_any 2 b R _ _ u2 (by omega) (by omega)).mono ?_
     rintro e p3 ⟨t3, rfl, u3, k3, z3⟩
     have hp3 := (hp2).alt k3 hbm hbg
     have q3 := (q2).trans_ k3 (fun _ _ h => h)
     have l3 := k3.size
     cases t3 with
     | true =>
      go_wp2_with fail
      refine (oneX_any (w.heap.size + 2) (w.heap.size + 1) C A ca none 0 _ hp3 (by omega) (by omega) (by omega) (by omega)).mono ?_
      rintro e wz ⟨A7, c7, rfl, hp7, k7, o7⟩
      have u7 := u3.alt k7 hSb hSR
      have q7 := q3.trans_ (S := fun i => i = b) k7 (fun i hi hT => hT.elim (fun h => by omega) (fun h => by have := hgA i h; omega))
      clear k7 o7
      go_wp2
      go_roundw
      case rel => exact ⟨j, _, A7, c7, _, by omega, by go_num, hp7, hos, hx, hy, by simp; omega, gv_snoc hgv (gv_one _), u7, by omega, q7⟩
      case measure => simp [intOf] <;> omega
     | false =>
      go_wp2_with fail
      refine (Zaj N b R _ _ u3 (by omega) (by omega)).mono ?_
      rintro e p4 ⟨v4, hv4, hw4, rfl, u4, k4, z4⟩
      have hp4 := (hp3).alt k4 hbm hbg
      have q4 := (q3).trans_ k4 (fun _ _ h => h)
      have l4 := k4.size
      go_wp2_with fail
      refine (Zaj N b R _ _ u4 (by omega) (by omega)).mono ?_
      rintro e p5 ⟨v5, hv5, hw5, rfl, u5, k5, z5⟩
      have hp5 := (hp4).alt k5 hbm hbg
      have q5 := (q4).trans_ k5 (fun _ _ h => h)
      have l5 := k5.size
      go_wp2_with fail
      refine (andX_any (w.heap.size + 2) (w.heap.size + 1) C A ca none 0 _ _ _ hp5 (by omega) (by omega) (by omega) (by omega)).mono ?_
      rintro e wz ⟨A7, c7, rfl, hp7, k7, o7⟩
      have u7 := u5.alt k7 hSb hSR
      have q7 := q5.trans_ (S := fun i => i = b) k7 (fun i hi hT => hT.elim (fun h => by omega) (fun h => by have := hgA i h; omega))
      clear k7 o7
      go_wp2
      go_roundw
      case rel => exact ⟨j, _, A7, c7, _, by omega, by go_num, hp7, hos, hx, hy, by simp; omega, gv_snoc hgv (gv_two (.inr rfl) hN hN0 hv4 hv5), u7, by omega, q7⟩
      case measure => simp [intOf] <;> omega
    ·by_cases hv4 : v2 = 2
     ·subst hv4
      go_wp2_with fail
      refine (Zaj N b R _ _ u2 (by omega) (by omega)).mono ?_
      rintro e p3 ⟨v3, hv3, hw3, rfl, u3, k3, z3⟩
      have hp3 := (hp2).alt k3 hbm hbg
      have q3 := (q2).trans_ k3 (fun _ _ h => h)
      have l3 := k3.size
      go_wp2_with fail
      refine (notX_any (w.heap.size + 2) (w.heap.size + 1) C A ca none 0 _ _ hp3 (by omega) (by omega) (by omega) (by omega)).mono ?_
      rintro e wz ⟨A7, c7, rfl, hp7, k7, o7⟩
      have u7 := u3.alt k7 hSb hSR
      have q7 := q3.trans_ (S := fun i => i = b) k7 (fun i hi hT => hT.elim (fun h => by omega) (fun h => by have := hgA i h; omega))
      clear k7 o7
      go_wp2
      go_roundw
      case rel => exact ⟨j, _, A7, c7, _, by omega, by go_num, hp7, hos, hx, hy, by simp; omega, gv_snoc hgv (gv_not hN hN0 hv3), u7, by omega, q7⟩
      case measure => simp [intOf] <;> omega
     ·by_cases hv5 : v2 = 0
      ·subst hv5
       go_wp2_with fail
       refine (Zaj N b R _ _ u2 (by omega) (by omega)).mono ?_
       rintro e p3 ⟨v3, hv3, hw3, rfl, u3, k3, z3⟩
       have hp3 := (hp2).alt k3 hbm hbg
       have q3 := (q2).trans_ k3 (fun _ _ h => h)
       have l3 := k3.size
       go_wp2_with fail
       refine (Zaj N b R _ _ u3 (by omega) (by omega)).mono ?_
       rintro e p4 ⟨v4, hv4, hw4, rfl, u4, k4, z4⟩
       have hp4 := (hp3).alt k4 hbm hbg
       have q4 := (q3).trans_ k4 (fun _ _ h => h)
       have l4 := k4.size
       go_wp2_with fail
       refine (xorX_any (w.heap.size + 2) (w.heap.size + 1) C A ca none 0 _ _ _ hp4 (by omega) (by omega) (by omega) (by omega)).mono ?_
       rintro e wz ⟨A7, c7, rfl, hp7, k7, o7⟩
       have u7 := u4.alt k7 hSb hSR
       have q7 := q4.trans_ (S := fun i => i = b) k7 (fun i hi hT => hT.elim (fun h => by omega) (fun h => by have := hgA i h; omega))
       clear k7 o7
       go_wp2
       go_roundw
       case rel => exact ⟨j, _, A7, c7, _, by omega, by go_num, hp7, hos, hx, hy, by simp; omega, gv_snoc hgv (gv_two (.inl rfl) hN hN0 hv3 hv4), u7, by omega, q7⟩
       case measure => simp [intOf] <;> omega
      ·have g3 : ((v2 : Int) == 3) = false := by simp; omega
       have g2 : ((v2 : Int) == 2) = false := by simp; omega
       have g0 : ((v2 : Int) == 0) = false := by simp; omega
       go_wp2_with fail
       refine (Zaj N b R _ _ u2 (by omega) (by omega)).mono ?_
       rintro e p3 ⟨v3, hv3, hw3, rfl, u3, k3, z3⟩
       have hp3 := (hp2).alt k3 hbm hbg
       have q3 := (q2).trans_ k3 (fun _ _ h => h)
       have l3 := k3.size
       go_wp2_with fail
       refine (Zaj N b R _ _ u3 (by omega) (by omega)).mono ?_
       rintro e p4 ⟨v4, hv4, hw4, rfl, u4, k4, z4⟩
       have hp4 := (hp3).alt k4 hbm hbg
       have q4 := (q3).trans_ k4 (fun _ _ h => h)
       have l4 := k4.size
       go_wp2_with fail
       refine (andX_any (w.heap.size + 2) (w.heap.size + 1) C A ca none 0 _ _ _ hp4 (by omega) (by omega) (by omega) (by omega)).mono ?_
       rintro e wz ⟨A7, c7, rfl, hp7, k7, o7⟩
       have u7 := u4.alt k7 hSb hSR
       have q7 := q4.trans_ (S := fun i => i = b) k7 (fun i hi hT => hT.elim (fun h => by omega) (fun h => by have := hgA i h; omega))
       clear k7 o7
       go_wp2
       go_roundw
       case rel => exact ⟨j, _, A7, c7, _, by omega, by go_num, hp7, hos, hx, hy, by simp; omega, gv_snoc hgv (gv_two (.inr rfl) hN hN0 hv3 hv4), u7, by omega, q7⟩
       case measure => simp [intOf] <;> omega
end Go.Proofs.YtnhmfedegfcflaaGreatDoor
namespace Go.Proofs.YtnhmfedegfcflaaGreatDoor
open Go.RowKit
set_option linter.unusedVariables false
set_option linter.unusedSimpArgs false
def RetR (w : World) (zs : List Int) (e : Ending) (w' : World) : Prop := ∃ A c, e = .returned (.slice A zs.length c) ∧ RI w' A zs.length zs ∧ Below w.heap.size w w'
theorem ciParts_t (g : G3) (hg : GSm g) (w : World) :
 Calls Tryz.prog 82 #[.agg #[.int .i64 g.k, .int .i64 g.a, .int .i64 g.b]] w (RetR w (prtT g)) := by
 have hB : Below w.heap.size w (w.alloc (.cells #[.int .i64 g.k, .int .i64 g.a, .int .i64 g.b] 49)) := bA
 obtain ⟨gk, ga, gb⟩ := g
 obtain ⟨⟨hk0, hk1⟩, _, _⟩ := hg
 dsimp only at hB hk0 hk1
 have hk : gk = 0 ∨ gk = 1 ∨ gk = 2 ∨ gk = 3 := by omega
 rcases hk with rfl | rfl | rfl | rfl
 ·have HP : Hid (prtT ⟨0, ga, gb⟩ = [ga, gb]) := zH rfl
  rw [HP.out]
  go_enter Tryz.func82, Tryz.ntmps82
  go_wp2
  go_ret
  exact ⟨_, _, rfl, by simpa using RI_new2 (w.alloc (.cells #[.int .i64 0, .int .i64 ga, .int .i64 gb] 49)) ga gb _, hB.alloc (by simp) _⟩
 ·have HP : Hid (prtT ⟨1, ga, gb⟩ = [ga, gb]) := zH rfl
  rw [HP.out]
  go_enter Tryz.func82, Tryz.ntmps82
  go_wp2
  go_ret
  exact ⟨_, _, rfl, by simpa using RI_new2 (w.alloc (.cells #[.int .i64 1, .int .i64 ga, .int .i64 gb] 49)) ga gb _, hB.alloc (by simp) _⟩
 ·have HP : Hid (prtT ⟨2, ga, gb⟩ = [ga]) := zH rfl
  rw [HP.out]
  go_enter Tryz.func82, Tryz.ntmps82
  go_wp2
  go_ret
  exact ⟨_, _, rfl, by simpa using RI_new1 (w.alloc (.cells #[.int .i64 2, .int .i64 ga, .int .i64 gb] 49)) ga _, hB.alloc (by simp) _⟩
 ·have HP : Hid (prtT ⟨3, ga, gb⟩ = []) := zH rfl
  rw [HP.out]
  go_enter Tryz.func82, Tryz.ntmps82
  go_wp2
  go_ret
  exact ⟨_, _, rfl, RI_none _, hB⟩
theorem Num_any (n : Int) (h0 : 0 ≤ n) (h1 : n ≤ 1000000) (w : World) :
 Calls Tryz.prog 81 #[.int .i64 n] w fun e w' => e = .returned (.string (bs (Lib.itoa n))) ∧ Below w.heap.size w w' := l1Num_any (n.toNat + 1) n h0 h1 (by omega) w
theorem gw_at {k : Nat} (h : k ≤ 3) : (#[Value.string ⟨#[120, 111, 114]⟩, .string ⟨#[97, 110, 100]⟩, .string ⟨#[110, 111, 116]⟩, .string ⟨#[111, 110, 101]⟩] : Array Value)[k]? = some (.string (bs (gwL k))) := by
 have h : k = 0 ∨ k = 1 ∨ k = 2 ∨ k = 3 := by omega
 rcases h with rfl | rfl | rfl | rfl <;> rfl
set_option maxRecDepth 100000 in
set_option maxHeartbeats 4000000 in
theorem ciText_any (x y : Int) (Ag : Option Addr) (ng cg : Nat) (Ao : Option Addr) (no co : Nat) (gs : List G3) (os : List Int) (w : World) (hr : RG w Ag ng gs ∧ RI w Ao no os) (h1 : circB x y gs os = true) :
 Calls Tryz.prog 57 #[.agg #[.int .i64 x, .int .i64 y, .slice Ag ng cg, .slice Ao no co]] w fun e w' => e = .returned (.string (bs (circT x y gs os))) ∧ Below w.heap.size w w' := by
 have hlg := hr.1.len
 have hlo := hr.2.len
 have hB : Below w.heap.size w (w.alloc (.cells #[.int .i64 x, .int .i64 y, .slice Ag ng cg, .slice Ao no co] 27)) := bA
 have hx0 : BxC (w.alloc (.cells #[.int .i64 x, .int .i64 y, .slice Ag ng cg, .slice Ao no co] 27)) w.heap.size x y Ag ng cg Ao no co := BxC.new w _
 have hbd := Zao h1
 have hgsm := circB_gsm h1
 have hosm := circB_osm h1
 have hxy : smallN [x, y] := fun n hn => by
  simp only [List.mem_cons, List.not_mem_nil, or_false] at hn
  rcases hn with rfl | rfl <;> omega
 obtain ⟨hx, hy, hn3, ho4, _, _⟩ := hbd
 clear h1
 have hxl := Zcr hx.1 (by omega)
 have hyl := Zcr hy.1 (by omega)
 rw [← Zbd] at hxl hyl
 have hd : Hid (((((⟨#[99, 105, 114, 99, 117, 105, 116, 32]⟩ : ByteArray) ++ bs (Lib.itoa x)) ++ ⟨#[32]⟩) ++ bs (Lib.itoa y)) ++ ⟨#[10]⟩ = bs (lineL [99, 105, 114, 99, 117, 105, 116] [x, y] ++ gatesT (gs.take 0))) := zH (by
  show (((bs [99, 105, 114, 99, 117, 105, 116, 32] ++ bs (Lib.itoa x)) ++ bs [32]) ++ bs (Lib.itoa y)) ++ bs [10] = _
  simp only [Zbb]
  simp [lineL, numsL, gatesT])
 go_enter Tryz.func57, Tryz.ntmps57
 go_wp2_with fail
 refine Zai (w.heap.size + 1) (w.alloc (.cells #[.int .i64 x, .int .i64 y, .slice Ag ng cg, .slice Ao no co] 27)) [(⟨w.heap.size, 0, none⟩, .int .i64 x), (⟨w.heap.size, 1, none⟩, .int .i64 y)] (by kernel_rfl) (by kernel_rfl) (by simp only [List.mem_cons, forall_eq_or_imp, List.not_mem_nil, false_implies, implies_true, and_true]; repeat (any_goals (apply And.intro)); all_goals (first | assumption | go_simp)) ?_
 repeat (first
  | go_big_quiet_skip
  | (go_big_quiet_want
     apply Exists.intro
     refine ⟨fun w3 hw3 => ?_, ?_⟩
     ·have hcs := hw3.2
      simp only [List.mem_cons, forall_eq_or_imp, List.not_mem_nil, false_implies, implies_true, and_true] at hcs
      simp only [Oper.quietAt]
      go_simp
      first | done | exact ⟨rfl, rfl⟩ | rfl | (first | (rw [if_neg (by omega)]; exact ⟨rfl, rfl⟩) | (rw [if_neg]; all_goals first | exact ⟨rfl, rfl⟩ | omega) | (with_reducible refine (Num_any x hx.1 (by omega) _).mono ?_; rintro e w4 ⟨rfl, hb4⟩; exact ⟨rfl, hw3.next hb4 (by simp)⟩) | (with_reducible refine (Num_any y hy.1 (by omega) _).mono ?_; rintro e w4 ⟨rfl, hb4⟩; exact ⟨rfl, hw3.next hb4 (by simp)⟩))
     go_big_quiet_on
     try simp only [pA, pB, sA, sB, sC]))
 refine wpQuiet_nil ?_
 intro wq hwq
 have hbq := hB.trans (hwq.1.mono (by omega))
 have hxq := hx0.below (hwq.1.mono (by simp))
 clear hwq
 have hq := hxq; obtain ⟨q0, q1, q2, q3⟩ := hq
 have hls : (lineL [99, 105, 114, 99, 117, 105, 116] [x, y]).length ≤ 60 := by have := Zcl (wd := [99, 105, 114, 99, 117, 105, 116]) hxy; simp at this; omega
 go_wp2
 go_loopw [3, 23] (fun s i wr => ∃ (k : Nat) (sb : ByteArray), k ≤ ng ∧ i = .int .i64 k ∧ s = .string sb ∧ Hid (sb = bs (lineL [99, 105, 114, 99, 117, 105, 116] [x, y] ++ gatesT (gs.take k))) ∧ BxC wr w.heap.size x y Ag ng cg Ao no co ∧ Below w.heap.size w wr) (fun _ i _ => ng - (intOf i).toNat)
 case atStart => exact ⟨0, _, Nat.zero_le _, rfl, rfl, hd, hxq, hbq⟩
 case round =>
  clear hxq hbq q0 q1 q2 q3
  obtain ⟨k, sb, hk, rfl, rfl, hsb, hxr, hb⟩ := hrel
  have hsz : sb.size ≤ 60 + 60 * k := by
   rw [hsb.out, Zbd, List.length_append]
   have h1 := Zcm hgsm k (by omega)
   omega
  by_cases hlt : k < ng
  ·obtain ⟨b, o, rfl, hbB, c0, c1, c2⟩ := (hr.1.below hb lR).at_ hlt
   have hgk := hgsm k (by omega)
   have hsn : Hid (gatesT (gs.take (k + 1)) = gatesT (gs.take k) ++ gateT (gg gs k)) := zH (gatesT_snoc (by omega))
   obtain ⟨g, hg⟩ := lT (gg gs k)
   rw [hg.out] at c0 c1 c2 hgk hsn
   obtain ⟨gk, ga, gb⟩ := g
   dsimp only at c0 c1 c2
   obtain ⟨kk, rfl⟩ : ∃ kk : Nat, gk = (kk : Int) := ⟨gk.toNat, by have := hgk.k; dsimp only at this; omega⟩
   have hk3 : kk ≤ 3 := by have := hgk.k; dsimp only at this; omega
   have hgw := gw_at hk3
   have hgz : (bs (gwL kk)).size = 3 := by rw [Zbd]; exact gwL_len kk
   obtain ⟨ps, hpe⟩ := lT (prtT ⟨(kk : Int), ga, gb⟩)
   have hgT : Hid (gateT ⟨(kk : Int), ga, gb⟩ = gwL kk ++ numsL ps ++ [10]) := zH (by unfold gateT lineL; rw [hpe.out]; rfl)
   have hps := prtT_small hgk
   have hpl := prtT_len ⟨(kk : Int), ga, gb⟩
   have hpc := ciParts_t ⟨(kk : Int), ga, gb⟩ hgk
   rw [hpe.out] at hps hpl hpc
   clear hgk
   have hA4 : Below wr.heap.size wr ((wr.alloc (.cells #[.int .i64 (kk : Int), .int .i64 ga, .int .i64 gb] 49)).alloc (.cells #[.string ⟨#[120, 111, 114]⟩, .string ⟨#[97, 110, 100]⟩, .string ⟨#[110, 111, 116]⟩, .string ⟨#[111, 110, 101]⟩] 9)) := (bA).alloc (by simp) _
   go_wp2_with fail
   refine (hpc _).mono ?_
   rintro e w4 ⟨Ap, cp, rfl, hp4, hb4⟩
   have hB4 := hb.trans ((hA4.trans (hb4.mono hA4.size)).mono hb.size)
   have hx4 := (hxr.below hA4).below hb4
   clear hA4 hb4 hxr hpc
   have hlp := hp4.len
   go_wp2
   go_loopw [3, 37] (fun s i w5 => ∃ (j : Nat) (sc : ByteArray), j ≤ ps.length ∧ i = .int .i64 j ∧ s = .string sc ∧ Hid (sc = bs (lineL [99, 105, 114, 99, 117, 105, 116] [x, y] ++ gatesT (gs.take k) ++ gwL kk ++ numsL (ps.take j))) ∧ BxC w5 w.heap.size x y (some ⟨b, o, none⟩) ng cg Ao no co ∧ RI w5 Ap ps.length ps ∧ Below w.heap.size w w5) (fun _ i _ => ps.length - (intOf i).toNat)
   case atStart => exact ⟨0, _, Nat.zero_le _, rfl, rfl, zH (by rw [hsb.out, Zbb, List.take_zero, numsL_nil, List.append_nil]), hx4, hp4, hB4⟩
   case round =>
    clear hx4 hp4 hB4
    obtain ⟨j, sc, hj, rfl, rfl, hsc, hx5, hp5, hb5⟩ := hrel
    have hsz2 : sc.size ≤ 60 + 60 * k + 3 + 22 * j := by
     rw [hsc.out, Zbd, List.length_append, List.length_append, List.length_append, gwL_len]
     have h1 := Zcm hgsm k (by omega)
     have h2 := numsL_len (smallN_take hps j)
     have h3 : (ps.take j).length ≤ j := by simp; omega
     omega
    by_cases hlj : j < ps.length
    ·obtain ⟨b6, o6, rfl, hb6, d1⟩ := hp5.at_ hlj
     have hgi := hps _ (gi_mem (xs := ps) (j := j) (by omega))
     have hi := Zcr hgi.1 hgi.2
     rw [← Zbd] at hi
     go_wp2_with fail
     refine (Num_any (gi ps j) hgi.1 hgi.2 _).mono ?_
     rintro e w6 ⟨rfl, hb6'⟩
     have hnx : Hid (sc ++ (bs [32] ++ bs (Lib.itoa (gi ps j))) = bs (lineL [99, 105, 114, 99, 117, 105, 116] [x, y] ++ gatesT (gs.take k) ++ gwL kk ++ numsL (ps.take (j + 1)))) := zH (by
      rw [hsc.out, take_snoc_gi (by omega), numsL_snoc, Zbb, Zbb]; simp)
     have hx6 := hx5.below hb6'
     have hp6 := hp5.below hb6' lR
     have hB6 := hb5.trans (hb6'.mono hb5.size)
     go_wp2
     go_roundw
     case rel => exact ⟨j + 1, _, by omega, by go_num, rfl, hnx, hx6, hp6, hB6⟩
     case measure => simp [intOf]; omega
    ·obtain rfl : j = ps.length := Nat.le_antisymm hj (Nat.le_of_not_lt hlj)
     have hnx : Hid (sc ++ bs [10] = bs (lineL [99, 105, 114, 99, 117, 105, 116] [x, y] ++ gatesT (gs.take (k + 1)))) := zH (by
      rw [hsc.out, hsn.out, hgT.out, Zbb, List.take_length]; simp)
     go_wp2
     go_roundw
     case rel => exact ⟨k + 1, _, by omega, by go_num, rfl, hnx, hx5, hb5⟩
     case measure => simp [intOf]; omega
  ·obtain rfl : ng = k := by omega
   have hq := hxr; obtain ⟨q0, q1, q2, q3⟩ := hq
   go_wp2
   go_loopw [3, 55] (fun s i w5 => ∃ (j : Nat) (sc : ByteArray), j ≤ no ∧ i = .int .i64 j ∧ s = .string sc ∧ Hid (sc = bs (lineL [99, 105, 114, 99, 117, 105, 116] [x, y] ++ gatesT gs ++ [111, 117, 116, 115] ++ numsL (os.take j))) ∧ Below w.heap.size w w5) (fun _ i _ => no - (intOf i).toNat)
   case atStart => exact ⟨0, _, Nat.zero_le _, rfl, rfl, zH (by
    show sb ++ bs [111, 117, 116, 115] = _
    rw [hsb.out, Zbb, List.take_zero, numsL_nil, List.append_nil, List.take_of_length_le (by omega)]), hb⟩
   case round =>
    clear hxr hb q0 q1 q2 q3
    obtain ⟨j, sc, hj, rfl, rfl, hsc, hb5⟩ := hrel
    have hsz2 : sc.size ≤ 60 + 60 * gs.length + 4 + 22 * j := by
     rw [hsc.out, Zbd, List.length_append, List.length_append, List.length_append]
     have h1 := Zcm hgsm gs.length (by omega)
     rw [List.take_length] at h1
     have h2 := numsL_len (smallN_take hosm j)
     have h3 : (os.take j).length ≤ j := by simp; omega
     simp only [List.length_cons, List.length_nil]
     omega
    by_cases hlj : j < no
    ·obtain ⟨b6, o6, rfl, hb6, d1⟩ := (hr.2.below hb5 lR).at_ hlj
     have hgi := hosm _ (gi_mem (xs := os) (j := j) (by omega))
     have hi := Zcr hgi.1 hgi.2
     rw [← Zbd] at hi
     go_wp2_with fail
     refine (Num_any (gi os j) hgi.1 hgi.2 _).mono ?_
     rintro e w6 ⟨rfl, hb6'⟩
     have hnx : Hid (sc ++ (bs [32] ++ bs (Lib.itoa (gi os j))) = bs (lineL [99, 105, 114, 99, 117, 105, 116] [x, y] ++ gatesT gs ++ [111, 117, 116, 115] ++ numsL (os.take (j + 1)))) := zH (by
      rw [hsc.out, take_snoc_gi (by omega), numsL_snoc, Zbb, Zbb]; simp)
     have hB6 := hb5.trans (hb6'.mono hb5.size)
     go_wp2
     go_roundw
     case rel => exact ⟨j + 1, _, by omega, by go_num, rfl, hnx, hB6⟩
     case measure => simp [intOf]; omega
    ·obtain rfl : no = j := by omega
     have hfin : Hid (sc ++ bs [10] = bs (circT x y gs os)) := zH (by
      rw [hsc.out, Zbb, List.take_of_length_le (by omega)]; simp [circT, lineL])
     go_wp2
     go_ret
     exact ⟨by rw [← hfin.out]; rfl, hb5⟩
end Go.Proofs.YtnhmfedegfcflaaGreatDoor
