/- The walk of the law FnCandidates: whatever its arguments read as, it returns true and leaves what was there. No condition. -/
import Derived.Test.YtenknpcbbcbciaaGreatQS48
namespace Go.Proofs.YtenknpcbbcbciaaGreat.lawFnCandidates
open Go.RowKit
set_option linter.unusedVariables false
set_option linter.unusedSimpArgs false
attribute [local go_sem] sepAt sepUpon pureAt pureUpon
theorem sameB_rf (xs : List Int) : sameB xs xs = true := by
 unfold sameB
 simp
theorem qInts_bl (A B : Option Addr) (n c d : Nat) (xs : List Int) (w : World) (ha : RI w A n xs) (hb : RI w B n xs) (hn : n ≤ 2097152) :
 Calls Tryz.prog 15 #[.slice A n c, .slice B n d] w fun e w' => e = .returned (.bool true) ∧ Below w.heap.size w w' := by
 refine (qInts_any A B n c n d xs xs w ha hb hn hn).mono ?_
 rintro e w' ⟨rfl, j, rfl⟩
 rw [sameB_rf]
 exact ⟨rfl, Zai j⟩
theorem RetO.letters {w w' : World} {o : Option (List Int)} {vs : List Int} {t : Bool} {e : Ending} (hv : o.getD [] = vs) (ht : o.isSome = t) (h : RetO w o e w') :
 ∃ A c, e = .returned (.tuple #[.slice A vs.length c, .bool t]) ∧ RI w' A vs.length vs ∧ vs.length ≤ c ∧ Below w.heap.size w w' := by
 subst hv; subst ht
 obtain ⟨A, c, h1, h2, h3⟩ := h
 exact ⟨A, c, h1, h2.reads, h2.capLe, h3⟩
theorem opt_letters {α : Type} {o : Option α} {d v : α} (hv : o.getD d = v) (ht : o.isSome = true) : o = some v := by
 cases o with
 | none => simp at ht
 | some x => rw [Option.getD_some] at hv; rw [hv]
theorem spec_InputWidths_ok (A : Option Addr) (n c : Nat) (l : List Ln) (w : World) (ha : RLn w A n l) (hn : n ≤ 2097152) (hcap : n ≤ c) (hsh : ∀ x ∈ l, shortL x) (hg : goodP l) :
 Calls Tryz.prog 28 #[.slice A n c, .int .i64 0] w (RetO w (some (insL l 0))) := by
 go_enter Tryz.func28, Tryz.ntmps28
 go_wp2_with fail
 refine (Zdb A n c l _ ha hn hcap hsh).mono ?_
 rintro e w1 ⟨rfl, b1⟩
 rw [decide_eq_true hg]
 go_wp2_with fail
 refine (Zau 0 0 1 true (by decide) _).mono ?_
 rintro e w2 ⟨rfl, rfl⟩
 go_wp2_with fail
 refine (Zbc A n c 0 l _ (ha.below b1 lR) hn).mono ?_
 rintro e w3 ⟨A3, c3, rfl, p3, b3⟩
 go_wp2
 go_ret2
 exact RetO.some_ (b1.trans (b3.mono b1.size)) rfl rfl rfl (p3.lo_ b1.size)
theorem cdl_law {l : List Ln} {rs : List Int} {cn : Int} (h : cfF l rs = some cn) : ∃ (ws : List Int) (f : Nat → Int) (X : Nat), Hid (insL l 0 = ws) ∧ goodP l ∧ ws.length ≤ 30 ∧ (∀ z ∈ ws, 1 ≤ z ∧ z ≤ 10) ∧ Hid (sumI ws = X) ∧ X ≤ 20 ∧
 Hid (∀ k, ∃ C, cdF l 0 (digK ws k ws.length) rs = some C ∧ (C.length : Int) = f k) ∧ Hid (sumK f (2 ^ X) = cn) ∧ Hid (∀ k, 0 ≤ f k ∧ f k ≤ 1024) ∧
 Hid ((if inB 0 1 (0 : Int) = true then byO (fun x => decide (x.kind = 1) && decide (x.party = 0)) l else none) = some ws) ∧ Hid (∀ k, k ≤ ws.length → 0 ≤ sumI (ws.take k) ∧ sumI (ws.take k) ≤ 1000000) ∧ Hid (∀ j, j < ws.length → offs ws (j + 1) = offs ws j + (gi ws j).toNat) := by
 obtain ⟨hg, hcd, hsum, h0⟩ := cd_law h
 have hb := Zbz hg.2.1 0
 have hl := Zbx l 0
 have hg3 := hg.2.2.1
 refine ⟨insL l 0, cdN l rs, (sumI (insL l 0)).toNat, zH rfl, hg, by have := hg.1; omega, hb, zH (by omega), by omega, zH (fun k => ⟨_, hcd k, rfl⟩), zH hsum, zH (fun k => ?_), zH ?_, zH (fun k hk => ?_), zH (fun j hj => Zce hb hj)⟩
 ·have := cdF_len l 0 (digK (insL l 0) k (insL l 0).length) rs
  unfold cdN
  omega
 ·rw [if_pos (by decide), byO_in, if_pos hg]
 ·have h9 := Zeb (M := 10) (fun z hz => by have := hb z hz; omega) k hk
  have : ((10 : Nat) : Int) * (k : Nat) ≤ 10 * 30 := by have := hg.1; omega
  omega
theorem oper_val {P : Program} {o : Oper} {a : Act} {w : World} {K : Act → World → Prop} {Q : Exit → Act → World → Prop} {v : Value} (h : (execOp a.eval o).run P w = .ok (.value v) w) (hk : K (a.put o.dst v) w) : Oper.wp P o a w K Q := by
 unfold Oper.wp; rw [h]; exact hk
theorem shr_run {P : Program} {o : Oper} {a : Act} {w : World} {t t2 : TypeId} {x y : Operand} {q u v : Int} (ho : o.op = .binOp .shr t x y t2) (hx : a.eval x = .int .i64 q) (hy : a.eval y = .int .u64 u) (h0 : 0 ≤ u) (h1 : u ≤ 64) (hv : q / 2 ^ u.toNat = v) : (execOp a.eval o).run P w = .ok (.value (.int .i64 v)) w := by
 unfold execOp
 simp only [ho, hx, hy, eqGuard_shr, binOp_shr, shift_shr .i64 .u64 q u h0 h1, Sem.run_bind, Sem.run_pure, Result.andThen_ok, hv]
theorem dig_div {k a b : Nat} : k / 2 ^ a / 2 ^ b = k / 2 ^ (a + b) := by rw [Nat.div_div_eq_div_mul, ← Nat.pow_add]
set_option maxRecDepth 100000 in
set_option maxHeartbeats 80000000 in
theorem walk (Y : Option Addr) (n c : Nat) (Z : Option Addr) (m d : Nat) (w : World) (hY0 : RY0 w Y n) (hn : n ≤ 140737488355328) (hZ0 : RY0 w Z m) (hm : m ≤ 140737488355328) :
 Calls Tryz.prog 4 #[.slice Y n c, .slice Z m d] w fun e w' => e = .returned (.bool true) ∧ Below w.heap.size w w' := by
 have hwr : IntKind.i64.wrap ((n : Int) + m) = (n : Int) + m := by rw [IntKind.wrap_i64] <;> omega
 by_cases hs : (1048576 : Int) < (n : Int) + m
 ·go_enter Tryz.func4, Tryz.ntmps4
  go_wp2
  go_ret
  exact ⟨rfl, Below.refl _ _⟩
 ·have hnm : n + m ≤ 1048576 := by omega
  have hY : RY w Y n := hY0.ry (by omega)
  have hZ : RY w Z m := hZ0.ry (by omega)
  go_enter Tryz.func4, Tryz.ntmps4
  go_wp2_with fail
  refine (DrawCountInputsFor_any Y n c w hY).mono ?_
  rintro e a1 ⟨l, A0, X0, k0, d0, n0, e0, rs, rfl, r0, p0, x0, cp0, hn0, bD2⟩
  have B_3 := bD2
  clear hY
  have hk0 := p0.n40
  have hk0b : k0 ≤ 2097152 := by omega
  obtain ⟨cn, hcn⟩ : ∃ q9, (cfF l rs).getD 0 = q9 := ⟨_, rfl⟩
  obtain ⟨cb, hcb⟩ : ∃ q9, (cfF l rs).isSome = q9 := ⟨_, rfl⟩
  have HCN := zH hcn; have HCB := zH hcb
  clear hcn hcb
  go_wp2_with fail
  refine (CountInputsFor_any A0 X0 k0 d0 n0 e0 l rs _ r0 hk0b p0.cap p0.sh x0 (by omega)).mono ?_
  rintro e a4 ⟨he, b5⟩
  rw [HCN.out, HCB.out] at he
  subst he
  have r0_6 := r0.below b5 lR
  have x0_7 := x0.below b5 lR
  have B_8 := B_3.trans (b5.mono B_3.size)
  clear r0 x0 B_3
  go_wp2_with fail
  refine (Zew A0 X0 k0 d0 n0 e0 l rs _ r0_6 hk0b p0.cap p0.sh x0_7 (by omega)).mono ?_
  rintro e a9 ⟨he, b10⟩
  rw [HCN.out, HCB.out] at he
  subst he
  have r0_11 := r0_6.below b10 lR
  have x0_12 := x0_7.below b10 lR
  have B_13 := B_8.trans (b10.mono B_8.size)
  clear r0_6 x0_7 B_8
  go_wp2_with fail
  have hZ14 : RY a9 Z m := hZ.alt (Alt.of_new (S := fun _ => False) B_13) (fun _ _ _ _ h => h)
  refine (DrawCandidatesFor_any Z m d _ hZ14).mono ?_
  rintro e a15 ⟨p, A3, X3, X4, k3, d3, n3, e3, n4, e4, pt, xs, ys, rfl, hpt0, hpt1, r3, p3, x3, hn3, x4, hn4, bD16⟩
  have r0_17 := r0_11.below bD16 lR
  have x0_18 := x0_12.below bD16 lR
  have B_19 := B_13.trans (bD16.mono B_13.size)
  clear r0_11 x0_12 B_13
  clear hZ14 hZ
  have hk3 := p3.n40
  have hk3b : k3 ≤ 2097152 := by omega
  obtain ⟨ds, hds⟩ : ∃ q9, (cdF p pt xs ys).getD [] = q9 := ⟨_, rfl⟩
  obtain ⟨db, hdb⟩ : ∃ q9, (cdF p pt xs ys).isSome = q9 := ⟨_, rfl⟩
  have dsl := cdF_len p pt xs ys
  rw [hds] at dsl
  have HDS := zH hds; have HDB := zH hdb
  clear hds hdb
  go_wp2_with fail
  refine (Zeu A3 X3 X4 k3 d3 n3 e3 n4 e4 p pt xs ys a15 r3 hk3b p3.cap p3.sh x3 (by omega) x4 (by omega)).mono ?_
  rintro e a20 hT
  obtain ⟨A4, c4, rfl, i4, cp4, b4⟩ := RetO.letters HDS.out HDB.out hT
  clear hT
  have r0_22 := r0_17.below b4 lR
  have x0_23 := x0_18.below b4 lR
  have r3_24 := r3.below b4 lR
  have x3_25 := x3.below b4 lR
  have x4_26 := x4.below b4 lR
  have B_27 := B_19.trans (b4.mono B_19.size)
  clear r0_17 x0_18 r3 x3 x4 B_19
  clear b4
  go_wp2_with fail
  refine (spec_CandidatesFor_any A3 X3 X4 k3 d3 n3 e3 n4 e4 p pt xs ys a20 r3_24 hk3b p3.cap p3.sh x3_25 (by omega) x4_26 (by omega)).mono ?_
  rintro e a28 hT
  obtain ⟨A5, c5, rfl, i5, cp5, b5⟩ := RetO.letters HDS.out HDB.out hT
  clear hT
  have r0_30 := r0_22.below b5 lR
  have x0_31 := x0_23.below b5 lR
  have r3_32 := r3_24.below b5 lR
  have x3_33 := x3_25.below b5 lR
  have x4_34 := x4_26.below b5 lR
  have i4_35 := i4.below b5 lR
  have B_36 := B_27.trans (b5.mono B_27.size)
  clear r0_22 x0_23 r3_24 x3_25 x4_26 i4 B_27
  clear b5
  clear r3_32
  clear x3_33
  clear x4_34
  have z1 : (cb != cb) = false := by simp
  have z2 : (cn != cn) = false := by simp
  have z3 : (db != db) = false := by simp
  go_wp2_with fail
  refine (qInts_bl A4 A5 ds.length c4 c5 ds a28 i4_35 i5 (by omega)).mono ?_
  rintro e a37 ⟨rfl, b38⟩
  have r0_39 := r0_30.below b38 lR
  have x0_40 := x0_31.below b38 lR
  have i4_41 := i4_35.below b38 lR
  have i5_42 := i5.below b38 lR
  have B_43 := B_36.trans (b38.mono B_36.size)
  clear r0_30 x0_31 i4_35 i5 B_36
  clear z1 z2 z3 HDS HDB
  clear i4_41
  clear i5_42
  cases cb with
  | false =>
   go_wp2
   go_ret
   exact ⟨rfl, B_43⟩
  | true =>
   have hcf := opt_letters HCN.out HCB.out
   obtain ⟨ws, f, X, HWS, hgd, hw30, hwb, HSX, hX20, HCD, HSK, HFB, HIW, HTK, HOF⟩ := cdl_law hcf
   clear HCN HCB hcf
   go_wp2_with fail
   have q46 := Zbq A0 k0 d0 0 l a37 r0_39 hk0b p0.cap p0.sh
   rw [HIW.out] at q46
   refine q46.mono ?_
   clear q46
   rintro e a44 hT
   obtain ⟨Aa, ca, rfl, ia, ba⟩ := RetO.open_n hT rfl
   have ia := ia.reads
   clear hT
   have r0_47 := r0_39.below ba lR
   have x0_48 := x0_40.below ba lR
   have B_49 := B_43.trans (ba.mono B_43.size)
   clear r0_39 x0_40 B_43
   clear ba
   go_wp2_with fail
   have q52 := spec_InputWidths_ok A0 k0 d0 l a44 r0_47 hk0b p0.cap p0.sh hgd
   rw [HWS.out] at q52
   refine q52.mono ?_
   clear q52
   rintro e a50 hT
   obtain ⟨Ab, cb_, rfl, ib, bb⟩ := RetO.open_n hT rfl
   have ib := ib.reads
   clear hT
   have r0_53 := r0_47.below bb lR
   have x0_54 := x0_48.below bb lR
   have ia_55 := ia.below bb lR
   have B_56 := B_49.trans (bb.mono B_49.size)
   clear r0_47 x0_48 ia B_49
   clear bb
   go_wp2_with fail
   refine (qInts_bl Aa Ab ws.length ca cb_ ws a50 ia_55 ib (by omega)).mono ?_
   rintro e a57 ⟨rfl, b58⟩
   have r0_59 := r0_53.below b58 lR
   have x0_60 := x0_54.below b58 lR
   have ia_61 := ia_55.below b58 lR
   have ib_62 := ib.below b58 lR
   have B_63 := B_56.trans (b58.mono B_56.size)
   clear r0_53 x0_54 ia_55 ib B_56
   clear ia_61
   go_wp2_with fail
   refine (qSum_any Ab ws.length cb_ ws _ ib_62 (by omega) HTK.out).mono ?_
   rintro e aq ⟨rfl, rfl⟩
   rw [HSX.out]
   by_cases hX5 : 5 < X
   ·have hX5i : (5 : Int) < (X : Int) := by omega
    go_wp2
    go_ret
    exact ⟨rfl, B_63⟩
   ·have hX5i : ¬ (5 : Int) < (X : Int) := by omega
    obtain ⟨N, hN⟩ : ∃ N, Hid (N = 2 ^ X) := ⟨_, zH rfl⟩
    have hNi : Hid ((2 : Int) ^ X = (N : Int)) := zH (by rw [hN.out, Int.natCast_pow]; rfl)
    have hN32 : N ≤ 32 := by rw [hN.out]; exact Nat.le_trans (Nat.pow_le_pow_right (by omega) (show X ≤ 5 by omega)) (by decide)
    have hXt : Hid (((X : Nat) : Int).toNat = X) := zH (by omega)
    have hSN : Hid (sumK f N = cn) := zH (by rw [hN.out]; exact HSK.out)
    have hSb := zH (fun k => sumK_bd (M := 1024) (fun j => HFB.out j) k)
    have hSs := zH (fun k => show sumK f (k + 1) = sumK f k + f k from rfl)
    have hS0 : Hid (sumK f 0 = 0) := zH rfl
    obtain ⟨wl, hwl⟩ := lT (ws.length)
    have HR0 := zH r0_59; have HX0 := zH x0_60; have HI0 := zH ib_62
    have hdl := zH (fun k i => digK_len ws k i)
    have hds := zH (fun k i => show digK ws k (i + 1) = digK ws k i ++ [((k / 2 ^ offs ws i % 2 ^ (gi ws i).toNat : Nat) : Int)] from rfl)
    have hd0 := zH (fun k => show digK ws k 0 = [] from rfl)
    have ho0 : Hid (offs ws 0 = 0) := zH rfl
    rw [hwl.out] at HOF HCD hw30 ⊢
    have HI1 : RI a57 Ab wl ws := by have h9 := HI0.out; rw [hwl.out] at h9; exact h9
    have HTK2 : Hid (∀ k, k ≤ wl → 0 ≤ sumI (ws.take k) ∧ sumI (ws.take k) ≤ 1000000) := by rw [← hwl.out]; exact HTK
    clear HSK r0_59 x0_60 ib_62 HI0 HTK
    go_wp2
    go_loopw [23, 24] (fun sm kv wr => ∃ k : Nat, k ≤ N ∧ kv = .int .i64 k ∧ sm = .int .i64 (sumK f k) ∧ Below a57.heap.size a57 wr) (fun _ kv _ => N - (intOf kv).toNat)
    case atStart => exact ⟨0, Nat.zero_le _, rfl, by rw [hS0.out], Below.refl _ _⟩
    case round =>
     obtain ⟨k, hk, rfl, rfl, hb⟩ := hrel
     generalize wr = W1 at *
     have hs := hSb.out k
     have hk1024 : ((1024 : Nat) : Int) * (k : Nat) ≤ 32768 := by omega
     obtain ⟨S, hS⟩ := lT (sumK f k)
     rw [hS.out] at hs ⊢
     go_wp2_with fail
     refine (qSum_any Ab wl cb_ ws _ (HI1.below hb lR) (by omega) HTK2.out).mono ?_
     rintro e aq2 ⟨rfl, rfl⟩
     rw [HSX.out]
     have hsa := hNi.out
     have hsb := hXt.out
     by_cases hlt : k < N
     ·have hlti : (k : Int) < (N : Int) := by omega
      have hbz := hb.size
      go_wp2_with fail
      clear hsa hsb
      go_loopw [25, 26, 134] (fun ov rv iv wr => ∃ (i : Nat) (O : Option Addr) (oc : Nat), i ≤ wl ∧ iv = .int .i64 i ∧ rv = .int .i64 ((k / 2 ^ offs ws i : Nat) : Int) ∧ ov = .slice O i oc ∧ Own wr W1.heap.size wr.heap.size (.slice O i oc) i (digK ws k i) ∧ Below W1.heap.size W1 wr) (fun _ _ iv _ => wl - (intOf iv).toNat)
      case atStart => exact ⟨0, none, 0, Nat.zero_le _, rfl, by rw [ho0.out]; simp, rfl, by rw [hd0.out]; exact Own.none_ _ _ _, Below.refl _ _⟩
      case round =>
       obtain ⟨i, O, oc, hi, rfl, rfl, rfl, hO, hb2⟩ := hrel
       generalize wr = W2 at *
       have hz2 := hb2.size
       have hb12 := hb.trans (hb2.mono hbz)
       by_cases hil : i < wl
       ·obtain ⟨q, o, hAb, hq, e1⟩ := (HI1.below hb12 lR).at_ hil
        have hzb := hwb _ (Zbo (xs := ws) (j := i) (by have := hwl.out; omega))
        obtain ⟨V, hV⟩ : ∃ V : Nat, gi ws i = (V : Int) := ⟨(gi ws i).toNat, by omega⟩
        have hV10 : V ≤ 10 := by omega
        have hof := HOF.out i hil
        have hdi := hds.out k i
        rw [hV] at e1 hof hdi
        simp only [Int.toNat_natCast] at hof hdi
        obtain ⟨M, hM⟩ : ∃ M, Hid (M = 2 ^ V) := ⟨_, zH rfl⟩
        have hMi : Hid ((2 : Int) ^ V = (M : Int)) := zH (by rw [hM.out, Int.natCast_pow]; rfl)
        have hM1 : 1 ≤ M := by rw [hM.out]; exact Nat.one_le_two_pow
        have hM2 : M ≤ 1024 := by rw [hM.out]; exact Nat.le_trans (Nat.pow_le_pow_right (by omega) hV10) (by decide)
        have hMz : ¬ (M : Int) = 0 := by omega
        obtain ⟨Q, hQ⟩ := lT (k / 2 ^ offs ws i)
        have hQk : Q ≤ 32 := by rw [← hQ.out]; exact Nat.le_trans (Nat.div_le_self _ _) (by omega)
        have hQn : Hid (Q / M = k / 2 ^ offs ws (i + 1)) := zH (by rw [← hQ.out, hM.out, hof, dig_div])
        rw [hQ.out, ← hM.out, Int.natCast_emod] at hdi
        rw [hQ.out]
        have Hdi := zH hdi
        have htm : ((Q : Int)).tmod (M : Int) = (Q : Int) % (M : Int) := Int.tmod_eq_emod_of_nonneg (by omega)
        have hdv : (Q : Int) / (M : Int) = ((Q / M : Nat) : Int) := by simp
        have hqm : Q % M ≤ 1024 := by have := Nat.mod_lt Q (show 0 < M by omega); omega
        have hoA := hO.alloc (.cells #[.int .i64 ((Q : Int) % (M : Int))] 3)
        have hbA := hb2.alloc hz2 (.cells #[.int .i64 ((Q : Int) % (M : Int))] 3)
        subst hAb
        clear hV hof hdi hQ hO hzb
        have hsa := hMi.out
        have hsb : ((V : Nat) : Int).toNat = V := by omega
        have hsc : IntKind.u64.wrap (V : Int) = (V : Int) := IntWalk.u64_in _ (by omega)
        have hsd : (V : Int) ≤ 64 := by omega
        have hse : (0 : Int) ≤ (V : Int) := by omega
        go_wp2_with (at_builtin; refine Zal _ rfl _ _ rfl rfl hoA rfl (Zaj _ _ _ _ (by simp)) (by omega) oM ?_; intro A5 c5 w5 hown5 hg5 hat5)
        have hb5 := Zah hbA hoA hg5 (by simp; omega) lR
        rw [← Hdi.out] at hown5
        clear hoA hbA hg5 hat5
        go_wp2
        refine oper_val (v := .int .i64 ((Q : Int) / (M : Int))) (shr_run (by rfl) (by rfl) (by rfl) ?_ ?_ ?_) ?_
        ·omega
        ·omega
        ·rw [hsb, hsa]
        simp only [pA, pB, sA, sB, sC]
        go_wp2
        go_roundw
        case rel => exact ⟨i + 1, A5, c5, by omega, by go_num, by rw [← hQn.out]; exact congrArg (Value.int .i64) (by first | exact hdv | simp), rfl, hown5, hb5⟩
        case measure => simp [intOf]; omega
       ·obtain rfl : i = wl := by omega
        obtain ⟨C, hC, hCf⟩ := HCD.out k
        have hql := hdl.out k i
        have hq0 := Zeu A0 O X0 k0 d0 i oc n0 e0 l 0 (digK ws k i) rs W2 (HR0.out.below hb12 lR) hk0b p0.cap p0.sh hO.reads (by omega) (HX0.out.below hb12 lR) (by omega)
        rw [hC] at hq0
        have hCb := HFB.out k
        have hsn := hSs.out k
        rw [hS.out, ← hCf] at hsn
        rw [← hCf] at hCb
        have Hsn := zH hsn
        clear hC hCf hsn hO hql
        go_wp2_with fail
        refine hq0.mono ?_
        clear hq0
        rintro e w9 hT
        obtain ⟨CA, cc9, rfl, ho9, hb9⟩ := RetO.open_n hT rfl
        have hb129 := hb12.trans (hb9.mono hb12.size)
        have hwr9 : IntKind.i64.wrap (S + (C.length : Int)) = S + (C.length : Int) := by rw [IntKind.wrap_i64] <;> omega
        clear hT ho9 hb9
        go_wp2
        go_roundw
        case rel => exact ⟨k + 1, by omega, by go_num, by rw [Hsn.out], hb129⟩
        case measure => simp [intOf]; omega
     ·obtain rfl : k = N := by omega
      have hlti : ¬ (k : Int) < (k : Int) := by omega
      have hfin : Hid (S = cn) := zH (hS.out.symm.trans hSN.out)
      have hdd : (cn == cn) = true := by simp
      rw [hfin.out]
      go_wp2
      go_ret
      exact ⟨rfl, B_63.trans (hb.mono B_63.size)⟩
end Go.Proofs.YtenknpcbbcbciaaGreat.lawFnCandidates
