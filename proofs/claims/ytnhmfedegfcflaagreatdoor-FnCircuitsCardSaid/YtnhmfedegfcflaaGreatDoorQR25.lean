/- The walk of the law FnCircuits: whatever its arguments read as, it returns true and leaves what was there. No condition. -/
import Derived.Test.YtnhmfedegfcflaaGreatDoorQR13
import Derived.Test.YtnhmfedegfcflaaGreatDoorQR21
import Derived.Test.YtnhmfedegfcflaaGreatDoorQR23
import Derived.Test.YtnhmfedegfcflaaGreatDoorQR24
namespace Go.Proofs.YtnhmfedegfcflaaGreatDoor.lawFnCircuits
open Go.RowKit
set_option linter.unusedVariables false
set_option linter.unusedSimpArgs false
attribute [local go_sem] sepAt sepUpon pureAt pureUpon
theorem sameB_rf (xs : List Int) : sameB xs xs = true := by
 unfold sameB
 simp
theorem Zcq (A B : Option Addr) (n c d : Nat) (xs : List Int) (w : World) (ha : RI w A n xs) (hb : RI w B n xs) (hn : n ≤ 2097152) :
 Calls Tryz.prog 8 #[.slice A n c, .slice B n d] w fun e w' => e = .returned (.bool true) ∧ Below w.heap.size w w' := by
 refine (sameInts_any A B n c n d xs xs w ha hb hn hn).mono ?_
 rintro e w' ⟨rfl, j, rfl⟩
 rw [sameB_rf]
 exact ⟨rfl, Zay j⟩
theorem RetO.lettersS {w w' : World} {o : Option (List Int)} {vs : List Int} {t : Bool} {e : Ending} (hv : o.getD [] = vs) (ht : o.isSome = t) (h : RetO w o e w') :
 ∃ A c, e = .returned (.tuple #[.slice A vs.length c, .bool t]) ∧ RI w' A vs.length vs ∧ Below w.heap.size w w' := by
 subst hv; subst ht
 obtain ⟨A, c, h1, h2, h3⟩ := h
 exact ⟨A, c, h1, h2.reads, h3⟩
theorem RetC.lettersS {w w' : World} {o : Option Ci} {x y : Int} {gs : List G3} {os : List Int} {t : Bool} {e : Ending} (hv : o.getD ⟨0, 0, [], []⟩ = ⟨x, y, gs, os⟩) (ht : o.isSome = t) (h : RetC w o e w') :
 ∃ A c O d, e = .returned (.tuple #[.agg #[.int .i64 x, .int .i64 y, .slice A gs.length c, .slice O os.length d], .bool t]) ∧ (RG w' A gs.length gs ∧ RI w' O os.length os) ∧ Below w.heap.size w w' := by
 subst ht
 obtain ⟨A, c, O, d, h1, h2, h3⟩ := h
 rw [hv] at h1 h2
 exact ⟨A, c, O, d, h1, ⟨h2.1.reads, h2.2.1.reads⟩, h3⟩
theorem Zbq {α : Type} {o : Option α} {d v : α} (hv : o.getD d = v) (ht : o.isSome = true) : o = some v := by
 cases o with
 | none => simp at ht
 | some x => rw [Option.getD_some] at hv; rw [hv]
def evF (x y : Int) (gs : List G3) (os us ws : List Int) : Option (List Int) := if okE x y gs os us ws then some (pick (vals gs (us ++ ws) gs.length) os) else none
theorem evF_no {x y : Int} {gs : List G3} {os us ws : List Int} (h : okE x y gs os us ws = false) : evF x y gs os us ws = none := by unfold evF; rw [h]; rfl
theorem evF_ok {x y : Int} {gs : List G3} {os us ws : List Int} (h : okE x y gs os us ws = true) : evF x y gs os us ws = some (pick (vals gs (us ++ ws) gs.length) os) := by unfold evF; rw [h]; rfl
theorem evF_len {x y : Int} {gs : List G3} {os us ws : List Int} (h : os.length ≤ 50) : ((evF x y gs os us ws).getD []).length ≤ 50 := by
 unfold evF
 split
 ·rw [Option.getD_some, Zbs]; exact h
 ·simp
theorem retO_none {w w' : World} {e : Ending} (h1 : e = .returned (.tuple #[.slice none 0 0, .bool false])) (h2 : Below w.heap.size w w') : RetO w none e w' := RetO.none_ h2 rfl h1
theorem EvalCircuit_all (x y : Int) (Ag : Option Addr) (cg : Nat) (Ao : Option Addr) (co : Nat) (A B : Option Addr) (c d : Nat) (gs : List G3) (os us ws : List Int) (w : World) (hr : RG w Ag gs.length gs ∧ RI w Ao os.length os) (hng : gs.length ≤ 2097152) (hno : os.length ≤ 2097152) (ha : RI w A us.length us) (hb : RI w B ws.length ws) (hn : us.length ≤ 2097152) (hm : ws.length ≤ 2097152) :
 Calls Tryz.prog 6 #[.agg #[.int .i64 x, .int .i64 y, .slice Ag gs.length cg, .slice Ao os.length co], .slice A us.length c, .slice B ws.length d] w (RetO w (evF x y gs os us ws)) := by
 cases h : okE x y gs os us ws with
 | false =>
  rw [evF_no h]
  exact (EvalCircuit_no x y Ag gs.length cg Ao os.length co A B us.length c ws.length d gs os us ws w hr hng hno ha hb hn hm h).mono fun e w' ⟨h1, h2⟩ => retO_none h1 h2
 | true =>
  rw [evF_ok h]
  obtain ⟨h1, h2, h3, h4, h5⟩ := okE_parts h
  exact EvalCircuit_ok x y Ag gs.length cg Ao os.length co A B us.length c ws.length d gs os us ws w hr hng hno h1 ha hb h4 h5 h2 h3
theorem spec_EvalCircuit_all (x y : Int) (Ag : Option Addr) (cg : Nat) (Ao : Option Addr) (co : Nat) (A B : Option Addr) (c d : Nat) (gs : List G3) (os us ws : List Int) (w : World) (hr : RG w Ag gs.length gs ∧ RI w Ao os.length os) (hng : gs.length ≤ 2097152) (hno : os.length ≤ 2097152) (ha : RI w A us.length us) (hb : RI w B ws.length ws) (hn : us.length ≤ 2097152) (hm : ws.length ≤ 2097152) :
 Calls Tryz.prog 7 #[.agg #[.int .i64 x, .int .i64 y, .slice Ag gs.length cg, .slice Ao os.length co], .slice A us.length c, .slice B ws.length d] w (RetO w (evF x y gs os us ws)) := by
 cases h : okE x y gs os us ws with
 | false =>
  rw [evF_no h]
  exact (spec_EvalCircuit_no x y Ag gs.length cg Ao os.length co A B us.length c ws.length d gs os us ws w hr hng hno ha hb hn hm h).mono fun e w' ⟨h1, h2⟩ => retO_none h1 h2
 | true =>
  rw [evF_ok h]
  obtain ⟨h1, h2, h3, h4, h5⟩ := okE_parts h
  exact spec_EvalCircuit_ok x y Ag gs.length cg Ao os.length co A B us.length c ws.length d gs os us ws w hr hng hno h1 ha hb h4 h5 h2 h3
theorem ev_law {x y : Int} {gs : List G3} {os us ws E : List Int} (h : evF x y gs os us ws = some E) : circB x y gs os = true ∧ allB 0 1 us = true ∧ allB 0 1 ws = true ∧ (us.length : Int) = x ∧ (ws.length : Int) = y ∧ E.length = os.length ∧
 (vals gs (us ++ ws) gs.length).length ≤ 400 ∧ ∀ i, i < os.length → 0 ≤ gi os i ∧ gi os i < (vals gs (us ++ ws) gs.length).length ∧ gi E i = gi (vals gs (us ++ ws) gs.length) (gi os i).toNat := by
 cases hk : okE x y gs os us ws with
 | false => rw [evF_no hk] at h; cases h
 | true =>
  rw [evF_ok hk] at h
  injection h with h
  obtain ⟨h1, h2, h3, h4, h5⟩ := okE_parts hk
  obtain ⟨hx, hy, hg, ho, _, hao⟩ := Zao h1
  have hl : (vals gs (us ++ ws) gs.length).length = us.length + ws.length + gs.length := by rw [Zbm, List.length_append]
  refine ⟨h1, h2, h3, h4, h5, by rw [← h, Zbs], by omega, fun i hi => ?_⟩
  have hb := allB_iff.1 hao _ (gi_mem hi)
  refine ⟨hb.1, by omega, ?_⟩
  rw [← h]
  unfold pick gi
  simp [List.getD_eq_getElem?_getD, hi]
theorem par_law {s : List UInt8} {C : Ci} (h : ansC (parseI s) s = some C) : circB C.i0 C.i1 C.gs C.os = true ∧ ctF C.i0 C.i1 C.gs C.os = s := by
 unfold ansC at h
 split at h
 ·rename_i hc
  injection h with h
  subst h
  refine ⟨hc.1, ?_⟩
  unfold ctF
  rw [if_pos hc.1]; exact hc.2
 ·cases h
theorem ansC_lens (s : List UInt8) : ((ansC (parseI s) s).getD ⟨0, 0, [], []⟩).gs.length ≤ 300 ∧ ((ansC (parseI s) s).getD ⟨0, 0, [], []⟩).os.length ≤ 40 := by
 cases h : ansC (parseI s) s with
 | none => simp
 | some C => have := Zao (par_law h).1; simp only [Option.getD_some]; omega
set_option maxRecDepth 100000 in
set_option maxHeartbeats 80000000 in
theorem walk (Y : Option Addr) (n c : Nat) (Z : Option Addr) (m d : Nat) (w : World) (hY0 : RY0 w Y n) (hn : n ≤ 140737488355328) (hZ0 : RY0 w Z m) (hm : m ≤ 140737488355328) (hT0 : PT w) (hE0 : EV w) (hG0 : GWs w) (hM0 : ML w) :
 Calls Tryz.prog 3 #[.slice Y n c, .slice Z m d] w fun e w' => e = .returned (.bool true) ∧ Below w.heap.size w w' := by
 cases hs : bigB n m with
 | true =>
  have hs1 := zH hs; clear hs
  go_enter Tryz.func3, Tryz.ntmps3
  go_wp2_with fail
  refine (big_any Y Z n c m d _ hn hm).mono ?_
  rintro e a1 ⟨rfl, rfl⟩
  rw [hs1.out]
  go_wp2
  go_ret
  exact ⟨rfl, Below.refl _ _⟩
 | false =>
  have hnm : n + m ≤ 1048576 := by have h := of_decide_eq_false hs; omega
  have hs1 := zH hs; clear hs
  have hY : RY w Y n := hY0.ry (by omega)
  have hZ : RY w Z m := hZ0.ry (by omega)
  clear hY0 hZ0
  go_enter Tryz.func3, Tryz.ntmps3
  go_wp2_with fail
  refine (big_any Y Z n c m d _ hn hm).mono ?_
  rintro e a1 ⟨rfl, rfl⟩
  rw [hs1.out]
  clear hs1 hn hm
  go_wp2_with fail
  refine (DrawEvalCircuit_any Y n c w hY).mono ?_
  rintro e a1 ⟨⟨x0, y0, g0, o0⟩, A0, ca0, O0, co0, us, ws, U, n0, uc, V, n1, vc, rfl, q0, hg0, ho0, q1, q2, hn0, hn1, bD2⟩
  clear hY
  dsimp only at q0 hg0 ho0 ⊢
  obtain rfl : us.length = n0 := q1.len
  obtain rfl : ws.length = n1 := q2.len
  have r0 := And.intro q0.1.reads q0.2.1.reads
  have u0 := q1.reads
  have v0 := q2.reads
  clear q0 q1 q2
  have B_3 := bD2
  have al4 : Below a1.heap.size a1 (a1.alloc (.cells #[.int .i64 x0, .int .i64 y0, .slice A0 g0.length ca0, .slice O0 o0.length co0] 27)) := bA
  have z5 : (a1.alloc (.cells #[.int .i64 x0, .int .i64 y0, .slice A0 g0.length ca0, .slice O0 o0.length co0] 27)).heap.size = a1.heap.size + 1 := by simp
  have p0_6 : BxC (a1.alloc (.cells #[.int .i64 x0, .int .i64 y0, .slice A0 g0.length ca0, .slice O0 o0.length co0] 27)) a1.heap.size x0 y0 A0 g0.length ca0 O0 o0.length co0 := BxC.new _ _
  have r0_7 := And.intro (r0.1.below al4 lR) (r0.2.below al4 lR)
  have u0_8 := u0.below al4 lR
  have v0_9 := v0.below al4 lR
  have B_10 := B_3.trans (al4.mono B_3.size)
  clear r0 u0 v0 B_3
  obtain ⟨E, hE⟩ : ∃ q9, (evF x0 y0 g0 o0 us ws).getD [] = q9 := ⟨_, rfl⟩
  obtain ⟨eb, heb⟩ : ∃ q9, (evF x0 y0 g0 o0 us ws).isSome = q9 := ⟨_, rfl⟩
  have El := evF_len (x := x0) (y := y0) (gs := g0) (us := us) (ws := ws) ho0
  rw [hE] at El
  have HE := zH hE; have HEB := zH heb
  clear hE heb
  have hq := p0_6; obtain ⟨k0, k1, k2, k3⟩ := hq
  go_wp2_with fail
  generalize (a1.alloc (.cells #[.int .i64 x0, .int .i64 y0, .slice A0 g0.length ca0, .slice O0 o0.length co0] 27)) = a11 at *
  clear al4
  refine (EvalCircuit_all x0 y0 A0 ca0 O0 co0 U V uc vc g0 o0 us ws a11 r0_7 (by omega) (by omega) u0_8 v0_9 (by omega) (by omega)).mono ?_
  rintro e a12 hT
  clear k0 k1 k2 k3
  obtain ⟨A1, c1, rfl, i1, b1⟩ := RetO.lettersS HE.out HEB.out hT
  clear hT
  have r0_14 := And.intro (r0_7.1.below b1 lR) (r0_7.2.below b1 lR)
  have u0_15 := u0_8.below b1 lR
  have v0_16 := v0_9.below b1 lR
  have p0_17 := p0_6.below b1
  have B_18 := B_10.trans (b1.mono B_10.size)
  clear r0_7 u0_8 v0_9 p0_6 B_10
  have hq := p0_17; obtain ⟨k0, k1, k2, k3⟩ := hq
  go_wp2_with fail
  refine (spec_EvalCircuit_all x0 y0 A0 ca0 O0 co0 U V uc vc g0 o0 us ws a12 r0_14 (by omega) (by omega) u0_15 v0_16 (by omega) (by omega)).mono ?_
  rintro e a19 hT
  clear k0 k1 k2 k3
  obtain ⟨A2, c2, rfl, i2, b2⟩ := RetO.lettersS HE.out HEB.out hT
  clear hT
  have r0_21 := And.intro (r0_14.1.below b2 lR) (r0_14.2.below b2 lR)
  have u0_22 := u0_15.below b2 lR
  have v0_23 := v0_16.below b2 lR
  have p0_24 := p0_17.below b2
  have i1_25 := i1.below b2 lR
  have B_26 := B_18.trans (b2.mono B_18.size)
  clear r0_14 u0_15 v0_16 p0_17 i1 B_18
  go_upto_region 6 with (fail)
  go_cut [81] from 68 to 81 (fun s81 wx => s81 = .bool false ∧ Below a19.heap.size a19 wx)
  case first =>
   have hq := p0_24; obtain ⟨k0, k1, k2, k3⟩ := hq
   have z1 : (eb != eb) = false := by simp
   have HC9 : Hid ((circB x0 y0 g0 o0 != circB x0 y0 g0 o0) = false) := zH (by simp)
   obtain ⟨cb9, hcb9⟩ : ∃ q9, circB x0 y0 g0 o0 = q9 := ⟨_, rfl⟩
   have HCB9 := zH hcb9; clear hcb9
   have z2 : (cb9 != cb9) = false := by simp
   go_wp2_with fail
   refine Zai (a19.heap.size) (a19) [(⟨a1.heap.size, 0, none⟩, .int .i64 x0), (⟨a1.heap.size, 1, none⟩, .int .i64 y0), (⟨a1.heap.size, 2, none⟩, .slice A0 g0.length ca0), (⟨a1.heap.size, 3, none⟩, .slice O0 o0.length co0)] (by kernel_rfl) (by kernel_rfl) (by simp only [List.mem_cons, forall_eq_or_imp, List.not_mem_nil, false_implies, implies_true, and_true]; repeat (any_goals (apply And.intro)); all_goals (first | assumption | go_simp)) ?_
   repeat (first
    | go_big_quiet_skip
    | (go_big_quiet_want
       apply Exists.intro
       refine ⟨fun w3 hw3 => ?_, ?_⟩
       ·have hcs := hw3.2
        simp only [List.mem_cons, forall_eq_or_imp, List.not_mem_nil, false_implies, implies_true, and_true] at hcs
        simp only [Oper.quietAt]
        go_simp
        first | done | exact ⟨rfl, rfl⟩ | rfl | (go_at_call 8; refine (Zcq A1 A2 E.length c1 c2 E _ (i1_25.below hw3.1 lR) (i2.below hw3.1 lR) (by omega)).mono ?_; rintro e w4 ⟨rfl, hb4⟩; exact ⟨rfl, hw3.next hb4 (by simp)⟩) | (go_at_call 9; refine (Zah x0 y0 A0 g0.length ca0 O0 o0.length co0 g0 o0 _ (r0_21.1.below hw3.1 lR) (r0_21.2.below hw3.1 lR) (by omega) (by omega)).mono ?_; rintro e w4 ⟨he, hb4⟩; rw [HCB9.out] at he; obtain rfl := he; exact ⟨rfl, hw3.next hb4 (by simp)⟩) | (go_at_call 10; refine (spec_IsCircuit_any x0 y0 A0 g0.length ca0 O0 o0.length co0 g0 o0 _ (r0_21.1.below hw3.1 lR) (r0_21.2.below hw3.1 lR) (by omega) (by omega)).mono ?_; rintro e w4 ⟨he, hb4⟩; rw [HCB9.out] at he; obtain rfl := he; exact ⟨rfl, hw3.next hb4 (by simp)⟩)
       go_big_quiet_on
       try simp only [pA, pB, sA, sB, sC]))
   refine wpQuiet_nil ?_
   intro wq hwq
   have hb9 : Below a19.heap.size a19 wq := hwq.1
   go_wp2
   go_meet
   exact ⟨rfl, hb9⟩
  case rest =>
   obtain ⟨rfl, hcut⟩ := hcut
   generalize wc = a27 at *
   have r0_28 := And.intro (r0_21.1.below hcut lR) (r0_21.2.below hcut lR)
   have u0_29 := u0_22.below hcut lR
   have v0_30 := v0_23.below hcut lR
   have p0_31 := p0_24.below hcut
   have i1_32 := i1_25.below hcut lR
   have i2_33 := i2.below hcut lR
   have B_34 := B_26.trans (hcut.mono B_26.size)
   clear r0_21 u0_22 v0_23 p0_24 i1_25 i2 B_26
   go_upto_if 82 with (fail)
   go_cut [12, 13, 14, 15, 16, 17] from 83 to 126 (fun s12 s13 s14 s15 s16 s17 wx => Below a27.heap.size a27 wx)
   case first =>
    cases eb with
    | false =>
     go_wp2
     go_meet
     exact Below.refl _ _
    | true =>
     obtain ⟨h1, h2, h3, h4, h5, h6, h7, h8⟩ := ev_law (Zbq HE.out HEB.out)
     obtain ⟨Q, hQ⟩ : ∃ q9, vals g0 (us ++ ws) g0.length = q9 := ⟨_, rfl⟩
     rw [hQ] at h7 h8
     have HQ := zH hQ; have H1 := zH h1; have H2 := zH h2; have H3 := zH h3; have H4 := zH h4; have H5 := zH h5; have H6 := zH h6; have H8 := zH h8
     clear hQ h1 h2 h3 h4 h5 h6 h8 HE HEB
     have hq := p0_31; obtain ⟨k0, k1, k2, k3⟩ := hq
     go_wp2_with fail
     have q9 := WireValues_ok x0 y0 A0 g0.length ca0 O0 o0.length co0 U V us.length uc ws.length vc g0 o0 us ws a27 r0_28 (by omega) (by omega) H1.out u0_29 v0_30 H4.out H5.out H2.out H3.out
     rw [HQ.out] at q9
     refine q9.mono ?_
     clear q9 k0 k1 k2 k3
     rintro e a35 hT
     obtain ⟨A3, c3, rfl, i3, b3⟩ := RetO.lettersS (o := some Q) (vs := Q) (t := true) rfl rfl hT
     clear hT
     have r0_36 := And.intro (r0_28.1.below b3 lR) (r0_28.2.below b3 lR)
     have u0_37 := u0_29.below b3 lR
     have v0_38 := v0_30.below b3 lR
     have p0_39 := p0_31.below b3
     have i1_40 := i1_32.below b3 lR
     have i2_41 := i2_33.below b3 lR
     have B_42 := b3
     clear r0_28 u0_29 v0_30 p0_31 i1_32 i2_33
     have hq := p0_39; obtain ⟨k0, k1, k2, k3⟩ := hq
     go_wp2_with fail
     have q9 := spec_WireValues_ok x0 y0 A0 g0.length ca0 O0 o0.length co0 U V us.length uc ws.length vc g0 o0 us ws a35 r0_36 (by omega) (by omega) H1.out u0_37 v0_38 H4.out H5.out H2.out H3.out
     rw [HQ.out] at q9
     refine q9.mono ?_
     clear q9 k0 k1 k2 k3
     rintro e a43 hT
     obtain ⟨A4, c4, rfl, i4, b4⟩ := RetO.lettersS (o := some Q) (vs := Q) (t := true) rfl rfl hT
     clear hT
     have r0_44 := And.intro (r0_36.1.below b4 lR) (r0_36.2.below b4 lR)
     have u0_45 := u0_37.below b4 lR
     have v0_46 := v0_38.below b4 lR
     have p0_47 := p0_39.below b4
     have i1_48 := i1_40.below b4 lR
     have i2_49 := i2_41.below b4 lR
     have i3_50 := i3.below b4 lR
     have B_51 := B_42.trans (b4.mono B_42.size)
     clear r0_36 u0_37 v0_38 p0_39 i1_40 i2_41 i3 B_42
     go_wp2_with fail
     refine (Zcq A3 A4 Q.length c3 c4 Q a43 i3_50 i4 (by omega)).mono ?_
     rintro e a52 ⟨rfl, b53⟩
     have r0_54 := And.intro (r0_44.1.below b53 lR) (r0_44.2.below b53 lR)
     have u0_55 := u0_45.below b53 lR
     have v0_56 := v0_46.below b53 lR
     have p0_57 := p0_47.below b53
     have i1_58 := i1_48.below b53 lR
     have i2_59 := i2_49.below b53 lR
     have i3_60 := i3_50.below b53 lR
     have i4_61 := i4.below b53 lR
     have B_62 := B_51.trans (b53.mono B_51.size)
     clear r0_44 u0_45 v0_46 p0_47 i1_48 i2_49 i3_50 i4 B_51
     clear i1_58
     clear i3_60
     clear u0_55
     clear v0_56
     have hq := p0_57; obtain ⟨k0, k1, k2, k3⟩ := hq
     go_wp2
     go_loopw [112] (fun i wr => ∃ k j : Nat, k ≤ o0.length ∧ i = .int .i64 k ∧ wr = a52.drewN j) (fun i _ => o0.length - (intOf i).toNat)
     case atStart => exact ⟨0, 0, Nat.zero_le _, rfl, rfl⟩
     case round =>
      obtain ⟨k, j, hk, rfl, rfl⟩ := hrel
      by_cases hlt : k < o0.length
      ·obtain ⟨e1, e2, e3⟩ := H8.out k hlt
       have hkE : k < E.length := by have := H6.out; omega
       obtain ⟨X, hX⟩ : ∃ X : Nat, gi o0 k = X := ⟨_, (Int.toNat_of_nonneg e1).symm⟩
       rw [hX] at e2 e3
       rw [Int.toNat_natCast] at e3
       have hXQ : X < Q.length := by omega
       obtain ⟨kb, ob9, rfl, hkb, f1⟩ := (r0_54).2.at_ hlt
       rw [hX] at f1
       obtain ⟨kc, oc9, rfl, hkc, f2⟩ := (i4_61).at_ hXQ
       obtain ⟨kd, od9, rfl, hkd, f3⟩ := (i2_59).at_ hkE
       rw [e3] at f3
       generalize gi Q X = VV at *
       have hne : (VV != VV) = false := by simp
       clear e1 e2 e3 hX
       clear r0_54 p0_57 i2_59 i4_61
       go_wp2_with fail
       go_quiet (fail)
       go_wp2
       go_roundw
       case rel => exact ⟨k + 1, _, by omega, by go_num, by first | rfl | exact World.drewN_drewN _ _ _⟩
       case measure => simp [intOf]; omega
      ·have hge : ¬ (k : Int) < o0.length := by omega
       have b9 : Below a27.heap.size a27 (a52.drewN j) := Zas B_62 j
       go_wp2
       go_meet
       exact b9
   case rest =>
    clear r0_28
    clear u0_29
    clear v0_30
    clear i1_32
    clear i2_33
    clear p0_31
    generalize wc = a35 at *
    have B_36 := B_34.trans (hcut.mono B_34.size)
    clear B_34
    clear HE HEB El
    go_wp2_with fail
    have hZ37 : RY a35 Z m := hZ.alt (Alt.of_new (S := fun _ => False) B_36) (fun _ _ _ _ h => h)
    go_wp2_with fail
    refine (DrawThenCircuit_any Z m d _ hZ37).mono ?_
    rintro e a38 ⟨⟨x1, y1, g1, o1⟩, ⟨x2, y2, g2, o2⟩, A1, ca1, O1, co1, A2, ca2, O2, co2, rfl, q1, hg1, ho1, q2, hg2, ho2, bD39⟩
    clear hZ37
    dsimp only at q1 hg1 ho1 q2 hg2 ho2 ⊢
    have r1 := And.intro q1.1.reads q1.2.1.reads
    have r2 := And.intro q2.1.reads q2.2.1.reads
    clear q1 q2
    have B_40 := B_36.trans (bD39.mono B_36.size)
    clear B_36
    have al41 : Below a38.heap.size a38 ((a38.alloc (.cells #[.int .i64 x1, .int .i64 y1, .slice A1 g1.length ca1, .slice O1 o1.length co1] 27)).alloc (.cells #[.int .i64 x2, .int .i64 y2, .slice A2 g2.length ca2, .slice O2 o2.length co2] 27)) := (bA).alloc (by simp) _
    have z42 : ((a38.alloc (.cells #[.int .i64 x1, .int .i64 y1, .slice A1 g1.length ca1, .slice O1 o1.length co1] 27)).alloc (.cells #[.int .i64 x2, .int .i64 y2, .slice A2 g2.length ca2, .slice O2 o2.length co2] 27)).heap.size = a38.heap.size + 2 := by simp
    have p1_43 : BxC ((a38.alloc (.cells #[.int .i64 x1, .int .i64 y1, .slice A1 g1.length ca1, .slice O1 o1.length co1] 27)).alloc (.cells #[.int .i64 x2, .int .i64 y2, .slice A2 g2.length ca2, .slice O2 o2.length co2] 27)) a38.heap.size x1 y1 A1 g1.length ca1 O1 o1.length co1 := (BxC.new _ _).below (bA)
    have p2_44 : BxC ((a38.alloc (.cells #[.int .i64 x1, .int .i64 y1, .slice A1 g1.length ca1, .slice O1 o1.length co1] 27)).alloc (.cells #[.int .i64 x2, .int .i64 y2, .slice A2 g2.length ca2, .slice O2 o2.length co2] 27)) (a38.heap.size + 1) x2 y2 A2 g2.length ca2 O2 o2.length co2 := by simpa using BxC.new (x := x2) (y := y2) (Ag := A2) (ng := g2.length) (cg := ca2) (Ao := O2) (no := o2.length) (co := co2) (a38.alloc (.cells #[.int .i64 x1, .int .i64 y1, .slice A1 g1.length ca1, .slice O1 o1.length co1] 27)) 27
    have r1_45 := And.intro (r1.1.below al41 lR) (r1.2.below al41 lR)
    have r2_46 := And.intro (r2.1.below al41 lR) (r2.2.below al41 lR)
    have B_47 := B_40.trans (al41.mono B_40.size)
    clear r1 r2 B_40
    obtain ⟨⟨xt, yt, gt, ot⟩, hCt⟩ : ∃ q9, (thenF x1 y1 g1 o1 x2 y2 g2 o2).getD ⟨0, 0, [], []⟩ = q9 := ⟨_, rfl⟩
    obtain ⟨tb, htb⟩ : ∃ q9, (thenF x1 y1 g1 o1 x2 y2 g2 o2).isSome = q9 := ⟨_, rfl⟩
    have hlt := thenF_len x1 y1 g1 o1 x2 y2 g2 o2
    rw [hCt] at hlt
    dsimp only at hlt
    obtain ⟨hgt, hot⟩ := hlt
    have HT := zH hCt; have HTB := zH htb
    clear hCt htb
    have hq := p1_43; obtain ⟨ka0, ka1, ka2, ka3⟩ := hq
    have hq := p2_44; obtain ⟨kb0, kb1, kb2, kb3⟩ := hq
    go_wp2_with fail
    generalize ((a38.alloc (.cells #[.int .i64 x1, .int .i64 y1, .slice A1 g1.length ca1, .slice O1 o1.length co1] 27)).alloc (.cells #[.int .i64 x2, .int .i64 y2, .slice A2 g2.length ca2, .slice O2 o2.length co2] 27)) = a48 at *
    clear al41
    refine (ThenCircuit_any x1 y1 A1 g1.length ca1 O1 o1.length co1 x2 y2 A2 g2.length ca2 O2 o2.length co2 g1 o1 g2 o2 a48 r1_45 (by omega) (by omega) r2_46 (by omega) (by omega)).mono ?_
    rintro e a49 hT
    clear ka0 ka1 ka2 ka3 kb0 kb1 kb2 kb3
    obtain ⟨A3, ca3, O3, co3, rfl, r3, b3⟩ := RetC.lettersS HT.out HTB.out hT
    clear hT
    have r1_51 := And.intro (r1_45.1.below b3 lR) (r1_45.2.below b3 lR)
    have r2_52 := And.intro (r2_46.1.below b3 lR) (r2_46.2.below b3 lR)
    have p1_53 := p1_43.below b3
    have p2_54 := p2_44.below b3
    have B_55 := B_47.trans (b3.mono B_47.size)
    clear r1_45 r2_46 p1_43 p2_44 B_47
    have al56 : Below a49.heap.size a49 (a49.alloc (.cells #[.int .i64 xt, .int .i64 yt, .slice A3 gt.length ca3, .slice O3 ot.length co3] 27)) := bA
    have z57 : (a49.alloc (.cells #[.int .i64 xt, .int .i64 yt, .slice A3 gt.length ca3, .slice O3 ot.length co3] 27)).heap.size = a49.heap.size + 1 := by simp
    have p3_58 : BxC (a49.alloc (.cells #[.int .i64 xt, .int .i64 yt, .slice A3 gt.length ca3, .slice O3 ot.length co3] 27)) a49.heap.size xt yt A3 gt.length ca3 O3 ot.length co3 := BxC.new _ _
    have r1_59 := And.intro (r1_51.1.below al56 lR) (r1_51.2.below al56 lR)
    have r2_60 := And.intro (r2_52.1.below al56 lR) (r2_52.2.below al56 lR)
    have p1_61 := p1_53.below al56
    have p2_62 := p2_54.below al56
    have r3_63 := And.intro (r3.1.below al56 lR) (r3.2.below al56 lR)
    have B_64 := B_55.trans (al56.mono B_55.size)
    clear r1_51 r2_52 p1_53 p2_54 r3 B_55
    have hq := p1_61; obtain ⟨ka0, ka1, ka2, ka3⟩ := hq
    have hq := p2_62; obtain ⟨kb0, kb1, kb2, kb3⟩ := hq
    go_wp2_with fail
    generalize (a49.alloc (.cells #[.int .i64 xt, .int .i64 yt, .slice A3 gt.length ca3, .slice O3 ot.length co3] 27)) = a65 at *
    clear al56
    refine (spec_ThenCircuit_any x1 y1 A1 g1.length ca1 O1 o1.length co1 x2 y2 A2 g2.length ca2 O2 o2.length co2 g1 o1 g2 o2 a65 r1_59 (by omega) (by omega) r2_60 (by omega) (by omega)).mono ?_
    rintro e a66 hT
    clear ka0 ka1 ka2 ka3 kb0 kb1 kb2 kb3
    obtain ⟨A4, ca4, O4, co4, rfl, r4, b4⟩ := RetC.lettersS HT.out HTB.out hT
    clear hT
    have r1_68 := And.intro (r1_59.1.below b4 lR) (r1_59.2.below b4 lR)
    have r2_69 := And.intro (r2_60.1.below b4 lR) (r2_60.2.below b4 lR)
    have p1_70 := p1_61.below b4
    have p2_71 := p2_62.below b4
    have r3_72 := And.intro (r3_63.1.below b4 lR) (r3_63.2.below b4 lR)
    have p3_73 := p3_58.below b4
    have B_74 := B_64.trans (b4.mono B_64.size)
    clear r1_59 r2_60 p1_61 p2_62 r3_63 p3_58 B_64
    have al75 : Below a66.heap.size a66 (a66.alloc (.cells #[.int .i64 xt, .int .i64 yt, .slice A4 gt.length ca4, .slice O4 ot.length co4] 27)) := bA
    have z76 : (a66.alloc (.cells #[.int .i64 xt, .int .i64 yt, .slice A4 gt.length ca4, .slice O4 ot.length co4] 27)).heap.size = a66.heap.size + 1 := by simp
    have p4_77 : BxC (a66.alloc (.cells #[.int .i64 xt, .int .i64 yt, .slice A4 gt.length ca4, .slice O4 ot.length co4] 27)) a66.heap.size xt yt A4 gt.length ca4 O4 ot.length co4 := BxC.new _ _
    have r1_78 := And.intro (r1_68.1.below al75 lR) (r1_68.2.below al75 lR)
    have r2_79 := And.intro (r2_69.1.below al75 lR) (r2_69.2.below al75 lR)
    have p1_80 := p1_70.below al75
    have p2_81 := p2_71.below al75
    have r3_82 := And.intro (r3_72.1.below al75 lR) (r3_72.2.below al75 lR)
    have p3_83 := p3_73.below al75
    have r4_84 := And.intro (r4.1.below al75 lR) (r4.2.below al75 lR)
    have B_85 := B_74.trans (al75.mono B_74.size)
    clear r1_68 r2_69 p1_70 p2_71 r3_72 p3_73 r4 B_74
    have z1 : (tb != tb) = false := by simp
    have hq := p3_83; obtain ⟨k0, k1, k2, k3⟩ := hq
    have hq := p4_77; obtain ⟨m0, m1, m2, m3⟩ := hq
    go_wp2_with fail
    generalize (a66.alloc (.cells #[.int .i64 xt, .int .i64 yt, .slice A4 gt.length ca4, .slice O4 ot.length co4] 27)) = a86 at *
    clear al75
    refine (pSameCircuit_any xt yt A3 A4 gt.length ca3 ca4 O3 O4 ot.length co3 co4 gt ot _ r3_82 r4_84 (by omega) (by omega)).mono ?_
    rintro e a87 ⟨rfl, b88⟩
    clear k0 k1 k2 k3 m0 m1 m2 m3
    have r1_89 := And.intro (r1_78.1.below b88 lR) (r1_78.2.below b88 lR)
    have r2_90 := And.intro (r2_79.1.below b88 lR) (r2_79.2.below b88 lR)
    have p1_91 := p1_80.below b88
    have p2_92 := p2_81.below b88
    have r3_93 := And.intro (r3_82.1.below b88 lR) (r3_82.2.below b88 lR)
    have p3_94 := p3_83.below b88
    have r4_95 := And.intro (r4_84.1.below b88 lR) (r4_84.2.below b88 lR)
    have p4_96 := p4_77.below b88
    have B_97 := B_85.trans (b88.mono B_85.size)
    clear r1_78 r2_79 p1_80 p2_81 r3_82 p3_83 r4_84 p4_77 B_85
    clear z1
    clear r3_93
    clear p3_94
    go_upto_if 153 with (fail)
    go_cut [24, 25, 26, 27, 28, 29, 30, 31, 32, 33, 34, 35] from 154 to 237 (fun s24 s25 s26 s27 s28 s29 s30 s31 s32 s33 s34 s35 wx => Below a87.heap.size a87 wx)
    case first =>
     cases tb with
     | false =>
      go_wp2
      go_meet
      exact Below.refl _ _
     | true =>
      obtain ⟨T1, hT1⟩ : ∃ q9, (truthF x1 y1 g1 o1).getD [] = q9 := ⟨_, rfl⟩
      obtain ⟨b1, hb1⟩ : ∃ q9, (truthF x1 y1 g1 o1).isSome = q9 := ⟨_, rfl⟩
      have T1l := truthF_len x1 y1 g1 o1
      rw [hT1] at T1l
      have H1 := zH hT1; have H1B := zH hb1
      clear hT1 hb1
      obtain ⟨T2, hT2⟩ : ∃ q9, (truthF x2 y2 g2 o2).getD [] = q9 := ⟨_, rfl⟩
      obtain ⟨b2, hb2⟩ : ∃ q9, (truthF x2 y2 g2 o2).isSome = q9 := ⟨_, rfl⟩
      have T2l := truthF_len x2 y2 g2 o2
      rw [hT2] at T2l
      have H2 := zH hT2; have H2B := zH hb2
      clear hT2 hb2
      obtain ⟨T3, hT3⟩ : ∃ q9, (truthF xt yt gt ot).getD [] = q9 := ⟨_, rfl⟩
      obtain ⟨b3, hb3⟩ : ∃ q9, (truthF xt yt gt ot).isSome = q9 := ⟨_, rfl⟩
      have T3l := truthF_len xt yt gt ot
      rw [hT3] at T3l
      have H3 := zH hT3; have H3B := zH hb3
      clear hT3 hb3
      have hq := p1_91; obtain ⟨k0, k1, k2, k3⟩ := hq
      go_wp2_with fail
      refine (Zcj x1 y1 A1 g1.length ca1 O1 o1.length co1 g1 o1 a87 r1_89 (by omega) (by omega)).mono ?_
      rintro e a98 hT
      clear k0 k1 k2 k3
      obtain ⟨A10, c10, rfl, i10, b10⟩ := RetO.lettersS H1.out H1B.out hT
      clear hT
      have r1_100 := And.intro (r1_89.1.below b10 lR) (r1_89.2.below b10 lR)
      have r2_101 := And.intro (r2_90.1.below b10 lR) (r2_90.2.below b10 lR)
      have p1_102 := p1_91.below b10
      have p2_103 := p2_92.below b10
      have r4_104 := And.intro (r4_95.1.below b10 lR) (r4_95.2.below b10 lR)
      have p4_105 := p4_96.below b10
      have B_106 := b10
      clear r1_89 r2_90 p1_91 p2_92 r4_95 p4_96
      have hq := p2_103; obtain ⟨k0, k1, k2, k3⟩ := hq
      go_wp2_with fail
      refine (Zcj x2 y2 A2 g2.length ca2 O2 o2.length co2 g2 o2 a98 r2_101 (by omega) (by omega)).mono ?_
      rintro e a107 hT
      clear k0 k1 k2 k3
      obtain ⟨A11, c11, rfl, i11, b11⟩ := RetO.lettersS H2.out H2B.out hT
      clear hT
      have r1_109 := And.intro (r1_100.1.below b11 lR) (r1_100.2.below b11 lR)
      have r2_110 := And.intro (r2_101.1.below b11 lR) (r2_101.2.below b11 lR)
      have p1_111 := p1_102.below b11
      have p2_112 := p2_103.below b11
      have r4_113 := And.intro (r4_104.1.below b11 lR) (r4_104.2.below b11 lR)
      have p4_114 := p4_105.below b11
      have i10_115 := i10.below b11 lR
      have B_116 := B_106.trans (b11.mono B_106.size)
      clear r1_100 r2_101 p1_102 p2_103 r4_104 p4_105 i10 B_106
      have hq := p4_114; obtain ⟨k0, k1, k2, k3⟩ := hq
      go_wp2_with fail
      refine (Zcj xt yt A4 gt.length ca4 O4 ot.length co4 gt ot a107 r4_113 (by omega) (by omega)).mono ?_
      rintro e a117 hT
      clear k0 k1 k2 k3
      obtain ⟨A12, c12, rfl, i12, b12⟩ := RetO.lettersS H3.out H3B.out hT
      clear hT
      have r1_119 := And.intro (r1_109.1.below b12 lR) (r1_109.2.below b12 lR)
      have r2_120 := And.intro (r2_110.1.below b12 lR) (r2_110.2.below b12 lR)
      have p1_121 := p1_111.below b12
      have p2_122 := p2_112.below b12
      have r4_123 := And.intro (r4_113.1.below b12 lR) (r4_113.2.below b12 lR)
      have p4_124 := p4_114.below b12
      have i10_125 := i10_115.below b12 lR
      have i11_126 := i11.below b12 lR
      have B_127 := B_116.trans (b12.mono B_116.size)
      clear r1_109 r2_110 p1_111 p2_112 r4_113 p4_114 i10_115 i11 B_116
      have hq := p4_124; obtain ⟨k0, k1, k2, k3⟩ := hq
      go_wp2_with fail
      refine (Zcd xt yt A4 gt.length ca4 O4 ot.length co4 gt ot a117 r4_123 (by omega) (by omega)).mono ?_
      rintro e a128 hT
      clear k0 k1 k2 k3
      obtain ⟨A13, c13, rfl, i13, b13⟩ := RetO.lettersS H3.out H3B.out hT
      clear hT
      have r1_130 := And.intro (r1_119.1.below b13 lR) (r1_119.2.below b13 lR)
      have r2_131 := And.intro (r2_120.1.below b13 lR) (r2_120.2.below b13 lR)
      have p1_132 := p1_121.below b13
      have p2_133 := p2_122.below b13
      have r4_134 := And.intro (r4_123.1.below b13 lR) (r4_123.2.below b13 lR)
      have p4_135 := p4_124.below b13
      have i10_136 := i10_125.below b13 lR
      have i11_137 := i11_126.below b13 lR
      have i12_138 := i12.below b13 lR
      have B_139 := B_127.trans (b13.mono B_127.size)
      clear r1_119 r2_120 p1_121 p2_122 r4_123 p4_124 i10_125 i11_126 i12 B_127
      have hq := p1_132; obtain ⟨k0, k1, k2, k3⟩ := hq
      go_wp2_with fail
      refine (Zcd x1 y1 A1 g1.length ca1 O1 o1.length co1 g1 o1 a128 r1_130 (by omega) (by omega)).mono ?_
      rintro e a140 hT
      clear k0 k1 k2 k3
      obtain ⟨A14, c14, rfl, i14, b14⟩ := RetO.lettersS H1.out H1B.out hT
      clear hT
      have r1_142 := And.intro (r1_130.1.below b14 lR) (r1_130.2.below b14 lR)
      have r2_143 := And.intro (r2_131.1.below b14 lR) (r2_131.2.below b14 lR)
      have p1_144 := p1_132.below b14
      have p2_145 := p2_133.below b14
      have r4_146 := And.intro (r4_134.1.below b14 lR) (r4_134.2.below b14 lR)
      have p4_147 := p4_135.below b14
      have i10_148 := i10_136.below b14 lR
      have i11_149 := i11_137.below b14 lR
      have i12_150 := i12_138.below b14 lR
      have i13_151 := i13.below b14 lR
      have B_152 := B_139.trans (b14.mono B_139.size)
      clear r1_130 r2_131 p1_132 p2_133 r4_134 p4_135 i10_136 i11_137 i12_138 i13 B_139
      clear r1_142
      clear r2_143
      clear r4_146
      clear p1_144
      clear p2_145
      clear p4_147
      go_upto_region 30 with (fail)
      go_cut [196] from 179 to 196 (fun s196 wx => s196 = .bool false ∧ Below a140.heap.size a140 wx)
      case first =>
       have z1 : (b3 != b3) = false := by simp
       go_wp2_with fail
       refine (Zcq A12 A13 T3.length c12 c13 T3 a140 i12_150 i13_151 (by omega)).mono ?_
       rintro e a153 ⟨rfl, b154⟩
       have i10_155 := i10_148.below b154 lR
       have i11_156 := i11_149.below b154 lR
       have i12_157 := i12_150.below b154 lR
       have i13_158 := i13_151.below b154 lR
       have i14_159 := i14.below b154 lR
       have B_160 := b154
       clear i10_148 i11_149 i12_150 i13_151 i14
       cases b1 with
       | false =>
        go_wp2
        go_meet
        exact ⟨rfl, B_160⟩
       | true =>
        go_wp2_with fail
        refine (Zcq A10 A14 T1.length c10 c14 T1 a153 i10_155 i14_159 (by omega)).mono ?_
        rintro e a161 ⟨rfl, b162⟩
        have i10_163 := i10_155.below b162 lR
        have i11_164 := i11_156.below b162 lR
        have i12_165 := i12_157.below b162 lR
        have i13_166 := i13_158.below b162 lR
        have i14_167 := i14_159.below b162 lR
        have B_168 := B_160.trans (b162.mono B_160.size)
        clear i10_155 i11_156 i12_157 i13_158 i14_159 B_160
        go_wp2
        go_meet
        exact ⟨rfl, B_168⟩
      case rest =>
       clear i13_151
       clear i14
       obtain ⟨rfl, hcut⟩ := hcut
       generalize wc = a153 at *
       have i10_154 := i10_148.below hcut lR
       have i11_155 := i11_149.below hcut lR
       have i12_156 := i12_150.below hcut lR
       have B_157 := B_152.trans (hcut.mono B_152.size)
       clear i10_148 i11_149 i12_150 B_152
       cases b1 with
       | false =>
        go_wp2
        go_meet
        exact B_157
       | true =>
        cases b2 with
        | false =>
         go_wp2
         go_meet
         exact B_157
        | true =>
         cases b3 with
         | false =>
          go_wp2
          go_meet
          exact B_157
         | true =>
          obtain ⟨hL, hK⟩ := then_table (c := ⟨xt, yt, gt, ot⟩) (Zbq HT.out HTB.out) (Zbq H1.out H1B.out) (Zbq H2.out H2B.out) (Zbq H3.out H3B.out)
          have HL := zH hL; have HK := zH hK
          have n9 : ((T3.length : Int) == T1.length) = true := by rw [hL]; simp
          clear hL hK HT HTB H1 H1B H2 H2B H3 H3B
          go_wp2
          go_loopw [213] (fun i wr => ∃ k j : Nat, k ≤ T1.length ∧ i = .int .i64 k ∧ wr = a153.drewN j) (fun i _ => T1.length - (intOf i).toNat)
          case atStart => exact ⟨0, 0, Nat.zero_le _, rfl, rfl⟩
          case round =>
           clear n9
           obtain ⟨k, j, hk, rfl, rfl⟩ := hrel
           by_cases hlt : k < T1.length
           ·obtain ⟨e1, e2, e3⟩ := HK.out k hlt
            have hk3 : k < T3.length := by have := HL.out; omega
            obtain ⟨X, hX⟩ : ∃ X : Nat, gi T1 k = X := ⟨_, (Int.toNat_of_nonneg e1).symm⟩
            rw [hX] at e2 e3
            rw [Int.toNat_natCast] at e3
            have hXQ : X < T2.length := by omega
            obtain ⟨kb, ob9, rfl, hkb, f1⟩ := (i10_154).at_ hlt
            rw [hX] at f1
            obtain ⟨kc, oc9, rfl, hkc, f2⟩ := (i11_155).at_ hXQ
            obtain ⟨kd, od9, rfl, hkd, f3⟩ := (i12_156).at_ hk3
            rw [e3] at f3
            generalize gi T2 X = VV at *
            have hne : (VV != VV) = false := by simp
            have hX0 : ¬ (X : Int) < 0 := by omega
            have hX1 : ¬ (T2.length : Int) ≤ (X : Int) := by omega
            clear e1 e2 e3 hX
            clear i10_154 i11_155 i12_156
            go_wp2_with fail
            go_quiet (fail)
            go_wp2
            go_roundw
            case rel => exact ⟨k + 1, _, by omega, by go_num, by first | rfl | exact World.drewN_drewN _ _ _⟩
            case measure => simp [intOf]; omega
           ·have hge : ¬ (k : Int) < T1.length := by omega
            have b9 : Below a87.heap.size a87 (a153.drewN j) := Zas B_157 j
            go_wp2
            go_meet
            exact b9
    case rest =>
     clear r1_89
     clear r2_90
     clear r4_95
     clear p1_91
     clear p2_92
     clear p4_96
     generalize wc = a98 at *
     have B_99 := B_97.trans (hcut.mono B_97.size)
     clear B_97
     clear HT HTB hgt hot
     go_wp2_with fail
     have hZ100 : RY a98 Z m := hZ.alt (Alt.of_new (S := fun _ => False) B_99) (fun _ _ _ _ h => h)
     go_wp2_with fail
     refine (DrawParseCircuit_any Z m d _ hZ100).mono ?_
     rintro e a101 ⟨sx, rfl, hsx, bD102⟩
     clear hZ100 hZ
     have B_103 := B_99.trans (bD102.mono B_99.size)
     clear B_99
     obtain ⟨⟨xp, yp, gp, op⟩, hCp⟩ : ∃ q9, (ansC (parseI sx) sx).getD ⟨0, 0, [], []⟩ = q9 := ⟨_, rfl⟩
     obtain ⟨pb, hpb⟩ : ∃ q9, (ansC (parseI sx) sx).isSome = q9 := ⟨_, rfl⟩
     have hlp := ansC_lens sx
     rw [hCp] at hlp
     dsimp only at hlp
     obtain ⟨hgp, hop⟩ := hlp
     have HP := zH hCp; have HPB := zH hpb
     clear hCp hpb
     go_wp2_with fail
     refine (ParseCircuit_any sx a101 (by omega) (hG0.below B_103 lR) (hT0.below B_103 lR) (hM0.below B_103 lR) (hE0.below B_103 lR)).mono ?_
     rintro e a104 hT
     obtain ⟨A5, ca5, O5, co5, rfl, r5, b5⟩ := RetC.lettersS HP.out HPB.out hT
     clear hT
     have B_106 := B_103.trans (b5.mono B_103.size)
     clear B_103
     have al107 : Below a104.heap.size a104 (a104.alloc (.cells #[.int .i64 xp, .int .i64 yp, .slice A5 gp.length ca5, .slice O5 op.length co5] 27)) := bA
     have z108 : (a104.alloc (.cells #[.int .i64 xp, .int .i64 yp, .slice A5 gp.length ca5, .slice O5 op.length co5] 27)).heap.size = a104.heap.size + 1 := by simp
     have p5_109 : BxC (a104.alloc (.cells #[.int .i64 xp, .int .i64 yp, .slice A5 gp.length ca5, .slice O5 op.length co5] 27)) a104.heap.size xp yp A5 gp.length ca5 O5 op.length co5 := BxC.new _ _
     have r5_110 := And.intro (r5.1.below al107 lR) (r5.2.below al107 lR)
     have B_111 := B_106.trans (al107.mono B_106.size)
     clear r5 B_106
     go_wp2_with fail
     generalize (a104.alloc (.cells #[.int .i64 xp, .int .i64 yp, .slice A5 gp.length ca5, .slice O5 op.length co5] 27)) = a112 at *
     clear al107
     refine (spec_ParseCircuit_any sx a112 (by omega)).mono ?_
     rintro e a113 hT
     obtain ⟨A6, ca6, O6, co6, rfl, r6, b6⟩ := RetC.lettersS HP.out HPB.out hT
     clear hT
     have r5_115 := And.intro (r5_110.1.below b6 lR) (r5_110.2.below b6 lR)
     have p5_116 := p5_109.below b6
     have B_117 := B_111.trans (b6.mono B_111.size)
     clear r5_110 p5_109 B_111
     have al118 : Below a113.heap.size a113 (a113.alloc (.cells #[.int .i64 xp, .int .i64 yp, .slice A6 gp.length ca6, .slice O6 op.length co6] 27)) := bA
     have z119 : (a113.alloc (.cells #[.int .i64 xp, .int .i64 yp, .slice A6 gp.length ca6, .slice O6 op.length co6] 27)).heap.size = a113.heap.size + 1 := by simp
     have p6_120 : BxC (a113.alloc (.cells #[.int .i64 xp, .int .i64 yp, .slice A6 gp.length ca6, .slice O6 op.length co6] 27)) a113.heap.size xp yp A6 gp.length ca6 O6 op.length co6 := BxC.new _ _
     have r5_121 := And.intro (r5_115.1.below al118 lR) (r5_115.2.below al118 lR)
     have p5_122 := p5_116.below al118
     have r6_123 := And.intro (r6.1.below al118 lR) (r6.2.below al118 lR)
     have B_124 := B_117.trans (al118.mono B_117.size)
     clear r5_115 p5_116 r6 B_117
     have z1 : (pb != pb) = false := by simp
     have hq := p5_122; obtain ⟨k0, k1, k2, k3⟩ := hq
     have hq := p6_120; obtain ⟨m0, m1, m2, m3⟩ := hq
     go_wp2_with fail
     generalize (a113.alloc (.cells #[.int .i64 xp, .int .i64 yp, .slice A6 gp.length ca6, .slice O6 op.length co6] 27)) = a125 at *
     clear al118
     refine (pSameCircuit_any xp yp A5 A6 gp.length ca5 ca6 O5 O6 op.length co5 co6 gp op _ r5_121 r6_123 (by omega) (by omega)).mono ?_
     rintro e a126 ⟨rfl, b127⟩
     clear k0 k1 k2 k3 m0 m1 m2 m3
     have r5_128 := And.intro (r5_121.1.below b127 lR) (r5_121.2.below b127 lR)
     have p5_129 := p5_122.below b127
     have r6_130 := And.intro (r6_123.1.below b127 lR) (r6_123.2.below b127 lR)
     have p6_131 := p6_120.below b127
     have B_132 := B_124.trans (b127.mono B_124.size)
     clear r5_121 p5_122 r6_123 p6_120 B_124
     clear z1
     clear r6_130
     clear p6_131
     cases pb with
     | false =>
      go_wp2
      go_ret
      exact ⟨rfl, B_132⟩
     | true =>
      obtain ⟨hc1, hc2⟩ := par_law (C := ⟨xp, yp, gp, op⟩) (Zbq HP.out HPB.out)
      dsimp only at hc1 hc2
      have HC1 := zH hc1; have HC2 := zH hc2
      clear hc1 hc2 HP HPB
      have hq := p5_129; obtain ⟨k0, k1, k2, k3⟩ := hq
      go_wp2_with fail
      have q9 := CircuitText_any xp yp A5 gp.length ca5 O5 op.length co5 gp op a126 r5_128 (by omega) (by omega) (hT0.below B_132 lR) (hG0.below B_132 lR)
      rw [HC1.out, HC2.out] at q9
      refine q9.mono ?_
      clear q9 k0 k1 k2 k3
      rintro e a133 ⟨rfl, b9⟩
      have r5_134 := And.intro (r5_128.1.below b9 lR) (r5_128.2.below b9 lR)
      have p5_135 := p5_129.below b9
      have B_136 := B_132.trans (b9.mono B_132.size)
      clear r5_128 p5_129 B_132
      have n9 : ((bs sx).toList == (bs sx).toList) = true := by simp
      go_wp2
      go_ret
      exact ⟨rfl, B_136⟩
end Go.Proofs.YtnhmfedegfcflaaGreatDoor.lawFnCircuits
