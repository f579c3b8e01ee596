/- The walk of the law FnWiresOf: whatever its arguments read as, it returns true and leaves what was there. No condition. -/
import Derived.Deep.CutRange
import Derived.Test.YtenknpcbbcbciaaGreatQP36
import Derived.Test.YtenknpcbbcbciaaGreatQP38
import Derived.Test.YtenknpcbbcbciaaGreatQP35
import Derived.Test.YtenknpcbbcbciaaGreatQP06
import Derived.Test.YtenknpcbbcbciaaGreatQP24
import Derived.Test.YtenknpcbbcbciaaGreatQP39
import Derived.Test.YtenknpcbbcbciaaGreatQP14
import Derived.Laws.CopyOwn
import Derived.Deep.RegionLaw
namespace Go.Proofs.YtenknpcbbcbciaaGreat.lawFnWiresOf
open Go.RowKit
set_option linter.unusedVariables false
set_option linter.unusedSimpArgs false
attribute [local go_sem] sepAt sepUpon pureAt pureUpon
theorem open_cs {w w' : World} {C : Ci} {e : Ending} (h : RetC w (some C) e w') : ∃ A c O d, e = .returned (.tuple #[.agg #[.int .i64 C.i0, .int .i64 C.i1, .slice A C.gs.length c, .slice O C.os.length d], .bool true]) ∧ (RG w' A C.gs.length C.gs ∧ RI w' O C.os.length C.os) ∧ Below w.heap.size w w' := by
  obtain ⟨A, c, O, d, h1, h2, h3⟩ := h
  exact ⟨A, c, O, d, h1, ⟨h2.1.reads, h2.2.1.reads⟩, h3⟩
theorem open_cn {w w' : World} {e : Ending} (h : RetC w none e w') : ∃ A c O d, e = .returned (.tuple #[.agg #[.int .i64 0, .int .i64 0, .slice A 0 c, .slice O 0 d], .bool false]) ∧ (RG w' A 0 [] ∧ RI w' O 0 []) ∧ Below w.heap.size w w' := by
  obtain ⟨A, c, O, d, h1, h2, h3⟩ := h
  exact ⟨A, c, O, d, h1, ⟨h2.1.reads, h2.2.1.reads⟩, h3⟩
theorem rd_drewN {w : World} {A O : Option Addr} {n m : Nat} {gs : List G3} {os : List Int} (h : RG w A n gs ∧ RI w O m os) (j : Nat) : RG (w.drewN j) A n gs ∧ RI (w.drewN j) O m os := h
theorem w64_id (n : Int) (h : -9223372036854775808 ≤ n ∧ n ≤ 9223372036854775807) : wrap64 n = n := by unfold wrap64; omega
theorem sameB_rf (xs : List Int) : sameB xs xs = true := by
  unfold sameB
  simp
theorem qInts_bl (A B : Option Addr) (n c d : Nat) (xs : List Int) (w : World) (ha : RI w A n xs) (hb : RI w B n xs) (hn : n ≤ 2097152) :
    Calls Tryz.prog 15 #[.slice A n c, .slice B n d] w fun e w' => e = .returned (.bool true) ∧ Below w.heap.size w w' := by
  refine (qInts_any A B n c n d xs xs w ha hb hn hn).mono ?_
  rintro e w' ⟨rfl, j, rfl⟩
  rw [sameB_rf]
  exact ⟨rfl, below_of_drewN j⟩
theorem wi_fit {l : List Ln} {nm : Str} : ((wiF l nm).getD []).length ≤ 10 := by
  cases h : wiF l nm with
  | none => simp
  | some ws =>
    obtain ⟨hg, h0, h1, h2⟩ := wi_wid h
    have := gi_bd (wids_bd l) (show (0 : Int) ≤ 0 ∧ (0 : Int) ≤ 10 by omega) (iFind l nm).toNat
    rw [Option.getD_some]
    omega
theorem RetO.letters {w w' : World} {o : Option (List Int)} {vs : List Int} {t : Bool} {e : Ending} (hv : o.getD [] = vs) (ht : o.isSome = t) (h : RetO w o e w') :
    ∃ A c, e = .returned (.tuple #[.slice A vs.length c, .bool t]) ∧ RI w' A vs.length vs ∧ Below w.heap.size w w' := by
  subst hv; subst ht
  obtain ⟨A, c, h1, h2, h3⟩ := h
  exact ⟨A, c, h1, h2.reads, h3⟩
theorem RetOR.letters {w w' : World} {o : Option (List Int)} {vs : List Int} {t : Bool} {e : Ending} (hv : o.getD [] = vs) (ht : o.isSome = t) (h : RetOR w o e w') :
    ∃ A c, e = .returned (.tuple #[.slice A vs.length c, .bool t]) ∧ RI w' A vs.length vs ∧ Below w.heap.size w w' := by
  subst hv; subst ht
  obtain ⟨A, c, h1, ⟨A', c', hv', h2, _⟩, h3⟩ := h
  simp only [Value.slice.injEq, true_and] at hv'
  obtain ⟨rfl, rfl⟩ := hv'
  exact ⟨A, c, h1, h2, h3⟩
theorem RetO.open_w {w w' : World} {U : List Int} {n : Nat} {e : Ending} (h : RetO w (some U) e w') (hn : U.length = n) : ∃ A c, e = .returned (.tuple #[.slice A n c, .bool true]) ∧ Own w' w.heap.size w'.heap.size (.slice A n c) n U ∧ Below w.heap.size w w' := by subst hn; exact h
theorem opt_letters {α : Type} {o : Option α} {d v : α} (hv : o.getD d = v) (ht : o.isSome = true) : o = some v := by
  cases o with
  | none => simp at ht
  | some x => rw [Option.getD_some] at hv; rw [hv]
theorem an_fit {l : List Ln} (hn : l.length ≤ 40) : ((anF l).getD []).length ≤ 40 := by
  cases h : anF l with
  | none => simp
  | some zs => rw [Option.getD_some, (an_sum h).2.1]; exact hn
set_option maxRecDepth 100000 in
set_option maxHeartbeats 80000000 in
theorem walk (Y : Option Addr) (n c : Nat) (Z : Option Addr) (m d : Nat) (w : World) (hY0 : RY0 w Y n) (hn : n ≤ 140737488355328) (hZ0 : RY0 w Z m) (hm : m ≤ 140737488355328) :
    Calls Tryz.prog 5 #[.slice Y n c, .slice Z m d] w fun e w' => e = .returned (.bool true) ∧ Below w.heap.size w w' := by
  have hwr : IntKind.i64.wrap ((n : Int) + m) = (n : Int) + m := by rw [IntKind.wrap_i64] <;> omega
  by_cases hs : (1048576 : Int) < (n : Int) + m
  · go_enter Tryz.func5, Tryz.ntmps5
    go_wp2
    go_ret
    exact ⟨rfl, Below.refl _ _⟩
  · have hnm : n + m ≤ 1048576 := by omega
    have hY : RY w Y n := hY0.ry (by omega)
    have hZ : RY w Z m := hZ0.ry (by omega)
    go_enter Tryz.func5, Tryz.ntmps5
    go_wp2_with fail
    refine (DrawWiresOf_any Y n c w hY).mono ?_
    rintro e a1 ⟨l, A0, k0, d0, nm, rfl, r0, p0, b2⟩
    clear hY
    have B_3 := b2
    have hk0 := p0.n40
    have hk0b : k0 ≤ 2097152 := by omega
    obtain ⟨ws, hws⟩ : ∃ q, (wiF l nm).getD [] = q := ⟨_, rfl⟩
    obtain ⟨wb, hwb⟩ : ∃ q, (wiF l nm).isSome = q := ⟨_, rfl⟩
    have hwl : ws.length ≤ 10 := by rw [← hws]; exact wi_fit
    have HWS := Lib.hid hws; have HWB := Lib.hid hwb
    clear hws hwb
    go_wp2_with fail
    go_wp2_with fail
    refine (WiresOf_any A0 k0 d0 l nm a1 r0 hk0b p0.cap p0.sh).mono ?_
    rintro e a4 hT
    obtain ⟨A1, c1, rfl, i1, b1⟩ := RetO.letters HWS.out HWB.out hT
    clear hT
    have r0_6 := r0.below b1 (Nat.le_refl _)
    have B_7 := B_3.trans (b1.mono B_3.size)
    clear r0 B_3
    clear b1
    go_wp2_with fail
    go_wp2_with fail
    refine (spec_WiresOf_any A0 k0 d0 l nm a4 r0_6 hk0b p0.cap p0.sh).mono ?_
    rintro e a8 hT
    obtain ⟨A2, c2, rfl, i2, b2⟩ := RetOR.letters HWS.out HWB.out hT
    clear hT
    have r0_10 := r0_6.below b2 (Nat.le_refl _)
    have i1_11 := i1.below b2 (Nat.le_refl _)
    have B_12 := B_7.trans (b2.mono B_7.size)
    clear r0_6 i1 B_7
    clear b2
    go_wp2_with fail
    have hZ13 : RY a8 Z m := hZ.alt (Alt.of_new (S := fun _ => False) B_12) (fun _ _ _ _ h => h)
    refine (DrawLineOfGate_any Z m d _ hZ13).mono ?_
    rintro e a14 ⟨p, A3, k3, d3, kk, rfl, hkk1, hkk2, r3, p3, bD⟩
    clear hZ13 hZ
    have r0_15 := r0_10.below bD (Nat.le_refl _)
    have i1_16 := i1_11.below bD (Nat.le_refl _)
    have i2_17 := i2.below bD (Nat.le_refl _)
    have B_18 := B_12.trans (bD.mono B_12.size)
    clear r0_10 i1_11 i2 B_12
    clear bD
    have hk3 := p3.n40
    have hk3b : k3 ≤ 2097152 := by omega
    have hpl : p.length ≤ 40 := by rw [r3.len]; exact hk3
    have hpl3 := Lib.hid r3.len
    obtain ⟨gi0, hgi⟩ : ∃ q, (lgF p kk).getD 0 = q := ⟨_, rfl⟩
    obtain ⟨gb, hgb⟩ : ∃ q, (lgF p kk).isSome = q := ⟨_, rfl⟩
    have HGI := Lib.hid hgi; have HGB := Lib.hid hgb
    clear hgi hgb
    go_wp2_with fail
    refine (LineOfGate_any A3 k3 d3 p kk _ r3 hk3b p3.cap p3.sh).mono ?_
    rintro e a19 ⟨he, b20⟩
    rw [HGI.out, HGB.out] at he
    subst he
    have r0_21 := r0_15.below b20 (Nat.le_refl _)
    have i1_22 := i1_16.below b20 (Nat.le_refl _)
    have i2_23 := i2_17.below b20 (Nat.le_refl _)
    have r3_24 := r3.below b20 (Nat.le_refl _)
    have B_25 := B_18.trans (b20.mono B_18.size)
    clear r0_15 i1_16 i2_17 r3 B_18
    go_wp2_with fail
    refine (spec_LineOfGate_any A3 k3 d3 p kk _ r3_24 hk3b p3.cap p3.sh).mono ?_
    rintro e a26 ⟨he, b27⟩
    rw [HGI.out, HGB.out] at he
    subst he
    have r0_28 := r0_21.below b27 (Nat.le_refl _)
    have i1_29 := i1_22.below b27 (Nat.le_refl _)
    have i2_30 := i2_23.below b27 (Nat.le_refl _)
    have r3_31 := r3_24.below b27 (Nat.le_refl _)
    have B_32 := B_25.trans (b27.mono B_25.size)
    clear r0_21 i1_22 i2_23 r3_24 B_25
    obtain ⟨zs, hzs⟩ : ∃ q, (anF p).getD [] = q := ⟨_, rfl⟩
    obtain ⟨zb, hzb⟩ : ∃ q, (anF p).isSome = q := ⟨_, rfl⟩
    have hzl : zs.length ≤ 40 := by rw [← hzs]; exact an_fit hpl
    have HZS := Lib.hid hzs; have HZB := Lib.hid hzb
    clear hzs hzb
    go_wp2_with fail
    go_wp2_with fail
    refine (AndsByLine_any A3 k3 d3 p a26 r3_31 hk3b p3.cap p3.sh).mono ?_
    rintro e a33 hT
    obtain ⟨A4, c4, rfl, i4, b4⟩ := RetO.letters HZS.out HZB.out hT
    clear hT
    have r0_35 := r0_28.below b4 (Nat.le_refl _)
    have i1_36 := i1_29.below b4 (Nat.le_refl _)
    have i2_37 := i2_30.below b4 (Nat.le_refl _)
    have r3_38 := r3_31.below b4 (Nat.le_refl _)
    have B_39 := B_32.trans (b4.mono B_32.size)
    clear r0_28 i1_29 i2_30 r3_31 B_32
    clear b4
    go_wp2_with fail
    go_wp2_with fail
    refine (spec_AndsByLine_any A3 k3 d3 p a33 r3_38 hk3b p3.cap p3.sh).mono ?_
    rintro e a40 hT
    obtain ⟨A5, c5, rfl, i5, b5⟩ := RetO.letters HZS.out HZB.out hT
    clear hT
    have r0_42 := r0_35.below b5 (Nat.le_refl _)
    have i1_43 := i1_36.below b5 (Nat.le_refl _)
    have i2_44 := i2_37.below b5 (Nat.le_refl _)
    have r3_45 := r3_38.below b5 (Nat.le_refl _)
    have i4_46 := i4.below b5 (Nat.le_refl _)
    have B_47 := B_39.trans (b5.mono B_39.size)
    clear r0_35 i1_36 i2_37 r3_38 i4 B_39
    clear b5
    have n1 : (wb != wb) = false := by simp
    have n2 : (gb != gb) = false := by simp
    have n3 : (gi0 != gi0) = false := by simp
    have n4 : (zb != zb) = false := by simp
    go_wp2_with fail
    refine (qInts_bl A1 A2 ws.length c1 c2 ws a40 i1_43 i2_44 (by omega)).mono ?_
    rintro e a48 ⟨rfl, b49⟩
    have r0_50 := r0_42.below b49 (Nat.le_refl _)
    have i1_51 := i1_43.below b49 (Nat.le_refl _)
    have i2_52 := i2_44.below b49 (Nat.le_refl _)
    have r3_53 := r3_45.below b49 (Nat.le_refl _)
    have i4_54 := i4_46.below b49 (Nat.le_refl _)
    have i5_55 := i5.below b49 (Nat.le_refl _)
    have B_56 := B_47.trans (b49.mono B_47.size)
    clear r0_42 i1_43 i2_44 r3_45 i4_46 i5 B_47
    go_wp2_with fail
    refine (qInts_bl A4 A5 zs.length c4 c5 zs a48 i4_54 i5_55 (by omega)).mono ?_
    rintro e a57 ⟨rfl, b58⟩
    have r0_59 := r0_50.below b58 (Nat.le_refl _)
    have i1_60 := i1_51.below b58 (Nat.le_refl _)
    have i2_61 := i2_52.below b58 (Nat.le_refl _)
    have r3_62 := r3_53.below b58 (Nat.le_refl _)
    have i4_63 := i4_54.below b58 (Nat.le_refl _)
    have i5_64 := i5_55.below b58 (Nat.le_refl _)
    have B_65 := B_56.trans (b58.mono B_56.size)
    clear r0_50 i1_51 i2_52 r3_53 i4_54 i5_55 B_56
    clear n1 n2 n3 n4
    clear i1_60
    clear i4_63
    go_upto_if 113 with (fail)
    go_cut [] from 113 to 127 (fun wx => Below a57.heap.size a57 wx)
    case first =>
      cases wb with
      | false =>
          go_wp2
          go_meet
          exact Below.refl _ _
      | true =>
          have hwi := opt_letters HWS.out HWB.out
          obtain ⟨hg, h0, h1, h2⟩ := wi_wid hwi
          clear HWS HWB hwi
          go_wp2_with fail
          refine (WidthOfName_ok A0 k0 d0 l nm _ r0_59 hk0b p0.cap p0.sh hg h0 h1).mono ?_
          rintro e a66 ⟨he, b67⟩
          rw [← h2] at he
          subst he
          clear hg h0 h1 h2
          have n5 : ((ws.length : Int) != ws.length) = false := by simp
          go_wp2
          go_meet
          exact b67
    case rest =>
      clear HWS HWB
      clear i2_61
      clear r0_59
      generalize wc = wd at *
      have r3_566 := r3_62.below hcut (Nat.le_refl _)
      have i5_567 := i5_64.below hcut (Nat.le_refl _)
      have B_568 := B_65.trans (hcut.mono B_65.size)
      clear r3_62 i5_64 B_65
      clear hcut
      rename_i K1 hK1
      refine hK1 _ _ ?_
      clear hK1
      go_step
      go_cut [] from 128 to 146 (fun wx => Below wd.heap.size wd wx)
      case first =>
        cases gb with
        | false =>
            go_wp2
            go_meet
            exact Below.refl _ _
        | true =>
            have hlg := opt_letters HGI.out HGB.out
            clear HGI HGB
            by_cases hkp : 0 < kk
            · obtain ⟨j, hj, hjl⟩ := lg_mono hlg hkp
              have hwk : IntKind.i64.wrap (kk - 1) = kk - 1 := by rw [IntKind.wrap_i64] <;> omega
              have hjn : ¬ gi0 < j := by omega
              go_wp2_with fail
              refine (LineOfGate_any A3 k3 d3 p (kk - 1) _ r3_566 hk3b p3.cap p3.sh).mono ?_
              rintro e a569 ⟨he, b570⟩
              rw [hj] at he
              subst he
              dsimp only [Option.getD_some, Option.isSome_some]
              clear hj hlg
              go_wp2
              go_meet
              exact b570
            · clear hlg
              go_wp2
              go_meet
              exact Below.refl _ _
      case rest =>
        clear HGI HGB
        generalize wc = we at *
        have r3_1069 := r3_566.below hcut (Nat.le_refl _)
        have i5_1070 := i5_567.below hcut (Nat.le_refl _)
        have B_1071 := B_568.trans (hcut.mono B_568.size)
        clear r3_566 i5_567 B_568
        clear hcut
        cases zb with
        | false =>
            go_wp2
            go_ret
            exact ⟨rfl, B_1071⟩
        | true =>
            have han := opt_letters HZS.out HZB.out
            obtain ⟨hco, hzn, hzsum, hzbd⟩ := an_sum han
            clear HZS HZB han
            have HCF : Hid (compF p = some ⟨sumI (insL p 0), sumI (insL p 1), (cc p).g, (cc p).os⟩) := Lib.hid (by unfold compF; rw [if_pos hco])
            obtain ⟨_, hcb⟩ := coB_good hco
            have HCT : Hid (ctF (sumI (insL p 0)) (sumI (insL p 1)) (cc p).g (cc p).os = some (cntK (cc p).g (cc p).g.length)) := Lib.hid (by unfold ctF; rw [if_pos hcb])
            have hcg : (cc p).g.length ≤ 300 := (circB_bd hcb).2.2.1
            have hco2 : (cc p).os.length ≤ 40 := (circB_bd hcb).2.2.2.1
            have hkl : (cntK (cc p).g (cc p).g.length).length = 4 := cntK_len _ _
            clear hco hcb
            generalize sumI (insL p 0) = cx at *
            generalize sumI (insL p 1) = cy at *
            generalize (cc p).g = cg at *
            generalize (cc p).os = co at *
            generalize cntK cg cg.length = ks at *
            go_wp2_with fail
            go_wp2_with fail
            have q1074 := CompileProgram_any A3 k3 d3 p we r3_1069 hk3b p3.cap p3.sh
            rw [HCF.out] at q1074
            refine q1074.mono ?_
            clear q1074
            rintro e a1072 hT
            obtain ⟨A6, ca6, O6, co6, rfl, r6, b6⟩ := open_cs hT
            clear hT
            dsimp only at r6 ⊢
            have r3_1075 := r3_1069.below b6 (Nat.le_refl _)
            have i5_1076 := i5_1070.below b6 (Nat.le_refl _)
            have B_1077 := B_1071.trans (b6.mono B_1071.size)
            clear r3_1069 i5_1070 B_1071
            clear b6
            have al1078 : Below a1072.heap.size a1072 (a1072.alloc (.cells #[.int .i64 cx, .int .i64 cy, .slice A6 cg.length ca6, .slice O6 co.length co6] 38)) := (Below.refl _ _).alloc (Nat.le_refl _) _
            have z1079 : (a1072.alloc (.cells #[.int .i64 cx, .int .i64 cy, .slice A6 cg.length ca6, .slice O6 co.length co6] 38)).heap.size = a1072.heap.size + 1 := by simp
            have p6_1080 : BxC (a1072.alloc (.cells #[.int .i64 cx, .int .i64 cy, .slice A6 cg.length ca6, .slice O6 co.length co6] 38)) a1072.heap.size cx cy A6 cg.length ca6 O6 co.length co6 := BxC.new _ _
            have r3_1081 := r3_1075.below al1078 (Nat.le_refl _)
            have i5_1082 := i5_1076.below al1078 (Nat.le_refl _)
            have r6_1083 := And.intro (r6.1.below al1078 (Nat.le_refl _)) (r6.2.below al1078 (Nat.le_refl _))
            have B_1084 := B_1077.trans (al1078.mono B_1077.size)
            clear r3_1075 i5_1076 r6 B_1077
            have hq := p6_1080; obtain ⟨k0, k1, k2, k3⟩ := hq
            go_wp2_with fail
            generalize (a1072.alloc (.cells #[.int .i64 cx, .int .i64 cy, .slice A6 cg.length ca6, .slice O6 co.length co6] 38)) = a1085 at *
            clear al1078
            have q1088 := CountGates_any cx cy A6 cg.length ca6 O6 co.length co6 cg co a1085 r6_1083 (by omega) (by omega)
            rw [HCT.out] at q1088
            refine q1088.mono ?_
            clear q1088
            rintro e a1086 hT
            clear k0 k1 k2 k3
            obtain ⟨A7, c7, rfl, i7, b7⟩ := RetO.open_w hT hkl
            have i7 := i7.reads
            clear hT
            have r3_1089 := r3_1081.below b7 (Nat.le_refl _)
            have i5_1090 := i5_1082.below b7 (Nat.le_refl _)
            have r6_1091 := And.intro (r6_1083.1.below b7 (Nat.le_refl _)) (r6_1083.2.below b7 (Nat.le_refl _))
            have p6_1092 := p6_1080.below b7
            have B_1093 := B_1084.trans (b7.mono B_1084.size)
            clear r3_1081 i5_1082 r6_1083 p6_1080 B_1084
            clear b7
            clear r6_1091
            clear p6_1092
            go_wp2_with fail
            go_wp2_with fail
            have q1096 := spec_CompileProgram_any A3 k3 d3 p a1086 r3_1089 hk3b p3.cap p3.sh
            rw [HCF.out] at q1096
            refine q1096.mono ?_
            clear q1096
            rintro e a1094 hT
            obtain ⟨A8, ca8, O8, co8, rfl, r8, b8⟩ := open_cs hT
            clear hT
            dsimp only at r8 ⊢
            have r3_1097 := r3_1089.below b8 (Nat.le_refl _)
            have i5_1098 := i5_1090.below b8 (Nat.le_refl _)
            have i7_1099 := i7.below b8 (Nat.le_refl _)
            have B_1100 := B_1093.trans (b8.mono B_1093.size)
            clear r3_1089 i5_1090 i7 B_1093
            clear b8
            have al1101 : Below a1094.heap.size a1094 (a1094.alloc (.cells #[.int .i64 cx, .int .i64 cy, .slice A8 cg.length ca8, .slice O8 co.length co8] 38)) := (Below.refl _ _).alloc (Nat.le_refl _) _
            have z1102 : (a1094.alloc (.cells #[.int .i64 cx, .int .i64 cy, .slice A8 cg.length ca8, .slice O8 co.length co8] 38)).heap.size = a1094.heap.size + 1 := by simp
            have p8_1103 : BxC (a1094.alloc (.cells #[.int .i64 cx, .int .i64 cy, .slice A8 cg.length ca8, .slice O8 co.length co8] 38)) a1094.heap.size cx cy A8 cg.length ca8 O8 co.length co8 := BxC.new _ _
            have r3_1104 := r3_1097.below al1101 (Nat.le_refl _)
            have i5_1105 := i5_1098.below al1101 (Nat.le_refl _)
            have i7_1106 := i7_1099.below al1101 (Nat.le_refl _)
            have r8_1107 := And.intro (r8.1.below al1101 (Nat.le_refl _)) (r8.2.below al1101 (Nat.le_refl _))
            have B_1108 := B_1100.trans (al1101.mono B_1100.size)
            clear r3_1097 i5_1098 i7_1099 r8 B_1100
            have hq := p8_1103; obtain ⟨k0, k1, k2, k3⟩ := hq
            go_wp2_with fail
            generalize (a1094.alloc (.cells #[.int .i64 cx, .int .i64 cy, .slice A8 cg.length ca8, .slice O8 co.length co8] 38)) = a1109 at *
            clear al1101
            have q1112 := spec_CountGates_any cx cy A8 cg.length ca8 O8 co.length co8 cg co a1109 r8_1107 (by omega) (by omega)
            rw [HCT.out] at q1112
            refine q1112.mono ?_
            clear q1112
            rintro e a1110 hT
            clear k0 k1 k2 k3
            obtain ⟨A9, c9, rfl, i9, b9⟩ := RetO.open_w hT hkl
            have i9 := i9.reads
            clear hT
            have r3_1113 := r3_1104.below b9 (Nat.le_refl _)
            have i5_1114 := i5_1105.below b9 (Nat.le_refl _)
            have i7_1115 := i7_1106.below b9 (Nat.le_refl _)
            have r8_1116 := And.intro (r8_1107.1.below b9 (Nat.le_refl _)) (r8_1107.2.below b9 (Nat.le_refl _))
            have p8_1117 := p8_1103.below b9
            have B_1118 := B_1108.trans (b9.mono B_1108.size)
            clear r3_1104 i5_1105 i7_1106 r8_1107 p8_1103 B_1108
            clear b9
            clear r8_1116
            clear p8_1117
            clear r3_1113
            go_wp2_with fail
            obtain ⟨b9, o9, hA9, hb9, e9⟩ := i9.at_ (show 1 < 4 by omega)
            have HQZ : Hid (((p.length : Int) == (k3 : Int)) = true) := Lib.hid (by rw [hpl3.out]; simp)
            obtain ⟨S, hS⟩ : ∃ S, gi ks 1 = S := ⟨_, rfl⟩
            rw [hS] at e9 hzsum
            have hqs : (S == S) = true := by simp
            have HB9 := Lib.hid i9; have HB7 := Lib.hid i7_1115; have HB5 : Hid (RI a1110 A5 p.length zs) := Lib.hid (by rw [← hzn]; exact i5_1114)
            have HZN := Lib.hid hzn
            subst hA9
            have HZD := Lib.hid hzbd; have HZS := Lib.hid hzsum
            clear hzbd hzsum hzn hS i9 i7_1115 i5_1114
            go_wp2_with fail
            refine wp_region_mem0 (31) [(⟨b9, o9 + 1, none⟩, .int .i64 S), (⟨b9, o9 + 1, none⟩, .int .i64 S)] [(13, [], []), (17, [], [])] [] [(13, Res.plain (.bool true)), (17, Res.plain (.int .i64 S))] (by kernel_rfl) (by kernel_rfl) (by kernel_rfl) (by simp only [CellsL, List.mem_cons, forall_eq_or_imp, List.not_mem_nil, false_implies, implies_true, and_true]; repeat (any_goals (apply And.intro)); all_goals (first | assumption | go_simp)) ?_
            simp only [List.take_succ_cons, List.take_zero, List.drop_succ_cons, List.drop_zero, List.take_nil, List.drop_nil, List.take, List.drop]
            repeat (first
              | ((with_reducible refine mem_pure0 ?_ ?_ ?_)
                 · exact rfl
                 · exact rfl
                 intro K hK
                 apply Exists.intro
                 refine ⟨fun w3 hw3 => ?_, ?_⟩
                 · have hcs := hw3
                   simp only [CellsL, List.mem_cons, forall_eq_or_imp, List.not_mem_nil, false_implies, implies_true, and_true] at hcs
                   clear hw3
                   go_simp
                   first | done | exact ⟨rfl, rfl⟩ | rfl
                 refine hK _ ?_
                 clear hK K
                 try simp only [Act.put, List.setIfInBounds_toArray, List.set_cons_zero, List.set_cons_succ])
              | ((with_reducible refine mem_skip ?_ ?_ ?_)
                 · exact rfl
                 · exact wanted_not rfl rfl rfl rfl
                 simp only [Act.put, List.setIfInBounds_toArray, List.set_cons_zero, List.set_cons_succ])
              | ((with_reducible refine mem_pure ?_ ?_ ?_)
                 · exact rfl
                 · exact wanted_some rfl rfl rfl rfl
                 intro K hK
                 apply Exists.intro
                 refine ⟨fun w3 hw3 => ?_, ?_⟩
                 · have hcs := hw3
                   simp only [CellsL, List.mem_cons, forall_eq_or_imp, List.not_mem_nil, false_implies, implies_true, and_true] at hcs
                   clear hw3
                   go_simp
                   first | done | exact ⟨rfl, rfl⟩ | rfl
                 refine hK _ ?_
                 clear hK K
                 try simp only [Act.put, List.setIfInBounds_toArray, List.set_cons_zero, List.set_cons_succ]))
            focus
              (with_reducible refine mem_plain (.bool true) ?_ ?_ ?_ ?_ (hw := ?_))
              · exact rfl
              · exact rfl
              · intro w3 hw3 hc3 hp3
                have hcs := hc3
                simp only [CellsL, List.mem_cons, forall_eq_or_imp, List.not_mem_nil, false_implies, implies_true, and_true] at hcs
                (go_simp; refine (qInts_bl A7 (some ⟨b9, o9, none⟩) 4 c7 c9 ks _ (HB7.out.below (alt_below hw3) (Nat.le_refl _)) (HB9.out.below (alt_below hw3) (Nat.le_refl _)) (by omega)).mono ?_; rintro e w4 ⟨rfl, k4⟩; exact retPost.mk_ (postPlain.mk_ k4))
              rotate_left
              · first | exact wanted_none rfl | exact wanted_some rfl rfl rfl rfl
              try simp only [Act.put, List.setIfInBounds_toArray, List.set_cons_zero, List.set_cons_succ]
            repeat (first
              | ((with_reducible refine mem_pure0 ?_ ?_ ?_)
                 · exact rfl
                 · exact rfl
                 intro K hK
                 apply Exists.intro
                 refine ⟨fun w3 hw3 => ?_, ?_⟩
                 · have hcs := hw3
                   simp only [CellsL, List.mem_cons, forall_eq_or_imp, List.not_mem_nil, false_implies, implies_true, and_true] at hcs
                   clear hw3
                   go_simp
                   first | done | exact ⟨rfl, rfl⟩ | rfl
                 refine hK _ ?_
                 clear hK K
                 try simp only [Act.put, List.setIfInBounds_toArray, List.set_cons_zero, List.set_cons_succ])
              | ((with_reducible refine mem_skip ?_ ?_ ?_)
                 · exact rfl
                 · exact wanted_not rfl rfl rfl rfl
                 simp only [Act.put, List.setIfInBounds_toArray, List.set_cons_zero, List.set_cons_succ])
              | ((with_reducible refine mem_pure ?_ ?_ ?_)
                 · exact rfl
                 · exact wanted_some rfl rfl rfl rfl
                 intro K hK
                 apply Exists.intro
                 refine ⟨fun w3 hw3 => ?_, ?_⟩
                 · have hcs := hw3
                   simp only [CellsL, List.mem_cons, forall_eq_or_imp, List.not_mem_nil, false_implies, implies_true, and_true] at hcs
                   clear hw3
                   go_simp
                   first | done | exact ⟨rfl, rfl⟩ | rfl
                 refine hK _ ?_
                 clear hK K
                 try simp only [Act.put, List.setIfInBounds_toArray, List.set_cons_zero, List.set_cons_succ]))
            focus
              (with_reducible refine mem_plain (.int .i64 S) ?_ ?_ ?_ ?_ (hw := ?_))
              · exact rfl
              · exact rfl
              · intro w3 hw3 hc3 hp3
                have hcs := hc3
                simp only [CellsL, List.mem_cons, forall_eq_or_imp, List.not_mem_nil, false_implies, implies_true, and_true] at hcs
                (go_simp; refine (qSum_any A5 p.length c5 zs _ (HB5.out.below (alt_below hw3) (Nat.le_refl _)) (by omega) (fun k hk => ⟨(HZD.out k (by rw [HZN.out]; exact hk)).1, Int.le_trans (HZD.out k (by rw [HZN.out]; exact hk)).2 (by decide)⟩)).mono ?_; rintro e w4 ⟨rfl, rfl⟩; rw [HZS.out]; exact retPost.mk_ (postPlain.mk_ (Below.refl _ _)))
              rotate_left
              · first | exact wanted_none rfl | exact wanted_some rfl rfl rfl rfl
              try simp only [Act.put, List.setIfInBounds_toArray, List.set_cons_zero, List.set_cons_succ]
            repeat (first
              | ((with_reducible refine mem_pure0 ?_ ?_ ?_)
                 · exact rfl
                 · exact rfl
                 intro K hK
                 apply Exists.intro
                 refine ⟨fun w3 hw3 => ?_, ?_⟩
                 · have hcs := hw3
                   simp only [CellsL, List.mem_cons, forall_eq_or_imp, List.not_mem_nil, false_implies, implies_true, and_true] at hcs
                   clear hw3
                   go_simp
                   first | done | exact ⟨rfl, rfl⟩ | rfl
                 refine hK _ ?_
                 clear hK K
                 try simp only [Act.put, List.setIfInBounds_toArray, List.set_cons_zero, List.set_cons_succ])
              | ((with_reducible refine mem_skip ?_ ?_ ?_)
                 · exact rfl
                 · exact wanted_not rfl rfl rfl rfl
                 simp only [Act.put, List.setIfInBounds_toArray, List.set_cons_zero, List.set_cons_succ])
              | ((with_reducible refine mem_pure ?_ ?_ ?_)
                 · exact rfl
                 · exact wanted_some rfl rfl rfl rfl
                 intro K hK
                 apply Exists.intro
                 refine ⟨fun w3 hw3 => ?_, ?_⟩
                 · have hcs := hw3
                   simp only [CellsL, List.mem_cons, forall_eq_or_imp, List.not_mem_nil, false_implies, implies_true, and_true] at hcs
                   clear hw3
                   go_simp
                   first | done | exact ⟨rfl, rfl⟩ | rfl
                 refine hK _ ?_
                 clear hK K
                 try simp only [Act.put, List.setIfInBounds_toArray, List.set_cons_zero, List.set_cons_succ]))
            refine wpSep_end ?_
            intro wy hwy hcy hfin hap
            have bwy := alt_below hwy
            clear hfin hap hcy hwy
            go_wp2
            go_ret
            exact ⟨by show Ending.returned (Value.bool ((p.length : Int) == (k3 : Int))) = _; rw [HQZ.out], B_1118.trans (bwy.mono B_1118.size)⟩
end Go.Proofs.YtenknpcbbcbciaaGreat.lawFnWiresOf
