/- The width of a line, the program's lineWidth, at one kind of lines. Widths of parts from 0 to 10, texts below 2^21 bytes. -/
import Derived.BigRegion
import Derived.Test.YtenknpcbbcbciaaGreatQP19
namespace Go.Proofs.YtenknpcbbcbciaaGreat
open Go.RowKit
set_option linter.unusedVariables false
set_option linter.unusedSimpArgs false
set_option maxRecDepth 100000 in
set_option maxHeartbeats 4000000 in
theorem lineWidth_else (kd : Int) (k1 : ¬ kd = 1) (k2 : ¬ kd = 2) (k3 : ¬ kd = 3) (k4 : ¬ kd = 4) (k5 : ¬ kd = 5) (k6 : ¬ kd = 6) (op nm : Str) (ps : List Str) (P : Option Addr) (q : Nat) (pt wd vl : Int) (B : Option Addr) (m c : Nat) (ws : List Int) (w : World) (hb : RI w B m ws) (hws : ∀ z ∈ ws, 0 ≤ z ∧ z ≤ 10) (hnm : shortS nm) (hop : shortS op) (hm : m ≤ 2097152) :
    Calls Tryz.prog 127 #[.agg #[.int .i64 kd, .string (bs nm), .string (bs op), .slice P ps.length q, .int .i64 pt, .int .i64 wd, .int .i64 vl], .slice B m c] w fun e w' => e = .returned (.int .i64 (lineW ⟨kd, nm, op, ps, pt, wd, vl⟩ ws)) ∧ Below w.heap.size w w' := by
  have hlw := hb.len
  have eb1 := eb_is
  have eb2 := ebn_is
  have eb3 : (bs []).toList = [] := bs_list []
  have t1 : (kd == 1) = false := by simp [k1]
  have t2 : (kd == 2) = false := by simp [k2]
  have t3 : (kd == 3) = false := by simp [k3]
  have t4 : (kd == 4) = false := by simp [k4]
  have t5 : (kd == 5) = false := by simp [k5]
  have t6 : (kd == 6) = false := by simp [k6]
  by_cases hn : nm = []
  · have tn := bs_is hn
    have tn2 := bsn_is hn
    have HR : Hid (lineW ⟨kd, nm, op, ps, pt, wd, vl⟩ ws = 0) := Lib.hid (by simp [lineW, bareB, partsN, kindW, k1, k2, k3, k4, k5, k6, hn, nmB])
    clear k1 k2 k3 k4 k5 k6 hn
    go_enter Tryz.func127, Tryz.ntmps127
    go_wp2
    all_goals (go_ret; exact ⟨by rw [HR.out]; rfl, (by repeat' (first | exact Below.refl _ _ | refine Below.drew ?_ | refine below_drewN ?_ _ | refine Below.alloc ?_ ?_ _ | refine Below.setCell ?_ ?_ _ | (simp; done) | (simp; omega)))⟩)
  · have tn := bs_not hn
    have tn2 := bsn_not hn
    cases hB : nmB nm with
    | false =>
      have HB := Lib.hid hB
      have HR : Hid (lineW ⟨kd, nm, op, ps, pt, wd, vl⟩ ws = 0) := Lib.hid (by simp [lineW, bareB, partsN, kindW, k1, k2, k3, k4, k5, k6, hn, hB])
      clear k1 k2 k3 k4 k5 k6 hn hB
      go_enter Tryz.func127, Tryz.ntmps127
      go_wp2_with fail
      refine (isName_any nm _ hnm).mono ?_
      rintro e w9 ⟨rfl, rfl⟩
      rw [HB.out]
      go_wp2
      all_goals (go_ret; exact ⟨by rw [HR.out]; rfl, (by repeat' (first | exact Below.refl _ _ | refine Below.drew ?_ | refine below_drewN ?_ _ | refine Below.alloc ?_ ?_ _ | refine Below.setCell ?_ ?_ _ | (simp; done) | (simp; omega)))⟩)
    | true =>
      have HB := Lib.hid hB
      by_cases hm0 : m = 0
      · subst hm0
        by_cases eop : op = []
        · subst eop
          by_cases ept : pt = 0
          · subst ept
            by_cases ewd : wd = 0
            · subst ewd
              by_cases evl : vl = 0
              · subst evl
                have HR : Hid (lineW ⟨kd, nm, [], ps, 0, 0, 0⟩ ws = 0) := Lib.hid (by simp [lineW, kindW, k1, k2, k3, k4, k5, k6])
                clear k1 k2 k3 k4 k5 k6 hn hB
                go_enter Tryz.func127, Tryz.ntmps127
                go_wp2_with fail
                refine (isName_any nm _ hnm).mono ?_
                rintro e w9 ⟨rfl, rfl⟩
                rw [HB.out]
                go_wp2
                all_goals (go_ret; exact ⟨by rw [HR.out]; rfl, (by repeat' (first | exact Below.refl _ _ | refine Below.drew ?_ | refine below_drewN ?_ _ | refine Below.alloc ?_ ?_ _ | refine Below.setCell ?_ ?_ _ | (simp; done) | (simp; omega)))⟩)
              · have tovl : (vl == 0) = false := by simp [evl]
                have tnvl : ((0 : Int) == vl) = false := by simp; omega
                have tbvl : ((0 : Int) != vl) = true := by simp; omega
                have tcvl : (vl != 0) = true := by simp; omega
                have HR : Hid (lineW ⟨kd, nm, [], ps, 0, 0, vl⟩ ws = 0) := Lib.hid (by simp [lineW, bareB, partsN, kindW, k1, k2, k3, k4, k5, k6, hn, hB, evl])
                clear k1 k2 k3 k4 k5 k6 hn hB evl
                go_enter Tryz.func127, Tryz.ntmps127
                go_wp2_with fail
                refine (isName_any nm _ hnm).mono ?_
                rintro e w9 ⟨rfl, rfl⟩
                rw [HB.out]
                go_wp2
                all_goals (go_ret; exact ⟨by rw [HR.out]; rfl, (by repeat' (first | exact Below.refl _ _ | refine Below.drew ?_ | refine below_drewN ?_ _ | refine Below.alloc ?_ ?_ _ | refine Below.setCell ?_ ?_ _ | (simp; done) | (simp; omega)))⟩)
            · have towd : (wd == 0) = false := by simp [ewd]
              have tnwd : ((0 : Int) == wd) = false := by simp; omega
              have tbwd : ((0 : Int) != wd) = true := by simp; omega
              have tcwd : (wd != 0) = true := by simp; omega
              have HR : Hid (lineW ⟨kd, nm, [], ps, 0, wd, vl⟩ ws = 0) := Lib.hid (by simp [lineW, bareB, partsN, kindW, k1, k2, k3, k4, k5, k6, hn, hB, ewd])
              clear k1 k2 k3 k4 k5 k6 hn hB ewd
              go_enter Tryz.func127, Tryz.ntmps127
              go_wp2_with fail
              refine (isName_any nm _ hnm).mono ?_
              rintro e w9 ⟨rfl, rfl⟩
              rw [HB.out]
              go_wp2
              all_goals (go_ret; exact ⟨by rw [HR.out]; rfl, (by repeat' (first | exact Below.refl _ _ | refine Below.drew ?_ | refine below_drewN ?_ _ | refine Below.alloc ?_ ?_ _ | refine Below.setCell ?_ ?_ _ | (simp; done) | (simp; omega)))⟩)
          · have topt : (pt == 0) = false := by simp [ept]
            have tnpt : ((0 : Int) == pt) = false := by simp; omega
            have tbpt : ((0 : Int) != pt) = true := by simp; omega
            have tcpt : (pt != 0) = true := by simp; omega
            have HR : Hid (lineW ⟨kd, nm, [], ps, pt, wd, vl⟩ ws = 0) := Lib.hid (by simp [lineW, bareB, partsN, kindW, k1, k2, k3, k4, k5, k6, hn, hB, ept])
            clear k1 k2 k3 k4 k5 k6 hn hB ept
            go_enter Tryz.func127, Tryz.ntmps127
            go_wp2_with fail
            refine (isName_any nm _ hnm).mono ?_
            rintro e w9 ⟨rfl, rfl⟩
            rw [HB.out]
            go_wp2
            all_goals (go_ret; exact ⟨by rw [HR.out]; rfl, (by repeat' (first | exact Below.refl _ _ | refine Below.drew ?_ | refine below_drewN ?_ _ | refine Below.alloc ?_ ?_ _ | refine Below.setCell ?_ ?_ _ | (simp; done) | (simp; omega)))⟩)
        · have to1 := eb_not eop
          have to2 := ebn_not eop
          have to3 := bs_not eop
          have to4 := bsn_not eop
          have to5 := be_not eop
          have to6 := ben_not eop
          have HR : Hid (lineW ⟨kd, nm, op, ps, pt, wd, vl⟩ ws = 0) := Lib.hid (by simp [lineW, bareB, partsN, kindW, k1, k2, k3, k4, k5, k6, hn, hB, eop])
          clear k1 k2 k3 k4 k5 k6 hn hB eop
          go_enter Tryz.func127, Tryz.ntmps127
          go_wp2_with fail
          refine (isName_any nm _ hnm).mono ?_
          rintro e w9 ⟨rfl, rfl⟩
          rw [HB.out]
          go_wp2
          all_goals (go_ret; exact ⟨by rw [HR.out]; rfl, (by repeat' (first | exact Below.refl _ _ | refine Below.drew ?_ | refine below_drewN ?_ _ | refine Below.alloc ?_ ?_ _ | refine Below.setCell ?_ ?_ _ | (simp; done) | (simp; omega)))⟩)
      · have tm : ((m : Int) != 0) = true := by simp; omega
        have HR : Hid (lineW ⟨kd, nm, op, ps, pt, wd, vl⟩ ws = 0) := Lib.hid (by simp [lineW, bareB, partsN, kindW, k1, k2, k3, k4, k5, k6, hn, hB])
        clear k1 k2 k3 k4 k5 k6 hn hB
        go_enter Tryz.func127, Tryz.ntmps127
        go_wp2_with fail
        refine (isName_any nm _ hnm).mono ?_
        rintro e w9 ⟨rfl, rfl⟩
        rw [HB.out]
        go_wp2
        all_goals (go_ret; exact ⟨by rw [HR.out]; rfl, (by repeat' (first | exact Below.refl _ _ | refine Below.drew ?_ | refine below_drewN ?_ _ | refine Below.alloc ?_ ?_ _ | refine Below.setCell ?_ ?_ _ | (simp; done) | (simp; omega)))⟩)
set_option maxRecDepth 100000 in
set_option maxHeartbeats 4000000 in
theorem lineWidth_1 (op nm : Str) (ps : List Str) (P : Option Addr) (q : Nat) (pt wd vl : Int) (B : Option Addr) (m c : Nat) (ws : List Int) (w : World) (hb : RI w B m ws) (hws : ∀ z ∈ ws, 0 ≤ z ∧ z ≤ 10) (hnm : shortS nm) (hop : shortS op) (hm : m ≤ 2097152) :
    Calls Tryz.prog 127 #[.agg #[.int .i64 1, .string (bs nm), .string (bs op), .slice P ps.length q, .int .i64 pt, .int .i64 wd, .int .i64 vl], .slice B m c] w fun e w' => e = .returned (.int .i64 (lineW ⟨1, nm, op, ps, pt, wd, vl⟩ ws)) ∧ Below w.heap.size w w' := by
  have hlw := hb.len
  have eb1 := eb_is
  have eb2 := ebn_is
  have eb3 : (bs []).toList = [] := bs_list []
  cases hF : inB 0 1 pt with
  | false =>
    have HF := Lib.hid hF
    have HR : Hid (lineW ⟨1, nm, op, ps, pt, wd, vl⟩ ws = 0) := Lib.hid (by simp [lineW, bareB, partsN, kindW, hF])
    clear hF
    go_enter Tryz.func127, Tryz.ntmps127
    go_wp2_with fail
    go_region
    go_wp2_with fail
    refine (isBit_any pt _).mono ?_
    rintro e w5 ⟨rfl, rfl⟩
    rw [HF.out]
    go_wp2
    all_goals (go_ret; exact ⟨by rw [HR.out]; rfl, (by repeat' (first | exact Below.refl _ _ | refine Below.drew ?_ | refine below_drewN ?_ _ | refine Below.alloc ?_ ?_ _ | refine Below.setCell ?_ ?_ _ | (simp; done) | (simp; omega)))⟩)
  | true =>
    have HF := Lib.hid hF
    cases hG : inB 1 10 wd with
    | false =>
      have HG := Lib.hid hG
      have HR : Hid (lineW ⟨1, nm, op, ps, pt, wd, vl⟩ ws = 0) := Lib.hid (by simp [lineW, bareB, partsN, kindW, hF, hG])
      clear hF hG
      go_enter Tryz.func127, Tryz.ntmps127
      go_wp2_with fail
      go_region
      go_wp2_with fail
      refine (isBit_any pt _).mono ?_
      rintro e w5 ⟨rfl, rfl⟩
      rw [HF.out]
      go_wp2_with fail
      refine (isWidth_any wd _).mono ?_
      rintro e w6 ⟨rfl, rfl⟩
      rw [HG.out]
      go_wp2
      all_goals (go_ret; exact ⟨by rw [HR.out]; rfl, (by repeat' (first | exact Below.refl _ _ | refine Below.drew ?_ | refine below_drewN ?_ _ | refine Below.alloc ?_ ?_ _ | refine Below.setCell ?_ ?_ _ | (simp; done) | (simp; omega)))⟩)
    | true =>
      have HG := Lib.hid hG
      by_cases hn : nm = []
      · have tn := bs_is hn
        have tn2 := bsn_is hn
        have HR : Hid (lineW ⟨1, nm, op, ps, pt, wd, vl⟩ ws = 0) := Lib.hid (by simp [lineW, bareB, partsN, kindW, hF, hG, hn, nmB])
        clear hF hG hn
        go_enter Tryz.func127, Tryz.ntmps127
        go_wp2_with fail
        go_region
        go_wp2_with fail
        refine (isBit_any pt _).mono ?_
        rintro e w5 ⟨rfl, rfl⟩
        rw [HF.out]
        go_wp2_with fail
        refine (isWidth_any wd _).mono ?_
        rintro e w6 ⟨rfl, rfl⟩
        rw [HG.out]
        go_wp2
        all_goals (go_ret; exact ⟨by rw [HR.out]; rfl, (by repeat' (first | exact Below.refl _ _ | refine Below.drew ?_ | refine below_drewN ?_ _ | refine Below.alloc ?_ ?_ _ | refine Below.setCell ?_ ?_ _ | (simp; done) | (simp; omega)))⟩)
      · have tn := bs_not hn
        have tn2 := bsn_not hn
        cases hB : nmB nm with
        | false =>
          have HB := Lib.hid hB
          have HR : Hid (lineW ⟨1, nm, op, ps, pt, wd, vl⟩ ws = 0) := Lib.hid (by simp [lineW, bareB, partsN, kindW, hF, hG, hn, hB])
          clear hF hG hn hB
          go_enter Tryz.func127, Tryz.ntmps127
          go_wp2_with fail
          go_region
          go_wp2_with fail
          refine (isBit_any pt _).mono ?_
          rintro e w5 ⟨rfl, rfl⟩
          rw [HF.out]
          go_wp2_with fail
          refine (isWidth_any wd _).mono ?_
          rintro e w6 ⟨rfl, rfl⟩
          rw [HG.out]
          go_wp2_with fail
          refine (isName_any nm _ hnm).mono ?_
          rintro e w9 ⟨rfl, rfl⟩
          rw [HB.out]
          go_wp2
          all_goals (go_ret; exact ⟨by rw [HR.out]; rfl, (by repeat' (first | exact Below.refl _ _ | refine Below.drew ?_ | refine below_drewN ?_ _ | refine Below.alloc ?_ ?_ _ | refine Below.setCell ?_ ?_ _ | (simp; done) | (simp; omega)))⟩)
        | true =>
          have HB := Lib.hid hB
          by_cases hm0 : m = 0
          · subst hm0
            by_cases eop : op = []
            · subst eop
              by_cases evl : vl = 0
              · subst evl
                have HR : Hid (lineW ⟨1, nm, [], ps, pt, wd, 0⟩ ws = wd) := Lib.hid (by simp [lineW, bareB, partsN, kindW, hF, hG, hn, hB, hlw])
                clear hF hG hn hB
                go_enter Tryz.func127, Tryz.ntmps127
                go_wp2_with fail
                go_region
                go_wp2_with fail
                refine (isBit_any pt _).mono ?_
                rintro e w5 ⟨rfl, rfl⟩
                rw [HF.out]
                go_wp2_with fail
                refine (isWidth_any wd _).mono ?_
                rintro e w6 ⟨rfl, rfl⟩
                rw [HG.out]
                go_wp2_with fail
                refine (isName_any nm _ hnm).mono ?_
                rintro e w9 ⟨rfl, rfl⟩
                rw [HB.out]
                go_wp2
                all_goals (go_ret; exact ⟨by rw [HR.out]; rfl, (by repeat' (first | exact Below.refl _ _ | refine Below.drew ?_ | refine below_drewN ?_ _ | refine Below.alloc ?_ ?_ _ | refine Below.setCell ?_ ?_ _ | (simp; done) | (simp; omega)))⟩)
              · have tovl : (vl == 0) = false := by simp [evl]
                have tnvl : ((0 : Int) == vl) = false := by simp; omega
                have tbvl : ((0 : Int) != vl) = true := by simp; omega
                have tcvl : (vl != 0) = true := by simp; omega
                have HR : Hid (lineW ⟨1, nm, [], ps, pt, wd, vl⟩ ws = 0) := Lib.hid (by simp [lineW, bareB, partsN, kindW, hF, hG, hn, hB, hlw, evl])
                clear hF hG hn hB evl
                go_enter Tryz.func127, Tryz.ntmps127
                go_wp2_with fail
                go_region
                go_wp2_with fail
                refine (isBit_any pt _).mono ?_
                rintro e w5 ⟨rfl, rfl⟩
                rw [HF.out]
                go_wp2_with fail
                refine (isWidth_any wd _).mono ?_
                rintro e w6 ⟨rfl, rfl⟩
                rw [HG.out]
                go_wp2_with fail
                refine (isName_any nm _ hnm).mono ?_
                rintro e w9 ⟨rfl, rfl⟩
                rw [HB.out]
                go_wp2
                all_goals (go_ret; exact ⟨by rw [HR.out]; rfl, (by repeat' (first | exact Below.refl _ _ | refine Below.drew ?_ | refine below_drewN ?_ _ | refine Below.alloc ?_ ?_ _ | refine Below.setCell ?_ ?_ _ | (simp; done) | (simp; omega)))⟩)
            · have to1 := eb_not eop
              have to2 := ebn_not eop
              have to3 := bs_not eop
              have to4 := bsn_not eop
              have to5 := be_not eop
              have to6 := ben_not eop
              have HR : Hid (lineW ⟨1, nm, op, ps, pt, wd, vl⟩ ws = 0) := Lib.hid (by simp [lineW, bareB, partsN, kindW, hF, hG, hn, hB, hlw, eop])
              clear hF hG hn hB eop
              go_enter Tryz.func127, Tryz.ntmps127
              go_wp2_with fail
              go_region
              go_wp2_with fail
              refine (isBit_any pt _).mono ?_
              rintro e w5 ⟨rfl, rfl⟩
              rw [HF.out]
              go_wp2_with fail
              refine (isWidth_any wd _).mono ?_
              rintro e w6 ⟨rfl, rfl⟩
              rw [HG.out]
              go_wp2_with fail
              refine (isName_any nm _ hnm).mono ?_
              rintro e w9 ⟨rfl, rfl⟩
              rw [HB.out]
              go_wp2
              all_goals (go_ret; exact ⟨by rw [HR.out]; rfl, (by repeat' (first | exact Below.refl _ _ | refine Below.drew ?_ | refine below_drewN ?_ _ | refine Below.alloc ?_ ?_ _ | refine Below.setCell ?_ ?_ _ | (simp; done) | (simp; omega)))⟩)
          · have tm : ((m : Int) != 0) = true := by simp; omega
            have hl1 : ¬ ws.length = 0 := by omega
            have HR : Hid (lineW ⟨1, nm, op, ps, pt, wd, vl⟩ ws = 0) := Lib.hid (by simp [lineW, bareB, partsN, kindW, hF, hG, hn, hB, hl1])
            clear hF hG hn hB hl1
            go_enter Tryz.func127, Tryz.ntmps127
            go_wp2_with fail
            go_region
            go_wp2_with fail
            refine (isBit_any pt _).mono ?_
            rintro e w5 ⟨rfl, rfl⟩
            rw [HF.out]
            go_wp2_with fail
            refine (isWidth_any wd _).mono ?_
            rintro e w6 ⟨rfl, rfl⟩
            rw [HG.out]
            go_wp2_with fail
            refine (isName_any nm _ hnm).mono ?_
            rintro e w9 ⟨rfl, rfl⟩
            rw [HB.out]
            go_wp2
            all_goals (go_ret; exact ⟨by rw [HR.out]; rfl, (by repeat' (first | exact Below.refl _ _ | refine Below.drew ?_ | refine below_drewN ?_ _ | refine Below.alloc ?_ ?_ _ | refine Below.setCell ?_ ?_ _ | (simp; done) | (simp; omega)))⟩)
set_option maxRecDepth 100000 in
set_option maxHeartbeats 4000000 in
theorem lineWidth_2 (op nm : Str) (ps : List Str) (P : Option Addr) (q : Nat) (pt wd vl : Int) (B : Option Addr) (m c : Nat) (ws : List Int) (w : World) (hb : RI w B m ws) (hws : ∀ z ∈ ws, 0 ≤ z ∧ z ≤ 10) (hnm : shortS nm) (hop : shortS op) (hm : m ≤ 2097152) :
    Calls Tryz.prog 127 #[.agg #[.int .i64 2, .string (bs nm), .string (bs op), .slice P ps.length q, .int .i64 pt, .int .i64 wd, .int .i64 vl], .slice B m c] w fun e w' => e = .returned (.int .i64 (lineW ⟨2, nm, op, ps, pt, wd, vl⟩ ws)) ∧ Below w.heap.size w w' := by
  have hlw := hb.len
  have eb1 := eb_is
  have eb2 := ebn_is
  have eb3 : (bs []).toList = [] := bs_list []
  cases hF : inB 1 10 wd with
  | false =>
    have HF := Lib.hid hF
    have HR : Hid (lineW ⟨2, nm, op, ps, pt, wd, vl⟩ ws = 0) := Lib.hid (by simp [lineW, bareB, partsN, kindW, hF])
    clear hF
    go_enter Tryz.func127, Tryz.ntmps127
    go_wp2_with fail
    go_region
    go_wp2_with fail
    refine (isWidth_any wd _).mono ?_
    rintro e w5 ⟨rfl, rfl⟩
    rw [HF.out]
    go_wp2
    all_goals (go_ret; exact ⟨by rw [HR.out]; rfl, (by repeat' (first | exact Below.refl _ _ | refine Below.drew ?_ | refine below_drewN ?_ _ | refine Below.alloc ?_ ?_ _ | refine Below.setCell ?_ ?_ _ | (simp; done) | (simp; omega)))⟩)
  | true =>
    have HF := Lib.hid hF
    have hwb := inB_iff.1 hF
    obtain ⟨X, rfl⟩ := Int.eq_ofNat_of_zero_le (show 0 ≤ wd by omega)
    have hX10 : X ≤ 10 := by omega
    obtain ⟨N, hN⟩ : ∃ N, N = 2 ^ X := ⟨_, rfl⟩
    have hN2 : (2 : Int) ^ X = (N : Int) := by rw [hN, Int.natCast_pow]; rfl
    have hP := pow_wrap hN hX10
    have hNb := hP.1
    have hsh := hP.2
    have hXt : ((X : Nat) : Int).toNat = X := by omega
    clear hP hN
    cases hG : inB 0 ((N : Int) - 1) vl with
    | false =>
      have HG := Lib.hid hG
      have HR : Hid (lineW ⟨2, nm, op, ps, pt, ((X : Nat) : Int), vl⟩ ws = 0) := Lib.hid (by simp [lineW, bareB, partsN, kindW, hF, hG, hXt, hN2])
      clear hF hG
      go_enter Tryz.func127, Tryz.ntmps127
      go_wp2_with fail
      go_region
      go_wp2_with fail
      refine (isWidth_any ((X : Nat) : Int) _).mono ?_
      rintro e w5 ⟨rfl, rfl⟩
      rw [HF.out]
      go_wp2_with fail
      refine (within_any vl 0 ((N : Int) - 1) _ HG.out _).mono ?_
      rintro e w6 ⟨rfl, rfl⟩
      go_wp2
      all_goals (go_ret; exact ⟨by rw [HR.out]; rfl, (by repeat' (first | exact Below.refl _ _ | refine Below.drew ?_ | refine below_drewN ?_ _ | refine Below.alloc ?_ ?_ _ | refine Below.setCell ?_ ?_ _ | (simp; done) | (simp; omega)))⟩)
    | true =>
      have HG := Lib.hid hG
      by_cases hn : nm = []
      · have tn := bs_is hn
        have tn2 := bsn_is hn
        have HR : Hid (lineW ⟨2, nm, op, ps, pt, ((X : Nat) : Int), vl⟩ ws = 0) := Lib.hid (by simp [lineW, bareB, partsN, kindW, hF, hG, hXt, hN2, hn, nmB])
        clear hF hG hn
        go_enter Tryz.func127, Tryz.ntmps127
        go_wp2_with fail
        go_region
        go_wp2_with fail
        refine (isWidth_any ((X : Nat) : Int) _).mono ?_
        rintro e w5 ⟨rfl, rfl⟩
        rw [HF.out]
        go_wp2_with fail
        refine (within_any vl 0 ((N : Int) - 1) _ HG.out _).mono ?_
        rintro e w6 ⟨rfl, rfl⟩
        go_wp2
        all_goals (go_ret; exact ⟨by rw [HR.out]; rfl, (by repeat' (first | exact Below.refl _ _ | refine Below.drew ?_ | refine below_drewN ?_ _ | refine Below.alloc ?_ ?_ _ | refine Below.setCell ?_ ?_ _ | (simp; done) | (simp; omega)))⟩)
      · have tn := bs_not hn
        have tn2 := bsn_not hn
        cases hB : nmB nm with
        | false =>
          have HB := Lib.hid hB
          have HR : Hid (lineW ⟨2, nm, op, ps, pt, ((X : Nat) : Int), vl⟩ ws = 0) := Lib.hid (by simp [lineW, bareB, partsN, kindW, hF, hG, hXt, hN2, hn, hB])
          clear hF hG hn hB
          go_enter Tryz.func127, Tryz.ntmps127
          go_wp2_with fail
          go_region
          go_wp2_with fail
          refine (isWidth_any ((X : Nat) : Int) _).mono ?_
          rintro e w5 ⟨rfl, rfl⟩
          rw [HF.out]
          go_wp2_with fail
          refine (within_any vl 0 ((N : Int) - 1) _ HG.out _).mono ?_
          rintro e w6 ⟨rfl, rfl⟩
          go_wp2_with fail
          refine (isName_any nm _ hnm).mono ?_
          rintro e w9 ⟨rfl, rfl⟩
          rw [HB.out]
          go_wp2
          all_goals (go_ret; exact ⟨by rw [HR.out]; rfl, (by repeat' (first | exact Below.refl _ _ | refine Below.drew ?_ | refine below_drewN ?_ _ | refine Below.alloc ?_ ?_ _ | refine Below.setCell ?_ ?_ _ | (simp; done) | (simp; omega)))⟩)
        | true =>
          have HB := Lib.hid hB
          by_cases hm0 : m = 0
          · subst hm0
            by_cases eop : op = []
            · subst eop
              by_cases ept : pt = 0
              · subst ept
                have HR : Hid (lineW ⟨2, nm, [], ps, 0, ((X : Nat) : Int), vl⟩ ws = (X : Int)) := Lib.hid (by simp [lineW, bareB, partsN, kindW, hF, hG, hXt, hN2, hn, hB, hlw])
                clear hF hG hn hB
                go_enter Tryz.func127, Tryz.ntmps127
                go_wp2_with fail
                go_region
                go_wp2_with fail
                refine (isWidth_any ((X : Nat) : Int) _).mono ?_
                rintro e w5 ⟨rfl, rfl⟩
                rw [HF.out]
                go_wp2_with fail
                refine (within_any vl 0 ((N : Int) - 1) _ HG.out _).mono ?_
                rintro e w6 ⟨rfl, rfl⟩
                go_wp2_with fail
                refine (isName_any nm _ hnm).mono ?_
                rintro e w9 ⟨rfl, rfl⟩
                rw [HB.out]
                go_wp2
                all_goals (go_ret; exact ⟨by rw [HR.out]; rfl, (by repeat' (first | exact Below.refl _ _ | refine Below.drew ?_ | refine below_drewN ?_ _ | refine Below.alloc ?_ ?_ _ | refine Below.setCell ?_ ?_ _ | (simp; done) | (simp; omega)))⟩)
              · have topt : (pt == 0) = false := by simp [ept]
                have tnpt : ((0 : Int) == pt) = false := by simp; omega
                have tbpt : ((0 : Int) != pt) = true := by simp; omega
                have tcpt : (pt != 0) = true := by simp; omega
                have HR : Hid (lineW ⟨2, nm, [], ps, pt, ((X : Nat) : Int), vl⟩ ws = 0) := Lib.hid (by simp [lineW, bareB, partsN, kindW, hF, hG, hXt, hN2, hn, hB, hlw, ept])
                clear hF hG hn hB ept
                go_enter Tryz.func127, Tryz.ntmps127
                go_wp2_with fail
                go_region
                go_wp2_with fail
                refine (isWidth_any ((X : Nat) : Int) _).mono ?_
                rintro e w5 ⟨rfl, rfl⟩
                rw [HF.out]
                go_wp2_with fail
                refine (within_any vl 0 ((N : Int) - 1) _ HG.out _).mono ?_
                rintro e w6 ⟨rfl, rfl⟩
                go_wp2_with fail
                refine (isName_any nm _ hnm).mono ?_
                rintro e w9 ⟨rfl, rfl⟩
                rw [HB.out]
                go_wp2
                all_goals (go_ret; exact ⟨by rw [HR.out]; rfl, (by repeat' (first | exact Below.refl _ _ | refine Below.drew ?_ | refine below_drewN ?_ _ | refine Below.alloc ?_ ?_ _ | refine Below.setCell ?_ ?_ _ | (simp; done) | (simp; omega)))⟩)
            · have to1 := eb_not eop
              have to2 := ebn_not eop
              have to3 := bs_not eop
              have to4 := bsn_not eop
              have to5 := be_not eop
              have to6 := ben_not eop
              have HR : Hid (lineW ⟨2, nm, op, ps, pt, ((X : Nat) : Int), vl⟩ ws = 0) := Lib.hid (by simp [lineW, bareB, partsN, kindW, hF, hG, hXt, hN2, hn, hB, hlw, eop])
              clear hF hG hn hB eop
              go_enter Tryz.func127, Tryz.ntmps127
              go_wp2_with fail
              go_region
              go_wp2_with fail
              refine (isWidth_any ((X : Nat) : Int) _).mono ?_
              rintro e w5 ⟨rfl, rfl⟩
              rw [HF.out]
              go_wp2_with fail
              refine (within_any vl 0 ((N : Int) - 1) _ HG.out _).mono ?_
              rintro e w6 ⟨rfl, rfl⟩
              go_wp2_with fail
              refine (isName_any nm _ hnm).mono ?_
              rintro e w9 ⟨rfl, rfl⟩
              rw [HB.out]
              go_wp2
              all_goals (go_ret; exact ⟨by rw [HR.out]; rfl, (by repeat' (first | exact Below.refl _ _ | refine Below.drew ?_ | refine below_drewN ?_ _ | refine Below.alloc ?_ ?_ _ | refine Below.setCell ?_ ?_ _ | (simp; done) | (simp; omega)))⟩)
          · have tm : ((m : Int) != 0) = true := by simp; omega
            have hl1 : ¬ ws.length = 0 := by omega
            have HR : Hid (lineW ⟨2, nm, op, ps, pt, ((X : Nat) : Int), vl⟩ ws = 0) := Lib.hid (by simp [lineW, bareB, partsN, kindW, hF, hG, hXt, hN2, hn, hB, hl1])
            clear hF hG hn hB hl1
            go_enter Tryz.func127, Tryz.ntmps127
            go_wp2_with fail
            go_region
            go_wp2_with fail
            refine (isWidth_any ((X : Nat) : Int) _).mono ?_
            rintro e w5 ⟨rfl, rfl⟩
            rw [HF.out]
            go_wp2_with fail
            refine (within_any vl 0 ((N : Int) - 1) _ HG.out _).mono ?_
            rintro e w6 ⟨rfl, rfl⟩
            go_wp2_with fail
            refine (isName_any nm _ hnm).mono ?_
            rintro e w9 ⟨rfl, rfl⟩
            rw [HB.out]
            go_wp2
            all_goals (go_ret; exact ⟨by rw [HR.out]; rfl, (by repeat' (first | exact Below.refl _ _ | refine Below.drew ?_ | refine below_drewN ?_ _ | refine Below.alloc ?_ ?_ _ | refine Below.setCell ?_ ?_ _ | (simp; done) | (simp; omega)))⟩)
end Go.Proofs.YtenknpcbbcbciaaGreat
