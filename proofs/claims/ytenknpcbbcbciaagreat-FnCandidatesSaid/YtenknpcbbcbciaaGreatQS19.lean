/- The width of a line, the program's lineWidth, at one kind of lines. Widths of parts from 0 to 10, texts below 2^21 bytes. -/
import Derived.Test.YtenknpcbbcbciaaGreatQS17
namespace Go.Proofs.YtenknpcbbcbciaaGreat
open Go.RowKit
set_option linter.unusedVariables false
set_option linter.unusedSimpArgs false
set_option maxRecDepth 100000 in
set_option maxHeartbeats 4000000 in
theorem lineWidth_2 (op nm : Str) (ps : List Str) (P : Option Addr) (q : Nat) (pt wd vl : Int) (B : Option Addr) (m c : Nat) (ws : List Int) (w : World) (hb : RI w B m ws) (hws : ∀ z ∈ ws, 0 ≤ z ∧ z ≤ 10) (hnm : shortS nm) (hop : shortS op) (hm : m ≤ 2097152) :
 Calls Tryz.prog 127 #[.agg #[.int .i64 2, .string (bs nm), .string (bs op), .slice P ps.length q, .int .i64 pt, .int .i64 wd, .int .i64 vl], .slice B m c] w fun e w' => e = .returned (.int .i64 (lineW ⟨2, nm, op, ps, pt, wd, vl⟩ ws)) ∧ Below w.heap.size w w' := by
 have hlw := hb.len
 have eb1 := eb_is
 have eb2 := Zeg
 have eb3 : (bs []).toList = [] := Zbp []
 cases hF : inB 1 10 wd with
 | false =>
  have HF := zH hF
  have HR : Hid (lineW ⟨2, nm, op, ps, pt, wd, vl⟩ ws = 0) := zH (by simp [lineW, bareB, partsN, kindW, hF])
  clear hF
  go_enter Tryz.func127, Tryz.ntmps127
  go_wp2_with fail
  go_region
  go_wp2_with fail
  refine (Zbb wd _).mono ?_
  rintro e w5 ⟨rfl, rfl⟩
  rw [HF.out]
  go_wp2
  all_goals (go_ret; exact ⟨by rw [HR.out]; rfl, fin1⟩)
 | true =>
  have HF := zH hF
  have hwb := inB_iff.1 hF
  obtain ⟨X, rfl⟩ := Int.eq_ofNat_of_zero_le (show 0 ≤ wd by omega)
  have hX10 : X ≤ 10 := by omega
  obtain ⟨N, hN⟩ : ∃ N, N = 2 ^ X := ⟨_, rfl⟩
  have hN2 : (2 : Int) ^ X = (N : Int) := by rw [hN, Int.natCast_pow]; rfl
  have hP := Zbl hN hX10
  have hNb := hP.1
  have hsh := hP.2
  have hXt : ((X : Nat) : Int).toNat = X := by omega
  clear hP hN
  cases hG : inB 0 ((N : Int) - 1) vl with
  | false =>
   have HG := zH hG
   have HR : Hid (lineW ⟨2, nm, op, ps, pt, ((X : Nat) : Int), vl⟩ ws = 0) := zH (by simp [lineW, bareB, partsN, kindW, hF, hG, hXt, hN2])
   clear hF hG
   go_enter Tryz.func127, Tryz.ntmps127
   go_wp2_with fail
   go_region
   go_wp2_with fail
   refine (Zbb ((X : Nat) : Int) _).mono ?_
   rintro e w5 ⟨rfl, rfl⟩
   rw [HF.out]
   go_wp2_with fail
   refine (Zap vl 0 ((N : Int) - 1) _ HG.out _).mono ?_
   rintro e w6 ⟨rfl, rfl⟩
   go_wp2
   all_goals (go_ret; exact ⟨by rw [HR.out]; rfl, fin1⟩)
  | true =>
   have HG := zH hG
   by_cases hn : nm = []
   ·have tn := bs_is hn
    have tn2 := Zdl hn
    have HR : Hid (lineW ⟨2, nm, op, ps, pt, ((X : Nat) : Int), vl⟩ ws = 0) := zH (by simp [lineW, bareB, partsN, kindW, hF, hG, hXt, hN2, hn, nmB])
    clear hF hG hn
    go_enter Tryz.func127, Tryz.ntmps127
    go_wp2_with fail
    go_region
    go_wp2_with fail
    refine (Zbb ((X : Nat) : Int) _).mono ?_
    rintro e w5 ⟨rfl, rfl⟩
    rw [HF.out]
    go_wp2_with fail
    refine (Zap vl 0 ((N : Int) - 1) _ HG.out _).mono ?_
    rintro e w6 ⟨rfl, rfl⟩
    go_wp2
    all_goals (go_ret; exact ⟨by rw [HR.out]; rfl, fin1⟩)
   ·have tn := Zac hn
    have tn2 := Zbd hn
    cases hB : nmB nm with
    | false =>
     have HB := zH hB
     have HR : Hid (lineW ⟨2, nm, op, ps, pt, ((X : Nat) : Int), vl⟩ ws = 0) := zH (by simp [lineW, bareB, partsN, kindW, hF, hG, hXt, hN2, hn, hB])
     clear hF hG hn hB
     go_enter Tryz.func127, Tryz.ntmps127
     go_wp2_with fail
     go_region
     go_wp2_with fail
     refine (Zbb ((X : Nat) : Int) _).mono ?_
     rintro e w5 ⟨rfl, rfl⟩
     rw [HF.out]
     go_wp2_with fail
     refine (Zap vl 0 ((N : Int) - 1) _ HG.out _).mono ?_
     rintro e w6 ⟨rfl, rfl⟩
     go_wp2_with fail
     refine (Zag nm _ hnm).mono ?_
     rintro e w9 ⟨rfl, rfl⟩
     rw [HB.out]
     go_wp2
     all_goals (go_ret; exact ⟨by rw [HR.out]; rfl, fin1⟩)
    | true =>
     have HB := zH hB
     by_cases hm0 : m = 0
     ·subst hm0
      by_cases eop : op = []
      ·subst eop
       by_cases ept : pt = 0
       ·subst ept
        have HR : Hid (lineW ⟨2, nm, [], ps, 0, ((X : Nat) : Int), vl⟩ ws = (X : Int)) := zH (by simp [lineW, bareB, partsN, kindW, hF, hG, hXt, hN2, hn, hB, hlw])
        clear hF hG hn hB
        go_enter Tryz.func127, Tryz.ntmps127
        go_wp2_with fail
        go_region
        go_wp2_with fail
        refine (Zbb ((X : Nat) : Int) _).mono ?_
        rintro e w5 ⟨rfl, rfl⟩
        rw [HF.out]
        go_wp2_with fail
        refine (Zap vl 0 ((N : Int) - 1) _ HG.out _).mono ?_
        rintro e w6 ⟨rfl, rfl⟩
        go_wp2_with fail
        refine (Zag nm _ hnm).mono ?_
        rintro e w9 ⟨rfl, rfl⟩
        rw [HB.out]
        go_wp2
        all_goals (go_ret; exact ⟨by rw [HR.out]; rfl, fin1⟩)
       ·have topt : (pt == 0) = false := by simp [ept]
        have tnpt : ((0 : Int) == pt) = false := by simp; omega
        have tbpt : ((0 : Int) != pt) = true := by simp; omega
        have tcpt : (pt != 0) = true := by simp; omega
        have HR : Hid (lineW ⟨2, nm, [], ps, pt, ((X : Nat) : Int), vl⟩ ws = 0) := zH (by simp [lineW, bareB, partsN, kindW, hF, hG, hXt, hN2, hn, hB, hlw, ept])
        clear hF hG hn hB ept
        go_enter Tryz.func127, Tryz.ntmps127
        go_wp2_with fail
        go_region
        go_wp2_with fail
        refine (Zbb ((X : Nat) : Int) _).mono ?_
        rintro e w5 ⟨rfl, rfl⟩
        rw [HF.out]
        go_wp2_with fail
        refine (Zap vl 0 ((N : Int) - 1) _ HG.out _).mono ?_
        rintro e w6 ⟨rfl, rfl⟩
        go_wp2_with fail
        refine (Zag nm _ hnm).mono ?_
        rintro e w9 ⟨rfl, rfl⟩
        rw [HB.out]
        go_wp2
        all_goals (go_ret; exact ⟨by rw [HR.out]; rfl, fin1⟩)
      ·have to1 := Zdk eop
       have to2 := Zcp eop
       have to3 := Zac eop
       have to4 := Zbd eop
       have to5 := Zdm eop
       have to6 := Zcq eop
       have HR : Hid (lineW ⟨2, nm, op, ps, pt, ((X : Nat) : Int), vl⟩ ws = 0) := zH (by simp [lineW, bareB, partsN, kindW, hF, hG, hXt, hN2, hn, hB, hlw, eop])
       clear hF hG hn hB eop
       go_enter Tryz.func127, Tryz.ntmps127
       go_wp2_with fail
       go_region
       go_wp2_with fail
       refine (Zbb ((X : Nat) : Int) _).mono ?_
       rintro e w5 ⟨rfl, rfl⟩
       rw [HF.out]
       go_wp2_with fail
       refine (Zap vl 0 ((N : Int) - 1) _ HG.out _).mono ?_
       rintro e w6 ⟨rfl, rfl⟩
       go_wp2_with fail
       refine (Zag nm _ hnm).mono ?_
       rintro e w9 ⟨rfl, rfl⟩
       rw [HB.out]
       go_wp2
       all_goals (go_ret; exact ⟨by rw [HR.out]; rfl, fin1⟩)
     ·have tm : ((m : Int) != 0) = true := by simp; omega
      have hl1 : ¬ ws.length = 0 := by omega
      have HR : Hid (lineW ⟨2, nm, op, ps, pt, ((X : Nat) : Int), vl⟩ ws = 0) := zH (by simp [lineW, bareB, partsN, kindW, hF, hG, hXt, hN2, hn, hB, hl1])
      clear hF hG hn hB hl1
      go_enter Tryz.func127, Tryz.ntmps127
      go_wp2_with fail
      go_region
      go_wp2_with fail
      refine (Zbb ((X : Nat) : Int) _).mono ?_
      rintro e w5 ⟨rfl, rfl⟩
      rw [HF.out]
      go_wp2_with fail
      refine (Zap vl 0 ((N : Int) - 1) _ HG.out _).mono ?_
      rintro e w6 ⟨rfl, rfl⟩
      go_wp2_with fail
      refine (Zag nm _ hnm).mono ?_
      rintro e w9 ⟨rfl, rfl⟩
      rw [HB.out]
      go_wp2
      all_goals (go_ret; exact ⟨by rw [HR.out]; rfl, fin1⟩)
end Go.Proofs.YtenknpcbbcbciaaGreat
