/- The width of a line, the program's lineWidth. Widths of parts from 0 to 10, texts below 2^21 bytes. -/
import Derived.Test.YtenknpcbbcbciaaGreatQS18
import Derived.Test.YtenknpcbbcbciaaGreatQS19
import Derived.Test.YtenknpcbbcbciaaGreatQS20
import Derived.Test.YtenknpcbbcbciaaGreatQS21
import Derived.Test.YtenknpcbbcbciaaGreatQS22
namespace Go.Proofs.YtenknpcbbcbciaaGreat
open Go.RowKit
set_option linter.unusedVariables false
set_option linter.unusedSimpArgs false
set_option maxRecDepth 100000 in
set_option maxHeartbeats 4000000 in
theorem lineWidth_6 (op nm : Str) (ps : List Str) (P : Option Addr) (q : Nat) (pt wd vl : Int) (B : Option Addr) (m c : Nat) (ws : List Int) (w : World) (hb : RI w B m ws) (hws : ∀ z ∈ ws, 0 ≤ z ∧ z ≤ 10) (hnm : shortS nm) (hop : shortS op) (hm : m ≤ 2097152) :
 Calls Tryz.prog 127 #[.agg #[.int .i64 6, .string (bs nm), .string (bs op), .slice P ps.length q, .int .i64 pt, .int .i64 wd, .int .i64 vl], .slice B m c] w fun e w' => e = .returned (.int .i64 (lineW ⟨6, nm, op, ps, pt, wd, vl⟩ ws)) ∧ Below w.heap.size w w' := by
 have hlw := hb.len
 have eb1 := eb_is
 have eb2 := Zeg
 have eb3 : (bs []).toList = [] := Zbp []
 by_cases hm1 : m = 1
 ·subst hm1
  have hl1 : ws.length = 1 := hlw
  obtain ⟨b, o, rfl, hbB, hc⟩ := hb.2 (by omega)
  have c0 := hc 0 (by omega)
  have u0 : 0 ≤ gi ws 0 ∧ gi ws 0 ≤ 10 := hws _ (Zbo (by omega))
  try rw [Nat.add_zero] at c0
  by_cases hn : nm = []
  ·have tn := bs_is hn
   have tn2 := Zdl hn
   by_cases eop : op = []
   ·subst eop
    by_cases ept : pt = 0
    ·subst ept
     by_cases ewd : wd = 0
     ·subst ewd
      by_cases evl : vl = 0
      ·subst evl
       have HR : Hid (lineW ⟨6, nm, [], ps, 0, 0, 0⟩ ws = gi ws 0) := zH (by simp [lineW, bareB, partsN, kindW, hn, hl1])
       clear  hn
       go_enter Tryz.func127, Tryz.ntmps127
       go_wp2
       all_goals (go_ret; exact ⟨by rw [HR.out]; rfl, fin1⟩)
      ·have tovl : (vl == 0) = false := by simp [evl]
       have tnvl : ((0 : Int) == vl) = false := by simp; omega
       have tbvl : ((0 : Int) != vl) = true := by simp; omega
       have tcvl : (vl != 0) = true := by simp; omega
       have HR : Hid (lineW ⟨6, nm, [], ps, 0, 0, vl⟩ ws = 0) := zH (by simp [lineW, bareB, partsN, hn, hl1, evl])
       clear  hn evl
       go_enter Tryz.func127, Tryz.ntmps127
       go_wp2
       all_goals (go_ret; exact ⟨by rw [HR.out]; rfl, fin1⟩)
     ·have towd : (wd == 0) = false := by simp [ewd]
      have tnwd : ((0 : Int) == wd) = false := by simp; omega
      have tbwd : ((0 : Int) != wd) = true := by simp; omega
      have tcwd : (wd != 0) = true := by simp; omega
      have HR : Hid (lineW ⟨6, nm, [], ps, 0, wd, vl⟩ ws = 0) := zH (by simp [lineW, bareB, partsN, hn, hl1, ewd])
      clear  hn ewd
      go_enter Tryz.func127, Tryz.ntmps127
      go_wp2
      all_goals (go_ret; exact ⟨by rw [HR.out]; rfl, fin1⟩)
    ·have topt : (pt == 0) = false := by simp [ept]
     have tnpt : ((0 : Int) == pt) = false := by simp; omega
     have tbpt : ((0 : Int) != pt) = true := by simp; omega
     have tcpt : (pt != 0) = true := by simp; omega
     have HR : Hid (lineW ⟨6, nm, [], ps, pt, wd, vl⟩ ws = 0) := zH (by simp [lineW, bareB, partsN, hn, hl1, ept])
     clear  hn ept
     go_enter Tryz.func127, Tryz.ntmps127
     go_wp2
     all_goals (go_ret; exact ⟨by rw [HR.out]; rfl, fin1⟩)
   ·have to1 := Zdk eop
    have to2 := Zcp eop
    have to3 := Zac eop
    have to4 := Zbd eop
    have to5 := Zdm eop
    have to6 := Zcq eop
    have HR : Hid (lineW ⟨6, nm, op, ps, pt, wd, vl⟩ ws = 0) := zH (by simp [lineW, bareB, partsN, hn, hl1, eop])
    clear  hn eop
    go_enter Tryz.func127, Tryz.ntmps127
    go_wp2
    all_goals (go_ret; exact ⟨by rw [HR.out]; rfl, fin1⟩)
  ·have tn := Zac hn
   have tn2 := Zbd hn
   have HR : Hid (lineW ⟨6, nm, op, ps, pt, wd, vl⟩ ws = 0) := zH (by simp [lineW, bareB, partsN, hn])
   clear  hn
   go_enter Tryz.func127, Tryz.ntmps127
   go_wp2
   all_goals (go_ret; exact ⟨by rw [HR.out]; rfl, fin1⟩)
 ·have tm : ((m : Int) == 1) = false := by simp; omega
  have tm2 : ((m : Int) != 1) = true := by simp; omega
  have hl1 : ¬ ws.length = 1 := by omega
  by_cases hn : nm = []
  ·have tn := bs_is hn
   have tn2 := Zdl hn
   have HR : Hid (lineW ⟨6, nm, op, ps, pt, wd, vl⟩ ws = 0) := zH (by simp [lineW, bareB, partsN, hn, hl1])
   clear  hn hl1
   go_enter Tryz.func127, Tryz.ntmps127
   go_wp2
   all_goals (go_ret; exact ⟨by rw [HR.out]; rfl, fin1⟩)
  ·have tn := Zac hn
   have tn2 := Zbd hn
   have HR : Hid (lineW ⟨6, nm, op, ps, pt, wd, vl⟩ ws = 0) := zH (by simp [lineW, bareB, partsN, hn])
   clear  hn
   go_enter Tryz.func127, Tryz.ntmps127
   go_wp2
   all_goals (go_ret; exact ⟨by rw [HR.out]; rfl, fin1⟩)
theorem lineWidth_any (x : Ln) (P : Option Addr) (q : Nat) (B : Option Addr) (m c : Nat) (ws : List Int) (w : World) (hb : RI w B m ws) (hws : ∀ z ∈ ws, 0 ≤ z ∧ z ≤ 10) (hnm : shortS x.name) (hop : shortS x.op) (hm : m ≤ 2097152) :
 Calls Tryz.prog 127 #[lnV x P q, .slice B m c] w fun e w' => e = .returned (.int .i64 (lineW x ws)) ∧ Below w.heap.size w w' := by
 obtain ⟨kd, nm, op, ps, pt, wd, vl⟩ := x
 by_cases k1 : kd = 1
 ·subst k1; exact lineWidth_1 op nm ps P q pt wd vl B m c ws w hb hws hnm hop hm
 by_cases k2 : kd = 2
 ·subst k2; exact lineWidth_2 op nm ps P q pt wd vl B m c ws w hb hws hnm hop hm
 by_cases k3 : kd = 3
 ·subst k3; exact lineWidth_3 op nm ps P q pt wd vl B m c ws w hb hws hnm hop hm
 by_cases k4 : kd = 4
 ·subst k4; exact lineWidth_4 op nm ps P q pt wd vl B m c ws w hb hws hnm hop hm
 by_cases k5 : kd = 5
 ·subst k5; exact lineWidth_5 op nm ps P q pt wd vl B m c ws w hb hws hnm hop hm
 by_cases k6 : kd = 6
 ·subst k6; exact lineWidth_6 op nm ps P q pt wd vl B m c ws w hb hws hnm hop hm
 exact lineWidth_else kd k1 k2 k3 k4 k5 k6 op nm ps P q pt wd vl B m c ws w hb hws hnm hop hm
end Go.Proofs.YtenknpcbbcbciaaGreat
