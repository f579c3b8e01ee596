/- Words of the law of merged circuits: qGates, qCircuit, qHas; WireValues and EvalCircuit where they succeed. Lengths below 2^21. -/
import Derived.Test.YtjeojnfpeppclaaQR16
import Derived.Laws.CopyOwn
namespace Go.Proofs.Ytjeojnfpeppclaa
open Go.RowKit
set_option linter.unusedVariables false
set_option linter.unusedSimpArgs false
attribute [local go_sem] sepAt sepUpon pureAt pureUpon
set_option maxHeartbeats 1000000 in
theorem areInputs_ok (x y : Int) (Ag : Option Addr) (ng cg : Nat) (Ao : Option Addr) (no co : Nat) (A B : Option Addr) (n c m d : Nat) (gs : List G3) (os us ws : List Int) (w : World) (hr : RG w Ag ng gs ∧ RI w Ao no os) (hng : ng ≤ 2097152) (hno : no ≤ 2097152) (hc : circB x y gs os = true) (ha : RI w A n us) (hb : RI w B m ws) (hn : (n : Int) = x) (hm : (m : Int) = y) (h1 : allB 0 1 us = true) (h2 : allB 0 1 ws = true) :
 Calls Try.prog 76 #[.agg #[.int .i64 x, .int .i64 y, .slice Ag ng cg, .slice Ao no co], .slice A n c, .slice B m d] w fun e w' => e = .returned (.bool true) ∧ Below w.heap.size w w' := by
 have hB : Below w.heap.size w (w.alloc (.cells #[.int .i64 x, .int .i64 y, .slice Ag ng cg, .slice Ao no co] 43)) := bA
 have hx0 : BxC (w.alloc (.cells #[.int .i64 x, .int .i64 y, .slice Ag ng cg, .slice Ao no co] 43)) w.heap.size x y Ag ng cg Ao no co := BxC.new w _
 obtain ⟨hx, hy, _, _, _, _⟩ := circB_bd hc
 have nb : n ≤ 20 := by omega
 have mb : m ≤ 20 := by omega
 have t1 : Hid (bitsB n 64 us = true) := zH (by unfold bitsB; rw [h1, decide_eq_true (show n ≤ 64 by omega)]; rfl)
 have t2 : Hid (bitsB m 64 ws = true) := zH (by unfold bitsB; rw [h2, decide_eq_true (show m ≤ 64 by omega)]; rfl)
 subst hn; subst hm
 have n1 : ((n : Int) == n) = true := by simp
 have n2 : ((m : Int) == m) = true := by simp
 have H0 := zH hc; clear hc
 have hq := hx0; obtain ⟨k0, k1, k2, k3⟩ := hq
 go_enter Try.func76, Try.ntmps76
 go_wp2_with fail
 refine (Zcd _ _ Ag ng cg Ao no co gs os _ (hr.1.below hB lR) (hr.2.below hB lR) hng hno).mono ?_
 rintro e v1 ⟨rfl, b1⟩
 rw [H0.out]
 have B1 := hB.trans (b1.mono hB.size)
 go_wp2_with fail
 refine (AreBits_any A n c us _ (ha.below B1 lR) (by omega)).mono ?_
 rintro e v2 ⟨rfl, b2⟩
 rw [t1.out]
 have B2 := B1.trans (b2.mono B1.size)
 go_wp2_with fail
 refine (AreBits_any B m d ws _ (hb.below B2 lR) (by omega)).mono ?_
 rintro e v3 ⟨rfl, b3⟩
 rw [t2.out]
 have B3 := B2.trans (b3.mono B2.size)
 have x3 := ((hx0.below b1).below b2).below b3
 clear k0 k1 k2 k3
 have hq := x3; obtain ⟨k0, k1, k2, k3⟩ := hq
 go_wp2
 go_ret
 exact ⟨by simp, B3⟩
set_option maxRecDepth 100000 in
set_option maxHeartbeats 2000000 in
theorem WireValues_ok (x y : Int) (Ag : Option Addr) (ng cg : Nat) (Ao : Option Addr) (no co : Nat) (A B : Option Addr) (n c m d : Nat) (gs : List G3) (os us ws : List Int) (w : World) (hr : RG w Ag ng gs ∧ RI w Ao no os) (hng : ng ≤ 2097152) (hno : no ≤ 2097152) (hc : circB x y gs os = true) (ha : RI w A n us) (hb : RI w B m ws) (hn : (n : Int) = x) (hm : (m : Int) = y) (h1 : allB 0 1 us = true) (h2 : allB 0 1 ws = true) :
 Calls Try.prog 52 #[.agg #[.int .i64 x, .int .i64 y, .slice Ag ng cg, .slice Ao no co], .slice A n c, .slice B m d] w (RetO w (some (vals gs (us ++ ws) ng))) := by
 have hB : Below w.heap.size w (w.alloc (.cells #[.int .i64 x, .int .i64 y, .slice Ag ng cg, .slice Ao no co] 43)) := bA
 have hx0 : BxC (w.alloc (.cells #[.int .i64 x, .int .i64 y, .slice Ag ng cg, .slice Ao no co] 43)) w.heap.size x y Ag ng cg Ao no co := BxC.new w _
 have hs0 : (w.alloc (.cells #[.int .i64 x, .int .i64 y, .slice Ag ng cg, .slice Ao no co] 43)).heap.size = w.heap.size + 1 := by simp
 obtain ⟨hx, hy, hg3, _, hgat, _⟩ := circB_bd hc
 have hlg := hr.1.len
 have hla := ha.len
 have hlb := hb.len
 rw [hlg] at hg3 hgat
 have hgat' : gatesB ((n + m : Nat) : Int) gs ng = true := by rw [show ((n + m : Nat) : Int) = x + y by omega]; exact hgat
 have hab : allB 0 1 (us ++ ws) = true := allB_iff.2 fun z hz => (List.mem_append.1 hz).elim (allB_iff.1 h1 z) (allB_iff.1 h2 z)
 have hvl : Hid ((vals gs (us ++ ws) ng).length = n + m + ng) := zH (by rw [Zbz, List.length_append, hla, hlb])
 have hq := hx0; obtain ⟨k0, k1, k2, k3⟩ := hq
 go_enter Try.func52, Try.ntmps52
 go_wp2_with fail
 refine (areInputs_ok x y Ag ng cg Ao no co A B n c m d gs os us ws _ ⟨hr.1.below hB lR, hr.2.below hB lR⟩ hng hno hc (ha.below hB lR) (hb.below hB lR) hn hm h1 h2).mono ?_
 rintro e v1 ⟨rfl, b1⟩
 have B1 := hB.trans (b1.mono hB.size)
 have x1 := hx0.below b1
 have hz1 := b1.size
 rw [hs0] at hz1
 clear k0 k1 k2 k3 hx0 b1 hB
 have hq := x1; obtain ⟨k0, k1, k2, k3⟩ := hq
 go_wp2_with fail
 refine Zau (7) [(⟨w.heap.size, 0, none⟩, .int .i64 x), (⟨w.heap.size, 1, none⟩, .int .i64 y), (⟨w.heap.size, 2, none⟩, .slice Ag ng cg), (⟨w.heap.size, 3, none⟩, .slice Ao no co)] [(3, [], []), (4, [3], [])] [4] [(3, Res.row v1.heap.size (n + m) (us ++ ws)), (4, Res.row v1.heap.size (n + m + ng) (vals gs (us ++ ws) ng))] (by kernel_rfl) (by kernel_rfl) (by kernel_rfl) (by simp only [cD, cC, and_true]; repeat (any_goals (apply And.intro)); all_goals (first | assumption | go_simp)) ?_
 simp only [List.take_succ_cons, List.take_zero, List.drop_succ_cons, List.drop_zero, List.take_nil, List.drop_nil, List.take, List.drop]
 repeat (first
  | ((first
   | ((with_reducible refine Zam ?_ ?_ ?_)
      ·exact rfl
      ·exact rfl)
   | ((with_reducible refine Zar ?_ ?_ ?_)
      ·exact rfl
      ·exact Zab rfl rfl rfl rfl))
     intro K hK
     apply Exists.intro
     refine ⟨fun w3 hw3 => ?_, ?_⟩
     ·have hcs := hw3
      simp only [cD, cC, and_true] at hcs
      clear hw3
      go_simp
      first | done | exact ⟨rfl, rfl⟩ | rfl
     refine hK _ ?_
     clear hK K
     try simp only [pA, pB, sA, sB, sC])
  | ((with_reducible refine Zaq ?_ ?_ ?_)
     ·exact rfl
     ·exact Zah rfl rfl rfl rfl
     simp only [pA, pB, sA, sB, sC]))
 focus
  (with_reducible refine mem_row v1.heap.size (n + m) (us ++ ws) ?_ ?_ ?_ ?_ ?_ (hw := ?_))
  ·exact rfl
  ·exact rfl
  ·omega
  ·intro w3 hw3 hc3 hp3
   have hcs := hc3
   simp only [cD, cC, and_true] at hcs
   (go_simp; have hb3 := B1.trans ((Zbh hw3).mono B1.size); refine (with_any A B n c m d us ws _ (ha.below hb3 lR) (hb.below hb3 lR) (by omega) (by omega)).mono ?_; rintro e w4 ⟨A4, c4, rfl, ho4, hb4⟩; exact retPost.mk_ (postRow.mk_ ho4 hb4))
  rotate_left
  ·first | exact Zaj rfl | exact Zab rfl rfl rfl rfl
  intro A3 c3
  try simp only [pA, pB, sA, sB, sC]
 repeat (first
  | ((first
   | ((with_reducible refine Zam ?_ ?_ ?_)
      ·exact rfl
      ·exact rfl)
   | ((with_reducible refine Zar ?_ ?_ ?_)
      ·exact rfl
      ·exact Zab rfl rfl rfl rfl))
     intro K hK
     apply Exists.intro
     refine ⟨fun w3 hw3 => ?_, ?_⟩
     ·have hcs := hw3
      simp only [cD, cC, and_true] at hcs
      clear hw3
      go_simp
      first | done | exact ⟨rfl, rfl⟩ | rfl
     refine hK _ ?_
     clear hK K
     try simp only [pA, pB, sA, sB, sC])
  | ((with_reducible refine Zaq ?_ ?_ ?_)
     ·exact rfl
     ·exact Zah rfl rfl rfl rfl
     simp only [pA, pB, sA, sB, sC]))
 focus
  (with_reducible refine mem_row v1.heap.size (n + m + ng) (vals gs (us ++ ws) ng) ?_ ?_ ?_ ?_ ?_ (hw := ?_))
  ·exact rfl
  ·exact rfl
  ·omega
  ·intro w3 hw3 hc3 hp3
   have hcs := hc3
   simp only [cD, cC, and_true] at hcs
   (have h9 : Own w3 v1.heap.size w3.heap.size (.slice A3 (n + m) c3) (n + m) (us ++ ws) := hp3.1.1.1; go_simp; have hb3 := B1.trans ((Zbh hw3).mono B1.size); refine (Circuit_values_any x y Ag ng cg Ao no co A3 (n + m) c3 gs (us ++ ws) _ (hr.1.below hb3 lR) h9.reads hab hgat' hg3 (by omega)).mono ?_; rintro e w4 hT; obtain ⟨A4, c4, rfl, ho4, hb4⟩ := hT.open_ hvl.out; exact retPost.mk_ (postRow.mk_ ho4 hb4))
  rotate_left
  ·first | exact Zaj rfl | exact Zab rfl rfl rfl rfl
  intro A5 c5
  try simp only [pA, pB, sA, sB, sC]
 repeat (first
  | ((first
   | ((with_reducible refine Zam ?_ ?_ ?_)
      ·exact rfl
      ·exact rfl)
   | ((with_reducible refine Zar ?_ ?_ ?_)
      ·exact rfl
      ·exact Zab rfl rfl rfl rfl))
     intro K hK
     apply Exists.intro
     refine ⟨fun w3 hw3 => ?_, ?_⟩
     ·have hcs := hw3
      simp only [cD, cC, and_true] at hcs
      clear hw3
      go_simp
      first | done | exact ⟨rfl, rfl⟩ | rfl
     refine hK _ ?_
     clear hK K
     try simp only [pA, pB, sA, sB, sC])
  | ((with_reducible refine Zaq ?_ ?_ ?_)
     ·exact rfl
     ·exact Zah rfl rfl rfl rfl
     simp only [pA, pB, sA, sB, sC]))
 refine Zbj ?_
 intro wy hwy hcy hfin hap
 have h4 : Own wy v1.heap.size wy.heap.size (.slice A5 (n + m + ng) c5) (n + m + ng) (vals gs (us ++ ws) ng) := hfin.1.1
 have By := B1.trans ((Zbh hwy).mono B1.size)
 go_wp2
 go_ret2
 exact RetO.some_ By rfl hvl.out rfl (h4.lo_ (by omega))
set_option maxHeartbeats 1000000 in
theorem EvalCircuit_ok (x y : Int) (Ag : Option Addr) (ng cg : Nat) (Ao : Option Addr) (no co : Nat) (A B : Option Addr) (n c m d : Nat) (gs : List G3) (os us ws : List Int) (w : World) (hr : RG w Ag ng gs ∧ RI w Ao no os) (hng : ng ≤ 2097152) (hno : no ≤ 2097152) (hc : circB x y gs os = true) (ha : RI w A n us) (hb : RI w B m ws) (hn : (n : Int) = x) (hm : (m : Int) = y) (h1 : allB 0 1 us = true) (h2 : allB 0 1 ws = true) :
 Calls Try.prog 24 #[.agg #[.int .i64 x, .int .i64 y, .slice Ag ng cg, .slice Ao no co], .slice A n c, .slice B m d] w (RetO w (some (pick (vals gs (us ++ ws) ng) os))) := by
 have hB : Below w.heap.size w (w.alloc (.cells #[.int .i64 x, .int .i64 y, .slice Ag ng cg, .slice Ao no co] 43)) := bA
 have hx0 : BxC (w.alloc (.cells #[.int .i64 x, .int .i64 y, .slice Ag ng cg, .slice Ao no co] 43)) w.heap.size x y Ag ng cg Ao no co := BxC.new w _
 obtain ⟨hx, hy, hg3, ho3, _, hao⟩ := circB_bd hc
 have hlg := hr.1.len
 have hlo := hr.2.len
 have hla := ha.len
 have hlb := hb.len
 rw [hlg] at hg3 hao
 have hvl : Hid ((vals gs (us ++ ws) ng).length = n + m + ng) := zH (by rw [Zbz, List.length_append, hla, hlb])
 have hpl : Hid ((pick (vals gs (us ++ ws) ng) os).length = no) := zH (by rw [pick_len]; exact hlo)
 have hao' : allB 0 (((n + m + ng : Nat) : Int) - 1) os = true := by rw [show ((n + m + ng : Nat) : Int) - 1 = x + y + ng - 1 by omega]; exact hao
 have hq := hx0; obtain ⟨k0, k1, k2, k3⟩ := hq
 go_enter Try.func24, Try.ntmps24
 go_wp2_with fail
 refine (WireValues_ok x y Ag ng cg Ao no co A B n c m d gs os us ws _ ⟨hr.1.below hB lR, hr.2.below hB lR⟩ hng hno hc (ha.below hB lR) (hb.below hB lR) hn hm h1 h2).mono ?_
 rintro e v1 hT
 obtain ⟨A1, c1, rfl, o1, b1⟩ := (show ∃ A c, e = .returned (.tuple #[.slice A (vals gs (us ++ ws) ng).length c, .bool true]) ∧ Own v1 _ v1.heap.size (.slice A (vals gs (us ++ ws) ng).length c) (vals gs (us ++ ws) ng).length (vals gs (us ++ ws) ng) ∧ Below _ _ v1 from hT)
 rw [hvl.out] at o1 ⊢
 have B1 := hB.trans (b1.mono hB.size)
 have x1 := hx0.below b1
 clear k0 k1 k2 k3 hx0 b1 hB hT
 have hq := x1; obtain ⟨k0, k1, k2, k3⟩ := hq
 go_wp2_with fail
 refine (at_any A1 Ao (n + m + ng) c1 no co (vals gs (us ++ ws) ng) os _ o1.reads (hr.2.below B1 lR) (by omega) (by omega) hao').mono ?_
 rintro e v2 hT
 obtain ⟨A2, c2, rfl, o2, b2⟩ := hT.open_ hpl.out
 go_wp2
 go_ret2
 exact RetO.some_ (B1.trans (b2.mono B1.size)) rfl hpl.out rfl (o2.lo_ B1.size)
end Go.Proofs.Ytjeojnfpeppclaa
