/- Contracts of the product's circuit. -/
import Derived.Test.YtimmjppkaadggaaQP15
import Derived.Test.YtimmjppkaadggaaQP18
namespace Go.Proofs.Ytimmjppkaadggaa
open Go.RowKit
set_option linter.unusedVariables false
set_option linter.unusedSimpArgs false
set_option maxRecDepth 100000 in
set_option maxHeartbeats 4000000 in
theorem gadget5_any (f : FuncId) (hcf : ∀ args w, Sem.run Try.prog (callFunc f args) w = .ok (.enter f args) w) (F : Nat → Go2) (a : Int) (w : World) (ha5 : a ≤ 5)
    (hok : ∀ n : Nat, 1 ≤ n → n ≤ 5 → circB (n : Nat) (n : Nat) (F n).g (F n).o = true)
    (hf : Hid (∀ (n lo b : Nat) (A B : Option Addr) (c d : Nat) (w1 : World), 1 ≤ n → n ≤ 5 → lo ≤ w1.heap.size → Mk w1 lo b n n [] none → RM w1 b none A n (spn 0 n) → RM w1 b none B n (spn n n) →
      Calls Try.prog f #[.pointer (some ⟨b, 0, none⟩), .slice A n c, .slice B n d] w1 (RetRow lo b n n (F n).g (F n).o none w1))) :
    Calls Try.prog 39 #[.int .i64 a, .func (.func f) #[] #[]] w (RetC w (gadF F 8 a)) := by
  have hB : Below w.heap.size w (w.alloc (.cells #[.int .i64 0, .int .i64 0, .slice none 0 0, .slice none 0 0] 27)) := (Below.refl _ _).alloc (Nat.le_refl _) _
  have hx0 : BxC (w.alloc (.cells #[.int .i64 0, .int .i64 0, .slice none 0 0, .slice none 0 0] 27)) w.heap.size 0 0 none 0 0 none 0 0 := BxC.new w _
  cases h0 : inB 1 8 a with
  | false =>
    have HR : Hid (gadF F 8 a = none) := Lib.hid (by simp [gadF, h0])
    have H0 := Lib.hid h0; clear h0
    go_enter Try.func39, Try.ntmps39
    go_wp2_with fail
    refine (isOperand_any a _).mono ?_
    rintro e w1 ⟨rfl, rfl⟩
    rw [H0.out]
    go_wp2
    have hq9 := BxC.set4 (hx0) 0 0 none 0 0 none 0 0
    obtain ⟨q0, q1, q2, q3⟩ := hq9
    refine bodyPost_ret (v := .tuple #[.agg #[.int .i64 0, .int .i64 0, .slice none 0 0, .slice none 0 0], .bool false]) (by simp [results, Try.results39, go_sem, q0, q1, q2, q3]) rfl ?_
    exact RetC.none_ hB HR.out rfl
  | true =>
    have hab := inB_iff.1 h0
    obtain ⟨n, rfl⟩ : ∃ n : Nat, a = n := ⟨a.toNat, by omega⟩
    have h1 : 1 ≤ n := by omega
    have h8 : n ≤ 5 := by omega
    have HR : Hid (gadF F 8 (n : Int) = some ⟨n, n, (F n).g, (F n).o⟩) := Lib.hid (by simp [gadF, h0])
    have H0 := Lib.hid h0; clear h0 hab
    have HOK := Lib.hid (hok n h1 h8)
    have HF := Lib.hid (fun lo b A B c d w1 => hf.out n lo b A B c d w1 h1 h8)
    have hl3 := spn_len 0 n
    have hl4 := spn_len n n
    clear hf hok
    have hl : (F n).g.length ≤ 300 ∧ (F n).o.length ≤ 40 := by have := circB_bd HOK.out; omega
    generalize F n = T at *
    obtain ⟨gs, os⟩ := T
    dsimp only at hl
    obtain ⟨m, hm⟩ : ∃ m, Hid (os.length = m) := ⟨_, Lib.hid rfl⟩
    have hm0 := Mk.new (w.alloc (.cells #[.int .i64 0, .int .i64 0, .slice none 0 0, .slice none 0 0] 27)) (w.heap.size + 1) (n : Int) (n : Int) 66
    have hB2 := hB.alloc hB.size (.cells #[.int .i64 n, .int .i64 n, .slice none 0 0, .slice none 0 0] 66)
    have hx2 := hx0.below ((Below.refl _ _).alloc (Nat.le_refl _) (.cells #[.int .i64 n, .int .i64 n, .slice none 0 0, .slice none 0 0] 66))
    simp only [World.size_alloc] at hm0
    go_enter Try.func39, Try.ntmps39
    go_wp2_with fail
    refine (isOperand_any n _).mono ?_
    rintro e w1 ⟨rfl, rfl⟩
    rw [H0.out]
    go_wp2_with fail
    refine (span_any 0 n _ (by omega) (by omega)).mono ?_
    rintro e w3 hT
    obtain ⟨A3, c3, rfl, hown3, hb3⟩ := hT.open_ hl3
    have hx3 := hx2.below hb3
    have hm3 := hm0.below_ hb3 (Nat.le_refl _)
    have hB3 := hB2.trans (hb3.mono hB2.size)
    go_wp2_with fail
    refine (span_any n n _ (by omega) (by omega)).mono ?_
    rintro e w4 hT
    obtain ⟨A4, c4, rfl, hown4, hb4⟩ := hT.open_ hl4
    have hx4 := hx3.below hb4
    have hm4 := hm3.below_ hb4 (Nat.le_refl _)
    have hB4 := hB3.trans (hb4.mono hB3.size)
    have hr3 := RM.ofOwn (b := w.heap.size + 1) (hown3.below hb4 (.inl (Nat.le_refl _))) (by simp)
    have hz3 := hb3.size
    simp only [World.size_alloc] at hz3
    have hr4 := RM.ofOwn (b := w.heap.size + 1) hown4 (by omega)
    have hz4 := hB4.size
    have hz4' := hb4.size
    clear hx0 hx2 hx3 hm0 hm3 hB hB2 hB3 hown3 hown4
    go_wp2_with fail
    refine (HF.out (w.heap.size + 1) (w.heap.size + 1) A3 A4 c3 c4 w4 (by omega) hm4 hr3 hr4).mono ?_
    rintro e w5 hT
    obtain ⟨G5, O5, oc5, rfl, hm5, hv5, ho5⟩ := hT.open_ hm.out
    have hx5 : BxC w5 w.heap.size 0 0 none 0 0 none 0 0 := ⟨hv5.cellF hx4.1 ⟨by simp, by simp⟩, hv5.cellF hx4.2.1 ⟨by simp, by simp⟩, hv5.cellF hx4.2.2.1 ⟨by simp, by simp⟩, hv5.cellF hx4.2.2.2 ⟨by simp, by simp⟩⟩
    have hB5 := hv5.toBelow hB4 (by omega) (by simp) hz4
    obtain ⟨Ag, cg, hx6, hx7, hw7, hfz⟩ := hm5.circuit ho5 (by omega)
    have hB7 := hB5.setCell (p := ⟨w.heap.size + 1, 3, none⟩) (by show w.heap.size ≤ w.heap.size + 1; omega) (.slice O5 m oc5)
    have hx8 : BxC (w5.setCell ⟨w.heap.size + 1, 3, none⟩ (.slice O5 m oc5)) w.heap.size 0 0 none 0 0 none 0 0 := ⟨(World.cell?_setCell_other _ _ _ _ (by simp)).trans hx5.1, (World.cell?_setCell_other _ _ _ _ (by simp)).trans hx5.2.1, (World.cell?_setCell_other _ _ _ _ (by simp)).trans hx5.2.2.1, (World.cell?_setCell_other _ _ _ _ (by simp)).trans hx5.2.2.2⟩
    obtain ⟨i0, i1, i2, i3⟩ := hx7
    obtain ⟨j0, j1, j2, j3⟩ := hx6
    clear hm5 ho5 hx5 hx4 hm4 hr3 hr4
    have hmo := hm.out
    go_wp2_with fail
    refine (valid_t n n Ag gs.length cg O5 m oc5 gs os _ hw7.reads.1 hw7.reads.2 (by omega) (by omega) HOK.out).mono ?_
    rintro e w8 ⟨rfl, hb8⟩
    have hB8 := hB7.trans (hb8.mono hB7.size)
    have f8 : Fz w8 w.heap.size := ((((((Fz.new w _ _).below ((Below.refl _ _).alloc (Nat.le_refl _) (.cells #[.int .i64 n, .int .i64 n, .slice none 0 0, .slice none 0 0] 66)) (by simp)).below hb3 (by simp; omega)).below hb4 (by omega)).mv hv5 (by omega) ⟨by simp, by simp⟩).set _ _).below hb8 (by simp; have := hv5.size; omega)
    have g0 := f8 0; have g1 := f8 1; have g2 := f8 2; have g3 := f8 3
    have hx9 := hx8.below hb8
    have hy9 := hx9; obtain ⟨l0, l1, l2, l3⟩ := hy9
    have hw8 := (hw7.below hb8 (.inl (Nat.le_refl _))).hi_ (show w5.heap.size ≤ w8.heap.size by simpa using hb8.size)
    go_wp2
    have hq9 := BxC.set4 (hx9) (n : Int) (n : Int) Ag gs.length cg O5 m oc5
    obtain ⟨q0, q1, q2, q3⟩ := hq9
    refine bodyPost_ret (v := .tuple #[.agg #[.int .i64 (n : Int), .int .i64 (n : Int), .slice Ag gs.length cg, .slice O5 m oc5], .bool true]) (by simp [results, Try.results39, go_sem, q0, q1, q2, q3]) rfl ?_
    exact RetC.some_ (below_set4 hB8 (Nat.le_refl _) _ _ _ _ _ _ _ _) HR.out rfl hm.out rfl (by rw [set4_size]; exact ((hw8.set4 (.inl (by omega)) _ _ _ _ _ _ _ _).lo_ (by omega)))
set_option maxRecDepth 100000 in
set_option maxHeartbeats 1600000 in
theorem Product_1_any (n lo b : Nat) (A B : Option Addr) (c d : Nat) (w : World) (h1 : 1 ≤ n) (h8 : n ≤ 8) (hlo : lo ≤ w.heap.size) (hm : Mk w lo b n n [] none) (ha : RM w b none A n (spn 0 n)) (hb : RM w b none B n (spn n n)) :
    Calls Try.prog 45 #[.pointer (some ⟨b, 0, none⟩), .slice A n c, .slice B n d] w (RetRow lo b n n (prodG n).g (prodG n).o none w) := by
  have hx : 0 ≤ (n : Int) ∧ (n : Int) ≤ 20 := by omega
  go_enter Try.func45, Try.ntmps45
  go_wp2_with fail
  refine (maker_product_any lo b n n [] none A B n c d _ _ _ hm ha hb hx hx (by simp) h8 h1 hlo).mono ?_
  rintro e w2 hT
  obtain ⟨G2, O2, oc2, rfl, hm2, hv2, ho2⟩ := hT
  go_wp2
  go_ret
  exact ⟨G2, O2, oc2, rfl, hm2, hv2, ho2⟩
set_option maxHeartbeats 1600000 in
theorem ProductCircuit_any (a : Int) (w : World) : Calls Try.prog 14 #[.int .i64 a] w (RetC w (gadF prodG 5 a)) := by
  have hB : Below w.heap.size w (w.alloc (.cells #[.int .i64 0, .int .i64 0, .slice none 0 0, .slice none 0 0] 27)) := (Below.refl _ _).alloc (Nat.le_refl _) _
  have hx0 : BxC (w.alloc (.cells #[.int .i64 0, .int .i64 0, .slice none 0 0, .slice none 0 0] 27)) w.heap.size 0 0 none 0 0 none 0 0 := BxC.new w _
  cases h0 : inB 1 5 a with
  | false =>
    have HR : Hid (gadF prodG 5 a = none) := Lib.hid (by simp [gadF, h0])
    have H0 := Lib.hid h0; clear h0
    go_enter Try.func14, Try.ntmps14
    go_wp2_with fail
    refine (within_any a 1 5 _ rfl _).mono ?_
    rintro e w1 ⟨rfl, rfl⟩
    rw [H0.out]
    go_wp2
    have hq9 := BxC.set4 (hx0) 0 0 none 0 0 none 0 0
    obtain ⟨q0, q1, q2, q3⟩ := hq9
    refine bodyPost_ret (v := .tuple #[.agg #[.int .i64 0, .int .i64 0, .slice none 0 0, .slice none 0 0], .bool false]) (by simp [results, Try.results14, go_sem, q0, q1, q2, q3]) rfl ?_
    exact RetC.none_ hB HR.out rfl
  | true =>
    have hab := inB_iff.1 h0
    have ha5 : a ≤ 5 := by omega
    have he8 : gadF prodG 5 a = gadF prodG 8 a := by
      have h8 : inB 1 8 a = true := inB_iff.2 (by omega)
      unfold gadF; rw [h0, h8]
    have H0 := Lib.hid h0; clear h0
    rw [he8]
    clear he8
    obtain ⟨R, hR⟩ : ∃ R, Hid (gadF prodG 8 a = R) := ⟨_, Lib.hid rfl⟩
    rw [hR.out]
    obtain ⟨x, y, gs, os, hQ⟩ : ∃ x y gs os, Hid (R.getD ⟨0, 0, [], []⟩ = ⟨x, y, gs, os⟩) := ⟨_, _, _, _, Lib.hid rfl⟩
    obtain ⟨t, ht⟩ : ∃ t, Hid (R.isSome = t) := ⟨_, Lib.hid rfl⟩
    go_enter Try.func14, Try.ntmps14
    go_wp2_with fail
    refine (within_any a 1 5 _ rfl _).mono ?_
    rintro e w1 ⟨rfl, rfl⟩
    rw [H0.out]
    go_wp2_with fail
    refine (gadget5_any 45 Try.call45 prodG a _ ha5 prodG_ok (Lib.hid fun n lo b A B c d w1 h1 h8 hlo hm ha hb => Product_1_any n lo b A B c d w1 h1 (by omega) hlo hm ha hb)).mono ?_
    rintro e w1 hT
    rw [hR.out] at hT
    obtain ⟨Ag, cg, Ao, co, rfl, hw1, hb1⟩ := hT.to hQ.out ht.out
    have hx1 := hx0.below hb1
    have f1 : Fz w1 w.heap.size := (Fz.new w _ _).below hb1 (by simp)
    have g0 := f1 0; have g1 := f1 1; have g2 := f1 2; have g3 := f1 3
    have hy1 := hx1; obtain ⟨l0, l1, l2, l3⟩ := hy1
    have hB1 := hB.trans (hb1.mono hB.size)
    simp only [World.size_alloc] at hw1
    go_wp2
    have hq9 := BxC.set4 (hx1) x y Ag gs.length cg Ao os.length co
    obtain ⟨q0, q1, q2, q3⟩ := hq9
    refine bodyPost_ret (v := .tuple #[.agg #[.int .i64 x, .int .i64 y, .slice Ag gs.length cg, .slice Ao os.length co], .bool t]) (by simp [results, Try.results14, go_sem, q0, q1, q2, q3]) rfl ?_
    exact RetC.of hQ.out ht.out rfl (by rw [set4_size]; exact ((hw1.set4 (.inl (by omega)) _ _ _ _ _ _ _ _).lo_ (by omega))) (below_set4 hB1 (Nat.le_refl _) _ _ _ _ _ _ _ _)
set_option maxRecDepth 100000 in
set_option maxHeartbeats 4000000 in
theorem gdMake_6 (n : Nat) (w : World) (h1 : 1 ≤ n) (h8 : n ≤ 8) : Calls Try.prog 59 #[.int .i64 6, .int .i64 n] w (RetCi w n n (prodG n).g (prodG n).o) := by
  have hB : Below w.heap.size w (w.alloc (.cells #[.int .i64 0, .int .i64 0, .slice none 0 0, .slice none 0 0] 27)) := (Below.refl _ _).alloc (Nat.le_refl _) _
  have hx0 : BxC (w.alloc (.cells #[.int .i64 0, .int .i64 0, .slice none 0 0, .slice none 0 0] 27)) w.heap.size 0 0 none 0 0 none 0 0 := BxC.new w _
  have hl3 := spn_len 0 n
  have hl4 := spn_len n n
  have hm0 := Mk.new (w.alloc (.cells #[.int .i64 0, .int .i64 0, .slice none 0 0, .slice none 0 0] 27)) (w.heap.size + 1) (n : Int) (n : Int) 72
  have hB2 := hB.alloc hB.size (.cells #[.int .i64 n, .int .i64 n, .slice none 0 0, .slice none 0 0] 72)
  have hx2 := hx0.below ((Below.refl _ _).alloc (Nat.le_refl _) (.cells #[.int .i64 n, .int .i64 n, .slice none 0 0, .slice none 0 0] 72))
  have f2 := (Fz.new w #[.int .i64 0, .int .i64 0, .slice none 0 0, .slice none 0 0] 27).below ((Below.refl _ _).alloc (Nat.le_refl _) (.cells #[.int .i64 n, .int .i64 n, .slice none 0 0, .slice none 0 0] 72)) (by simp)
  simp only [World.size_alloc] at hm0
  go_enter Try.func59, Try.ntmps59
  go_wp2_with fail
  refine (ciNew_any n n _).mono ?_
  rintro e w1 ⟨rfl, rfl⟩
  go_wp2_with fail
  refine (gdRange_any 0 n _ (by omega) (by omega)).mono ?_
  rintro e w3 hT
  obtain ⟨A3, c3, rfl, hown3, hb3⟩ := hT.open_ hl3
  have hx3 := hx2.below hb3
  have f3 := f2.below hb3 (by simp; omega)
  have hm3 := hm0.below_ hb3 (Nat.le_refl _)
  have hB3 := hB2.trans (hb3.mono hB2.size)
  go_wp2_with fail
  refine (gdRange_any n n _ (by omega) (by omega)).mono ?_
  rintro e w4 hT
  obtain ⟨A4, c4, rfl, hown4, hb4⟩ := hT.open_ hl4
  have hx4 := hx3.below hb4
  have hm4 := hm3.below_ hb4 (Nat.le_refl _)
  have hB4 := hB3.trans (hb4.mono hB3.size)
  have hr3 := RM.ofOwn (b := w.heap.size + 1) (hown3.below hb4 (.inl (Nat.le_refl _))) (by simp)
  have hz3 := hb3.size
  simp only [World.size_alloc] at hz3
  have f4 := f3.below hb4 (by omega)
  have hr4 := RM.ofOwn (b := w.heap.size + 1) hown4 (by omega)
  have hz4 := hB4.size
  have hz4' := hb4.size
  clear hx0 hx2 hx3 hm0 hm3 hB hB2 hB3 hown3 hown4 f2 f3 hb3 hb4
  obtain ⟨m, hm⟩ : ∃ m, Hid ((prodG n).o.length = m) := ⟨_, Lib.hid rfl⟩
  go_wp2_with fail
  refine (gdTimes_any (w.heap.size + 1) (w.heap.size + 1) n n [] none A3 A4 n c3 c4 _ _ _ hm4 hr3 hr4 (by omega) (by omega) (by simp) (by omega) h1 (by omega)).mono ?_
  rintro e w5 hT
  have hT' : RetRow (w.heap.size + 1) (w.heap.size + 1) n n (prodG n).g (prodG n).o none w4 e w5 := hT
  obtain ⟨G5, O5, oc5, rfl, hm5, hv5, ho5⟩ := hT'.open_ hm.out
  have hx5 : BxC w5 w.heap.size 0 0 none 0 0 none 0 0 := ⟨hv5.cellF hx4.1 ⟨by simp; try omega, by simp⟩, hv5.cellF hx4.2.1 ⟨by simp; try omega, by simp⟩, hv5.cellF hx4.2.2.1 ⟨by simp; try omega, by simp⟩, hv5.cellF hx4.2.2.2 ⟨by simp; try omega, by simp⟩⟩
  have hB5 := hv5.toBelow hB4 (by omega) (by simp) hz4
  have hz5 := hv5.size
  obtain ⟨Ag, cg, hx6, hx7, hw7, hfz⟩ := hm5.circuit ho5 (by omega)
  have hB7 := hB5.setCell (p := ⟨w.heap.size + 1, 3, none⟩) (by show w.heap.size ≤ w.heap.size + 1; omega) (.slice O5 m oc5)
  have hx8 : BxC (w5.setCell ⟨w.heap.size + 1, 3, none⟩ (.slice O5 m oc5)) w.heap.size 0 0 none 0 0 none 0 0 := ⟨(World.cell?_setCell_other _ _ _ _ (by simp; try omega)).trans hx5.1, (World.cell?_setCell_other _ _ _ _ (by simp; try omega)).trans hx5.2.1, (World.cell?_setCell_other _ _ _ _ (by simp; try omega)).trans hx5.2.2.1, (World.cell?_setCell_other _ _ _ _ (by simp; try omega)).trans hx5.2.2.2⟩
  obtain ⟨i0, i1, i2, i3⟩ := hx7
  obtain ⟨j0, j1, j2, j3⟩ := hx6
  have f8 := (f4.mv hv5 (by omega) ⟨by omega, by simp⟩).set ⟨w.heap.size + 1, 3, none⟩ (.slice O5 m oc5)
  have g0 := f8 0; have g1 := f8 1; have g2 := f8 2; have g3 := f8 3
  have hy9 := hx8; obtain ⟨l0, l1, l2, l3⟩ := hy9
  clear hm5 ho5 hx5 hx4 hm4 hr3 hr4 hv5
  go_wp2
  have hq9 := BxC.set4 (hx8) (n : Int) (n : Int) Ag (prodG n).g.length cg O5 m oc5
  obtain ⟨q0, q1, q2, q3⟩ := hq9
  refine bodyPost_ret (v := .agg #[.int .i64 (n : Int), .int .i64 (n : Int), .slice Ag (prodG n).g.length cg, .slice O5 m oc5]) (by simp [results, Try.results59, go_sem, q0, q1, q2, q3]) rfl ?_
  exact RetCi.mk_ hm.out rfl (by rw [set4_size]; exact ((hw7.set4 (.inl (by omega)) _ _ _ _ _ _ _ _).lo_ (by omega)).hi_ (by simp)) (below_set4 hB7 (Nat.le_refl _) _ _ _ _ _ _ _ _)
set_option maxRecDepth 100000 in
set_option maxHeartbeats 1600000 in
theorem gdKind_6 (a : Int) (w : World) : Calls Try.prog 23 #[.int .i64 6, .int .i64 a] w (RetC w (gadF prodG 5 a)) := by
  have hB : Below w.heap.size w (w.alloc (.cells #[.int .i64 0, .int .i64 0, .slice none 0 0, .slice none 0 0] 27)) := (Below.refl _ _).alloc (Nat.le_refl _) _
  have hx0 : BxC (w.alloc (.cells #[.int .i64 0, .int .i64 0, .slice none 0 0, .slice none 0 0] 27)) w.heap.size 0 0 none 0 0 none 0 0 := BxC.new w _
  cases h0 : inB 1 8 a with
  | false =>
    have HR : Hid (gadF prodG 5 a = none) := Lib.hid (by unfold gadF; rw [if_neg]; intro hc; have h9 := inB_iff.1 hc; rw [inB_iff.2 (show (1:Int) ≤ a ∧ a ≤ 8 by omega)] at h0; cases h0)
    have H0 := Lib.hid h0; clear h0
    go_enter Try.func23, Try.ntmps23
    go_wp2_with fail
    refine (gdWidth_any a _).mono ?_
    rintro e w1 ⟨rfl, rfl⟩
    rw [H0.out]
    go_wp2
    have hq9 := BxC.set4 (hx0) 0 0 none 0 0 none 0 0
    obtain ⟨q0, q1, q2, q3⟩ := hq9
    refine bodyPost_ret (v := .tuple #[.agg #[.int .i64 0, .int .i64 0, .slice none 0 0, .slice none 0 0], .bool false]) (by simp [results, Try.results23, go_sem, q0, q1, q2, q3]) rfl ?_
    exact RetC.none_ hB HR.out rfl
  | true =>
    have hab := inB_iff.1 h0
    by_cases h5 : a ≤ 5
    · skip
      obtain ⟨n, rfl⟩ : ∃ n : Nat, a = n := ⟨a.toNat, by omega⟩
      have h05 : inB 1 5 (n : Int) = true := inB_iff.2 (by omega)
      have hn5 : ¬ (5 : Int) < (n : Int) := by omega
      have h1 : 1 ≤ n := by omega
      have h8 : n ≤ 8 := by omega
      have HR : Hid (gadF prodG 5 (n : Int) = some ⟨(n : Int), (n : Int), (prodG n).g, (prodG n).o⟩) := Lib.hid (by simp [gadF, h05])
      have H0 := Lib.hid h0; clear h0 hab h05
      have H6 : Hid (inB 0 6 6 = true) := Lib.hid (by decide)
      go_enter Try.func23, Try.ntmps23
      go_wp2_with fail
      refine (gdWidth_any n _).mono ?_
      rintro e w1 ⟨rfl, rfl⟩
      rw [H0.out]
      go_wp2_with fail
      refine (l1In_any 6 0 6 _ rfl _).mono ?_
      rintro e w1 ⟨rfl, rfl⟩
      rw [H6.out]
      go_wp2_with fail
      refine (gdMake_6 n _ h1 h8).mono ?_
      rintro e w2 ⟨Ag, cg, Ao, co, rfl, hw2, hb2⟩
      have hx2 := hx0.below hb2
      have f2 : Fz w2 w.heap.size := (Fz.new w _ _).below hb2 (by simp)
      have g0 := f2 0; have g1 := f2 1; have g2 := f2 2; have g3 := f2 3
      have hy2 := hx2; obtain ⟨l0, l1, l2, l3⟩ := hy2
      have hB2 := hB.trans (hb2.mono hB.size)
      simp only [World.size_alloc] at hw2
      go_wp2
      have hq9 := BxC.set4 (hx2) (n:Int) (n : Int) Ag (prodG n).g.length cg Ao (prodG n).o.length co
      obtain ⟨q0, q1, q2, q3⟩ := hq9
      refine bodyPost_ret (v := .tuple #[.agg #[.int .i64 (n:Int), .int .i64 (n : Int), .slice Ag (prodG n).g.length cg, .slice Ao (prodG n).o.length co], .bool true]) (by simp [results, Try.results23, go_sem, q0, q1, q2, q3]) rfl ?_
      exact RetC.some_ (below_set4 hB2 (Nat.le_refl _) _ _ _ _ _ _ _ _) HR.out rfl rfl rfl (by rw [set4_size]; exact ((hw2.set4 (.inl (by omega)) _ _ _ _ _ _ _ _).lo_ (by omega)))
    · have h05 : inB 1 5 a = false := by rw [Bool.eq_false_iff]; intro hc; have := inB_iff.1 hc; omega
      have HR : Hid (gadF prodG 5 a = none) := Lib.hid (by simp [gadF, h05])
      have H0 := Lib.hid h0; clear h0 h05
      have H6 : Hid (inB 0 6 6 = true) := Lib.hid (by decide)
      have hn5 : (5 : Int) < a := by omega
      go_enter Try.func23, Try.ntmps23
      go_wp2_with fail
      refine (gdWidth_any a _).mono ?_
      rintro e w1 ⟨rfl, rfl⟩
      rw [H0.out]
      go_wp2_with fail
      refine (l1In_any 6 0 6 _ rfl _).mono ?_
      rintro e w1 ⟨rfl, rfl⟩
      rw [H6.out]
      go_wp2
      have hq9 := BxC.set4 (hx0) 0 0 none 0 0 none 0 0
      obtain ⟨q0, q1, q2, q3⟩ := hq9
      refine bodyPost_ret (v := .tuple #[.agg #[.int .i64 0, .int .i64 0, .slice none 0 0, .slice none 0 0], .bool false]) (by simp [results, Try.results23, go_sem, q0, q1, q2, q3]) rfl ?_
      exact RetC.none_ hB HR.out rfl
set_option maxHeartbeats 1600000 in
theorem spec_ProductCircuit_any (a : Int) (w : World) : Calls Try.prog 15 #[.int .i64 a] w (RetC w (gadF prodG 5 a)) := by
  have hB : Below w.heap.size w (w.alloc (.cells #[.int .i64 0, .int .i64 0, .slice none 0 0, .slice none 0 0] 27)) := (Below.refl _ _).alloc (Nat.le_refl _) _
  have hx0 : BxC (w.alloc (.cells #[.int .i64 0, .int .i64 0, .slice none 0 0, .slice none 0 0] 27)) w.heap.size 0 0 none 0 0 none 0 0 := BxC.new w _
  obtain ⟨R, hR⟩ : ∃ R, Hid (gadF prodG 5 a = R) := ⟨_, Lib.hid rfl⟩
  rw [hR.out]
  obtain ⟨x, y, gs, os, hQ⟩ : ∃ x y gs os, Hid (R.getD ⟨0, 0, [], []⟩ = ⟨x, y, gs, os⟩) := ⟨_, _, _, _, Lib.hid rfl⟩
  obtain ⟨t, ht⟩ : ∃ t, Hid (R.isSome = t) := ⟨_, Lib.hid rfl⟩
  go_enter Try.func15, Try.ntmps15
  go_wp2_with fail
  refine (gdKind_6 a _).mono ?_
  rintro e w1 hT
  rw [hR.out] at hT
  obtain ⟨Ag, cg, Ao, co, rfl, hw1, hb1⟩ := hT.to hQ.out ht.out
  have hx1 := hx0.below hb1
  have f1 : Fz w1 w.heap.size := (Fz.new w _ _).below hb1 (by simp)
  have g0 := f1 0; have g1 := f1 1; have g2 := f1 2; have g3 := f1 3
  have hy1 := hx1; obtain ⟨l0, l1, l2, l3⟩ := hy1
  have hB1 := hB.trans (hb1.mono hB.size)
  simp only [World.size_alloc] at hw1
  go_wp2
  have hq9 := BxC.set4 (hx1) x y Ag gs.length cg Ao os.length co
  obtain ⟨q0, q1, q2, q3⟩ := hq9
  refine bodyPost_ret (v := .tuple #[.agg #[.int .i64 x, .int .i64 y, .slice Ag gs.length cg, .slice Ao os.length co], .bool t]) (by simp [results, Try.results15, go_sem, q0, q1, q2, q3]) rfl ?_
  exact RetC.of hQ.out ht.out rfl (by rw [set4_size]; exact ((hw1.set4 (.inl (by omega)) _ _ _ _ _ _ _ _).lo_ (by omega))) (below_set4 hB1 (Nat.le_refl _) _ _ _ _ _ _ _ _)
end Go.Proofs.Ytimmjppkaadggaa
