/- Contracts of gadgets. -/
import Derived.Test.YtimmjppkaadggaaQP08
namespace Go.Proofs.Ytimmjppkaadggaa
open Go.RowKit
set_option linter.unusedVariables false
set_option linter.unusedSimpArgs false
theorem Mk.circuitR {w : World} {lo lo2 b m oc : Nat} {x y : Int} {gs : List G3} {os : List Int} {G : Option Nat} {O : Option Addr} (hm : Mk w lo b x y gs G) (ho : RIn w lo2 w.heap.size O m os ∧ ∀ k o, O = some ⟨k, o, none⟩ → k ≠ b) (hl : lo ≤ lo2) :
    ∃ Ag cg, BxC w b x y Ag gs.length cg none 0 0 ∧ BxC (w.setCell ⟨b, 3, none⟩ (.slice O m oc)) b x y Ag gs.length cg O m oc ∧ OwnCr (w.setCell ⟨b, 3, none⟩ (.slice O m oc)) lo w.heap.size Ag gs.length cg O m oc gs os ∧ w.frozen? ⟨b, 3, none⟩ = false := by
  obtain ⟨h1, h2, hf, Ag, cg, hx, hg, rfl⟩ := hm
  refine ⟨Ag, cg, hx, hx.setO O m oc, ⟨hg.far1 _ _ h2, ⟨ho.1.1.1, fun hn => ?_⟩, fun hn k o hA => ⟨Nat.le_trans hl (ho.1.2 hn k o hA).1, (ho.1.2 hn k o hA).2⟩⟩, hf 3⟩
  obtain ⟨k, o, hA, hlt, hc⟩ := ho.1.1.2 hn
  have hne := ho.2 k o hA
  exact ⟨k, o, hA, by simpa using hlt, fun j hj => (World.cell?_setCell_other _ _ _ _ (fun he => by have := congrArg Addr.block he; simp at this; omega)).trans (hc j hj)⟩
set_option maxRecDepth 100000 in
set_option maxHeartbeats 4000000 in
theorem gdMake_0 (n : Nat) (w : World) (h1 : 1 ≤ n) (h8 : n ≤ 8) : Calls Try.prog 59 #[.int .i64 0, .int .i64 n] w (RetCi w n n (adderG n).g (adderG n).o) := by
  have hB : Below w.heap.size w (w.alloc (.cells #[.int .i64 0, .int .i64 0, .slice none 0 0, .slice none 0 0] 27)) := (Below.refl _ _).alloc (Nat.le_refl _) _
  have hx0 : BxC (w.alloc (.cells #[.int .i64 0, .int .i64 0, .slice none 0 0, .slice none 0 0] 27)) w.heap.size 0 0 none 0 0 none 0 0 := BxC.new w _
  have hl3 := spn_len 0 n
  have hl4 := spn_len n n
  have hm0 := Mk.new (w.alloc (.cells #[.int .i64 0, .int .i64 0, .slice none 0 0, .slice none 0 0] 27)) (w.heap.size + 1) (n : Int) (n : Int) 72
  have hB2 := hB.alloc hB.size (.cells #[.int .i64 n, .int .i64 n, .slice none 0 0, .slice none 0 0] 72)
  have hx2 := hx0.below ((Below.refl _ _).alloc (Nat.le_refl _) (.cells #[.int .i64 n, .int .i64 n, .slice none 0 0, .slice none 0 0] 72))
  have f2 := (Fz.new w #[.int .i64 0, .int .i64 0, .slice none 0 0, .slice none 0 0] 27).below ((Below.refl _ _).alloc (Nat.le_refl _) (.cells #[.int .i64 n, .int .i64 n, .slice none 0 0, .slice none 0 0] 72)) (by simp)
  simp only [World.size_alloc] at hm0
  go_enter Try.func59, Try.ntmps59
  go_wp2_with fail
  refine (ciNew_any n n _).mono ?_
  rintro e w1 ⟨rfl, rfl⟩
  go_wp2_with fail
  refine (gdRange_any 0 n _ (by omega) (by omega)).mono ?_
  rintro e w3 hT
  obtain ⟨A3, c3, rfl, hown3, hb3⟩ := hT.open_ hl3
  have hx3 := hx2.below hb3
  have f3 := f2.below hb3 (by simp; omega)
  have hm3 := hm0.below_ hb3 (Nat.le_refl _)
  have hB3 := hB2.trans (hb3.mono hB2.size)
  go_wp2_with fail
  refine (gdRange_any n n _ (by omega) (by omega)).mono ?_
  rintro e w4 hT
  obtain ⟨A4, c4, rfl, hown4, hb4⟩ := hT.open_ hl4
  have hx4 := hx3.below hb4
  have hm4 := hm3.below_ hb4 (Nat.le_refl _)
  have hB4 := hB3.trans (hb4.mono hB3.size)
  have hr3 := RM.ofOwn (b := w.heap.size + 1) (hown3.below hb4 (.inl (Nat.le_refl _))) (by simp)
  have hz3 := hb3.size
  simp only [World.size_alloc] at hz3
  have f4 := f3.below hb4 (by omega)
  have hr4 := RM.ofOwn (b := w.heap.size + 1) hown4 (by omega)
  have hz4 := hB4.size
  have hz4' := hb4.size
  clear hx0 hx2 hx3 hm0 hm3 hB hB2 hB3 hown3 hown4 f2 f3 hb3 hb4
  have hm : Hid ((adderG n).o.length = n + 1) := Lib.hid (by simp [adderG, addS_o])
  obtain ⟨m, hmm⟩ : ∃ m, Hid (n + 1 = m) := ⟨_, Lib.hid rfl⟩
  rw [hmm.out] at hm
  go_wp2_with fail
  refine (gdAdd_any (w.heap.size + 1) (w.heap.size + 1) n n [] none A3 A4 n c3 c4 _ _ _ hm4 hr3 hr4 (by omega) (by omega) (by simp) (by omega) (by omega)).mono ?_
  rintro e w5 hT
  have hT' : RetRow (w.heap.size + 1) (w.heap.size + 1) n n (adderG n).g (adderG n).o none w4 e w5 := hT
  obtain ⟨G5, O5, oc5, rfl, hm5, hv5, ho5⟩ := hT'.open_ hm.out
  have hx5 : BxC w5 w.heap.size 0 0 none 0 0 none 0 0 := ⟨hv5.cellF hx4.1 ⟨by simp; try omega, by simp⟩, hv5.cellF hx4.2.1 ⟨by simp; try omega, by simp⟩, hv5.cellF hx4.2.2.1 ⟨by simp; try omega, by simp⟩, hv5.cellF hx4.2.2.2 ⟨by simp; try omega, by simp⟩⟩
  have hB5 := hv5.toBelow hB4 (by omega) (by simp) hz4
  have hz5 := hv5.size
  obtain ⟨Ag, cg, hx6, hx7, hw7, hfz⟩ := hm5.circuit ho5 (by omega)
  have hB7 := hB5.setCell (p := ⟨w.heap.size + 1, 3, none⟩) (by show w.heap.size ≤ w.heap.size + 1; omega) (.slice O5 m oc5)
  have hx8 : BxC (w5.setCell ⟨w.heap.size + 1, 3, none⟩ (.slice O5 m oc5)) w.heap.size 0 0 none 0 0 none 0 0 := ⟨(World.cell?_setCell_other _ _ _ _ (by simp; try omega)).trans hx5.1, (World.cell?_setCell_other _ _ _ _ (by simp; try omega)).trans hx5.2.1, (World.cell?_setCell_other _ _ _ _ (by simp; try omega)).trans hx5.2.2.1, (World.cell?_setCell_other _ _ _ _ (by simp; try omega)).trans hx5.2.2.2⟩
  obtain ⟨i0, i1, i2, i3⟩ := hx7
  obtain ⟨j0, j1, j2, j3⟩ := hx6
  have f8 := (f4.mv hv5 (by omega) ⟨by omega, by simp⟩).set ⟨w.heap.size + 1, 3, none⟩ (.slice O5 m oc5)
  have g0 := f8 0; have g1 := f8 1; have g2 := f8 2; have g3 := f8 3
  have hy9 := hx8; obtain ⟨l0, l1, l2, l3⟩ := hy9
  clear hm5 ho5 hx5 hx4 hm4 hr3 hr4 hv5
  go_wp2
  have hq9 := BxC.set4 (hx8) (n : Int) (n : Int) Ag (adderG n).g.length cg O5 m oc5
  obtain ⟨q0, q1, q2, q3⟩ := hq9
  refine bodyPost_ret (v := .agg #[.int .i64 (n : Int), .int .i64 (n : Int), .slice Ag (adderG n).g.length cg, .slice O5 m oc5]) (by simp [results, Try.results59, go_sem, q0, q1, q2, q3]) rfl ?_
  exact RetCi.mk_ hm.out rfl (by rw [set4_size]; exact ((hw7.set4 (.inl (by omega)) _ _ _ _ _ _ _ _).lo_ (by omega)).hi_ (by simp)) (below_set4 hB7 (Nat.le_refl _) _ _ _ _ _ _ _ _)
set_option maxRecDepth 100000 in
set_option maxHeartbeats 4000000 in
theorem gdMake_1 (n : Nat) (w : World) (h1 : 1 ≤ n) (h8 : n ≤ 8) : Calls Try.prog 59 #[.int .i64 1, .int .i64 n] w (RetCi w n n (subG n).g (subG n).o) := by
  have hB : Below w.heap.size w (w.alloc (.cells #[.int .i64 0, .int .i64 0, .slice none 0 0, .slice none 0 0] 27)) := (Below.refl _ _).alloc (Nat.le_refl _) _
  have hx0 : BxC (w.alloc (.cells #[.int .i64 0, .int .i64 0, .slice none 0 0, .slice none 0 0] 27)) w.heap.size 0 0 none 0 0 none 0 0 := BxC.new w _
  have hl3 := spn_len 0 n
  have hl4 := spn_len n n
  have hm0 := Mk.new (w.alloc (.cells #[.int .i64 0, .int .i64 0, .slice none 0 0, .slice none 0 0] 27)) (w.heap.size + 1) (n : Int) (n : Int) 72
  have hB2 := hB.alloc hB.size (.cells #[.int .i64 n, .int .i64 n, .slice none 0 0, .slice none 0 0] 72)
  have hx2 := hx0.below ((Below.refl _ _).alloc (Nat.le_refl _) (.cells #[.int .i64 n, .int .i64 n, .slice none 0 0, .slice none 0 0] 72))
  have f2 := (Fz.new w #[.int .i64 0, .int .i64 0, .slice none 0 0, .slice none 0 0] 27).below ((Below.refl _ _).alloc (Nat.le_refl _) (.cells #[.int .i64 n, .int .i64 n, .slice none 0 0, .slice none 0 0] 72)) (by simp)
  simp only [World.size_alloc] at hm0
  go_enter Try.func59, Try.ntmps59
  go_wp2_with fail
  refine (ciNew_any n n _).mono ?_
  rintro e w1 ⟨rfl, rfl⟩
  go_wp2_with fail
  refine (gdRange_any 0 n _ (by omega) (by omega)).mono ?_
  rintro e w3 hT
  obtain ⟨A3, c3, rfl, hown3, hb3⟩ := hT.open_ hl3
  have hx3 := hx2.below hb3
  have f3 := f2.below hb3 (by simp; omega)
  have hm3 := hm0.below_ hb3 (Nat.le_refl _)
  have hB3 := hB2.trans (hb3.mono hB2.size)
  go_wp2_with fail
  refine (gdRange_any n n _ (by omega) (by omega)).mono ?_
  rintro e w4 hT
  obtain ⟨A4, c4, rfl, hown4, hb4⟩ := hT.open_ hl4
  have hx4 := hx3.below hb4
  have hm4 := hm3.below_ hb4 (Nat.le_refl _)
  have hB4 := hB3.trans (hb4.mono hB3.size)
  have hr3 := RM.ofOwn (b := w.heap.size + 1) (hown3.below hb4 (.inl (Nat.le_refl _))) (by simp)
  have hz3 := hb3.size
  simp only [World.size_alloc] at hz3
  have f4 := f3.below hb4 (by omega)
  have hr4 := RM.ofOwn (b := w.heap.size + 1) hown4 (by omega)
  have hz4 := hB4.size
  have hz4' := hb4.size
  clear hx0 hx2 hx3 hm0 hm3 hB hB2 hB3 hown3 hown4 f2 f3 hb3 hb4
  have hm : Hid ((subG n).o.length = n + 1) := Lib.hid (by simp [subG, subS_o])
  obtain ⟨m, hmm⟩ : ∃ m, Hid (n + 1 = m) := ⟨_, Lib.hid rfl⟩
  rw [hmm.out] at hm
  go_wp2_with fail
  refine (gdSub_any (w.heap.size + 1) (w.heap.size + 1) n n [] none A3 A4 n c3 c4 _ _ _ hm4 hr3 hr4 (by omega) (by omega) (by simp) (by omega) (by omega)).mono ?_
  rintro e w5 hT
  have hT' : RetRow (w.heap.size + 1) (w.heap.size + 1) n n (subG n).g (subG n).o none w4 e w5 := hT
  obtain ⟨G5, O5, oc5, rfl, hm5, hv5, ho5⟩ := hT'.open_ hm.out
  have hx5 : BxC w5 w.heap.size 0 0 none 0 0 none 0 0 := ⟨hv5.cellF hx4.1 ⟨by simp; try omega, by simp⟩, hv5.cellF hx4.2.1 ⟨by simp; try omega, by simp⟩, hv5.cellF hx4.2.2.1 ⟨by simp; try omega, by simp⟩, hv5.cellF hx4.2.2.2 ⟨by simp; try omega, by simp⟩⟩
  have hB5 := hv5.toBelow hB4 (by omega) (by simp) hz4
  have hz5 := hv5.size
  obtain ⟨Ag, cg, hx6, hx7, hw7, hfz⟩ := hm5.circuit ho5 (by omega)
  have hB7 := hB5.setCell (p := ⟨w.heap.size + 1, 3, none⟩) (by show w.heap.size ≤ w.heap.size + 1; omega) (.slice O5 m oc5)
  have hx8 : BxC (w5.setCell ⟨w.heap.size + 1, 3, none⟩ (.slice O5 m oc5)) w.heap.size 0 0 none 0 0 none 0 0 := ⟨(World.cell?_setCell_other _ _ _ _ (by simp; try omega)).trans hx5.1, (World.cell?_setCell_other _ _ _ _ (by simp; try omega)).trans hx5.2.1, (World.cell?_setCell_other _ _ _ _ (by simp; try omega)).trans hx5.2.2.1, (World.cell?_setCell_other _ _ _ _ (by simp; try omega)).trans hx5.2.2.2⟩
  obtain ⟨i0, i1, i2, i3⟩ := hx7
  obtain ⟨j0, j1, j2, j3⟩ := hx6
  have f8 := (f4.mv hv5 (by omega) ⟨by omega, by simp⟩).set ⟨w.heap.size + 1, 3, none⟩ (.slice O5 m oc5)
  have g0 := f8 0; have g1 := f8 1; have g2 := f8 2; have g3 := f8 3
  have hy9 := hx8; obtain ⟨l0, l1, l2, l3⟩ := hy9
  clear hm5 ho5 hx5 hx4 hm4 hr3 hr4 hv5
  go_wp2
  have hq9 := BxC.set4 (hx8) (n : Int) (n : Int) Ag (subG n).g.length cg O5 m oc5
  obtain ⟨q0, q1, q2, q3⟩ := hq9
  refine bodyPost_ret (v := .agg #[.int .i64 (n : Int), .int .i64 (n : Int), .slice Ag (subG n).g.length cg, .slice O5 m oc5]) (by simp [results, Try.results59, go_sem, q0, q1, q2, q3]) rfl ?_
  exact RetCi.mk_ hm.out rfl (by rw [set4_size]; exact ((hw7.set4 (.inl (by omega)) _ _ _ _ _ _ _ _).lo_ (by omega)).hi_ (by simp)) (below_set4 hB7 (Nat.le_refl _) _ _ _ _ _ _ _ _)
set_option maxRecDepth 100000 in
set_option maxHeartbeats 4000000 in
theorem gdMake_3 (n : Nat) (w : World) (h1 : 1 ≤ n) (h8 : n ≤ 8) : Calls Try.prog 59 #[.int .i64 3, .int .i64 n] w (RetCi w n n (equalG n).g (equalG n).o) := by
  have hB : Below w.heap.size w (w.alloc (.cells #[.int .i64 0, .int .i64 0, .slice none 0 0, .slice none 0 0] 27)) := (Below.refl _ _).alloc (Nat.le_refl _) _
  have hx0 : BxC (w.alloc (.cells #[.int .i64 0, .int .i64 0, .slice none 0 0, .slice none 0 0] 27)) w.heap.size 0 0 none 0 0 none 0 0 := BxC.new w _
  have hl3 := spn_len 0 n
  have hl4 := spn_len n n
  have hm0 := Mk.new (w.alloc (.cells #[.int .i64 0, .int .i64 0, .slice none 0 0, .slice none 0 0] 27)) (w.heap.size + 1) (n : Int) (n : Int) 72
  have hB2 := hB.alloc hB.size (.cells #[.int .i64 n, .int .i64 n, .slice none 0 0, .slice none 0 0] 72)
  have hx2 := hx0.below ((Below.refl _ _).alloc (Nat.le_refl _) (.cells #[.int .i64 n, .int .i64 n, .slice none 0 0, .slice none 0 0] 72))
  have f2 := (Fz.new w #[.int .i64 0, .int .i64 0, .slice none 0 0, .slice none 0 0] 27).below ((Below.refl _ _).alloc (Nat.le_refl _) (.cells #[.int .i64 n, .int .i64 n, .slice none 0 0, .slice none 0 0] 72)) (by simp)
  simp only [World.size_alloc] at hm0
  go_enter Try.func59, Try.ntmps59
  go_wp2_with fail
  refine (ciNew_any n n _).mono ?_
  rintro e w1 ⟨rfl, rfl⟩
  go_wp2_with fail
  refine (gdRange_any 0 n _ (by omega) (by omega)).mono ?_
  rintro e w3 hT
  obtain ⟨A3, c3, rfl, hown3, hb3⟩ := hT.open_ hl3
  have hx3 := hx2.below hb3
  have f3 := f2.below hb3 (by simp; omega)
  have hm3 := hm0.below_ hb3 (Nat.le_refl _)
  have hB3 := hB2.trans (hb3.mono hB2.size)
  go_wp2_with fail
  refine (gdRange_any n n _ (by omega) (by omega)).mono ?_
  rintro e w4 hT
  obtain ⟨A4, c4, rfl, hown4, hb4⟩ := hT.open_ hl4
  have hx4 := hx3.below hb4
  have hm4 := hm3.below_ hb4 (Nat.le_refl _)
  have hB4 := hB3.trans (hb4.mono hB3.size)
  have hr3 := RM.ofOwn (b := w.heap.size + 1) (hown3.below hb4 (.inl (Nat.le_refl _))) (by simp)
  have hz3 := hb3.size
  simp only [World.size_alloc] at hz3
  have f4 := f3.below hb4 (by omega)
  have hr4 := RM.ofOwn (b := w.heap.size + 1) hown4 (by omega)
  have hz4 := hB4.size
  have hz4' := hb4.size
  clear hx0 hx2 hx3 hm0 hm3 hB hB2 hB3 hown3 hown4 f2 f3 hb3 hb4
  have hm : Hid ((equalG n).o.length = 1) := Lib.hid rfl
  obtain ⟨v, hv⟩ : ∃ v, Hid ((ands ((n : Int) + n) (eqs (n + n) [] (spn 0 n) (spn n n) n).o (eqs (n + n) [] (spn 0 n) (spn n n) n).g (n - 1)).2 = v) := ⟨_, Lib.hid rfl⟩
  go_wp2_with fail
  have q9 := gdEqual_any (w.heap.size + 1) (w.heap.size + 1) n n [] none A3 A4 n c3 c4 _ _ _ hm4 hr3 hr4 (by omega) (by omega) (by simp) (by omega) (by omega) h1
  rw [hv.out] at q9
  refine q9.mono ?_
  clear q9
  rintro e w5' ⟨G5, rfl, hm5', hv5'⟩
  have hm5 : Mk (w5'.alloc (.cells #[.int .i64 v] 3)) (w.heap.size + 1) (w.heap.size + 1) n n (equalG n).g G5 := hm5'.alloc_ _
  have hv5 := hv5'.alloc_ (.cells #[.int .i64 v] 3)
  have ho5 : OM (w5'.alloc (.cells #[.int .i64 v] 3)) (w.heap.size + 1) G5 w4.heap.size (.slice (some ⟨w5'.heap.size, 0, none⟩) 1 1) 1 (equalG n).o := by
    have hq : (equalG n).o = [v] := by rw [← hv.out]; rfl
    rw [hq]; exact OM.new1 (lo := w4.heap.size) hm5' v hv5'.size
  have hx5 : BxC (w5'.alloc (.cells #[.int .i64 v] 3)) w.heap.size 0 0 none 0 0 none 0 0 := ⟨hv5.cellF hx4.1 ⟨by simp; try omega, by simp⟩, hv5.cellF hx4.2.1 ⟨by simp; try omega, by simp⟩, hv5.cellF hx4.2.2.1 ⟨by simp; try omega, by simp⟩, hv5.cellF hx4.2.2.2 ⟨by simp; try omega, by simp⟩⟩
  have hB5 := hv5.toBelow hB4 (by omega) (by simp) hz4
  have hz5 := hv5.size
  obtain ⟨Ag, cg, hx6, hx7, hw7, hfz⟩ := hm5.circuit ho5 (by omega)
  have hB7 := hB5.setCell (p := ⟨w.heap.size + 1, 3, none⟩) (by show w.heap.size ≤ w.heap.size + 1; omega) (.slice (some ⟨w5'.heap.size, 0, none⟩) 1 1)
  have hx8 : BxC ((w5'.alloc (.cells #[.int .i64 v] 3)).setCell ⟨w.heap.size + 1, 3, none⟩ (.slice (some ⟨w5'.heap.size, 0, none⟩) 1 1)) w.heap.size 0 0 none 0 0 none 0 0 := ⟨(World.cell?_setCell_other _ _ _ _ (by simp; try omega)).trans hx5.1, (World.cell?_setCell_other _ _ _ _ (by simp; try omega)).trans hx5.2.1, (World.cell?_setCell_other _ _ _ _ (by simp; try omega)).trans hx5.2.2.1, (World.cell?_setCell_other _ _ _ _ (by simp; try omega)).trans hx5.2.2.2⟩
  obtain ⟨i0, i1, i2, i3⟩ := hx7
  obtain ⟨j0, j1, j2, j3⟩ := hx6
  have f8 := (f4.mv hv5 (by omega) ⟨by omega, by simp⟩).set ⟨w.heap.size + 1, 3, none⟩ (.slice (some ⟨w5'.heap.size, 0, none⟩) 1 1)
  have g0 := f8 0; have g1 := f8 1; have g2 := f8 2; have g3 := f8 3
  have hy9 := hx8; obtain ⟨l0, l1, l2, l3⟩ := hy9
  clear hm5 ho5 hx5 hx4 hm4 hr3 hr4 hv5
  go_wp2
  have hq9 := BxC.set4 (hx8) (n : Int) (n : Int) Ag (equalG n).g.length cg (some ⟨w5'.heap.size,0,none⟩) 1 1
  obtain ⟨q0, q1, q2, q3⟩ := hq9
  refine bodyPost_ret (v := .agg #[.int .i64 (n : Int), .int .i64 (n : Int), .slice Ag (equalG n).g.length cg, .slice (some ⟨w5'.heap.size,0,none⟩) 1 1]) (by simp [results, Try.results59, go_sem, q0, q1, q2, q3]) rfl ?_
  exact RetCi.mk_ hm.out rfl (by rw [set4_size]; exact ((hw7.set4 (.inl (by omega)) _ _ _ _ _ _ _ _).lo_ (by omega)).hi_ (by simp)) (below_set4 hB7 (Nat.le_refl _) _ _ _ _ _ _ _ _)
set_option maxRecDepth 100000 in
set_option maxHeartbeats 4000000 in
theorem gdMake_4 (n : Nat) (w : World) (h1 : 1 ≤ n) (h8 : n ≤ 8) : Calls Try.prog 59 #[.int .i64 4, .int .i64 n] w (RetCi w (2 * (n : Int)) 1 (chooseG n).g (chooseG n).o) := by
  have hB : Below w.heap.size w (w.alloc (.cells #[.int .i64 0, .int .i64 0, .slice none 0 0, .slice none 0 0] 27)) := (Below.refl _ _).alloc (Nat.le_refl _) _
  have hx0 : BxC (w.alloc (.cells #[.int .i64 0, .int .i64 0, .slice none 0 0, .slice none 0 0] 27)) w.heap.size 0 0 none 0 0 none 0 0 := BxC.new w _
  have hl3 := spn_len 0 n
  have hl4 := spn_len n n
  have hm0 := Mk.new ((w.alloc (.cells #[.int .i64 0, .int .i64 0, .slice none 0 0, .slice none 0 0] 27)).alloc (.cells #[.int .i64 n, .int .i64 n, .slice none 0 0, .slice none 0 0] 72)) (w.heap.size + 1) (2 * (n : Int)) 1 72
  have hB1 := hB.alloc hB.size (.cells #[.int .i64 n, .int .i64 n, .slice none 0 0, .slice none 0 0] 72)
  have hB2 := hB1.alloc hB1.size (.cells #[.int .i64 (2 * (n : Int)), .int .i64 1, .slice none 0 0, .slice none 0 0] 72)
  have hx1 := hx0.below ((Below.refl _ _).alloc (Nat.le_refl _) (.cells #[.int .i64 n, .int .i64 n, .slice none 0 0, .slice none 0 0] 72))
  have hx2 := hx1.below ((Below.refl _ _).alloc (Nat.le_refl _) (.cells #[.int .i64 (2 * (n : Int)), .int .i64 1, .slice none 0 0, .slice none 0 0] 72))
  have f2 := ((Fz.new w #[.int .i64 0, .int .i64 0, .slice none 0 0, .slice none 0 0] 27).below ((Below.refl _ _).alloc (Nat.le_refl _) (.cells #[.int .i64 n, .int .i64 n, .slice none 0 0, .slice none 0 0] 72)) (by simp)).below ((Below.refl _ _).alloc (Nat.le_refl _) (.cells #[.int .i64 (2 * (n : Int)), .int .i64 1, .slice none 0 0, .slice none 0 0] 72)) (by simp; omega)
  clear hB1 hx1
  simp only [World.size_alloc] at hm0
  go_enter Try.func59, Try.ntmps59
  go_wp2_with fail
  refine (ciNew_any n n _).mono ?_
  rintro e w1 ⟨rfl, rfl⟩
  go_wp2_with fail
  refine (ciNew_any (2 * (n : Int)) 1 _).mono ?_
  rintro e w1 ⟨rfl, rfl⟩
  go_wp2_with fail
  refine (gdRange_any 0 n _ (by omega) (by omega)).mono ?_
  rintro e w3 hT
  obtain ⟨A3, c3, rfl, hown3, hb3⟩ := hT.open_ hl3
  have hx3 := hx2.below hb3
  have f3 := f2.below hb3 (by simp; omega)
  have hm3 := hm0.below_ hb3 (Nat.le_refl _)
  have hB3 := hB2.trans (hb3.mono hB2.size)
  go_wp2_with fail
  refine (gdRange_any n n _ (by omega) (by omega)).mono ?_
  rintro e w4 hT
  obtain ⟨A4, c4, rfl, hown4, hb4⟩ := hT.open_ hl4
  have hx4 := hx3.below hb4
  have hm4 := hm3.below_ hb4 (Nat.le_refl _)
  have hB4 := hB3.trans (hb4.mono hB3.size)
  have hr3 := RM.ofOwn (b := w.heap.size + 1 + 1) (hown3.below hb4 (.inl (Nat.le_refl _))) (by simp)
  have hz3 := hb3.size
  simp only [World.size_alloc] at hz3
  have f4 := f3.below hb4 (by omega)
  have hr4 := RM.ofOwn (b := w.heap.size + 1 + 1) hown4 (by omega)
  have hz4 := hB4.size
  have hz4' := hb4.size
  clear hx0 hx2 hx3 hm0 hm3 hB hB2 hB3 hown3 hown4 f2 f3 hb3 hb4
  have hm : Hid ((chooseG n).o.length = n) := Lib.hid (chs_o _ _ _ _ _ _)
  go_wp2_with fail
  refine (gdPick_any (w.heap.size + 1) (w.heap.size + 1 + 1) (2 * (n : Int)) 1 [] none A3 A4 n c3 c4 (2 * (n : Int)) _ _ _ hm4 hr3 hr4 (by omega) (by omega) (by simp) (by omega) (by omega)).mono ?_
  rintro e w5 hT
  have hT' : RetRow (w.heap.size + 1) (w.heap.size + 1 + 1) (2 * (n : Int)) 1 (chooseG n).g (chooseG n).o none w4 e w5 := hT
  obtain ⟨G5, O5, oc5, rfl, hm5, hv5, ho5⟩ := hT'.open_ hm.out
  have hx5 : BxC w5 w.heap.size 0 0 none 0 0 none 0 0 := ⟨hv5.cellF hx4.1 ⟨by simp; try omega, by simp⟩, hv5.cellF hx4.2.1 ⟨by simp; try omega, by simp⟩, hv5.cellF hx4.2.2.1 ⟨by simp; try omega, by simp⟩, hv5.cellF hx4.2.2.2 ⟨by simp; try omega, by simp⟩⟩
  have hB5 := hv5.toBelow hB4 (by omega) (by simp) hz4
  have hz5 := hv5.size
  obtain ⟨Ag, cg, hx6, hx7, hw7, hfz⟩ := hm5.circuit ho5 (by omega)
  have hB7 := hB5.setCell (p := ⟨w.heap.size + 1 + 1, 3, none⟩) (by show w.heap.size ≤ w.heap.size + 1 + 1; omega) (.slice O5 n oc5)
  have hx8 : BxC (w5.setCell ⟨w.heap.size + 1 + 1, 3, none⟩ (.slice O5 n oc5)) w.heap.size 0 0 none 0 0 none 0 0 := ⟨(World.cell?_setCell_other _ _ _ _ (by simp; try omega)).trans hx5.1, (World.cell?_setCell_other _ _ _ _ (by simp; try omega)).trans hx5.2.1, (World.cell?_setCell_other _ _ _ _ (by simp; try omega)).trans hx5.2.2.1, (World.cell?_setCell_other _ _ _ _ (by simp; try omega)).trans hx5.2.2.2⟩
  obtain ⟨i0, i1, i2, i3⟩ := hx7
  obtain ⟨j0, j1, j2, j3⟩ := hx6
  have f8 := (f4.mv hv5 (by omega) ⟨by omega, by simp⟩).set ⟨w.heap.size + 1 + 1, 3, none⟩ (.slice O5 n oc5)
  have g0 := f8 0; have g1 := f8 1; have g2 := f8 2; have g3 := f8 3
  have hy9 := hx8; obtain ⟨l0, l1, l2, l3⟩ := hy9
  clear hm5 ho5 hx5 hx4 hm4 hr3 hr4 hv5
  go_wp2
  have hq9 := BxC.set4 (hx8) (2*(n:Int)) 1 Ag (chooseG n).g.length cg O5 n oc5
  obtain ⟨q0, q1, q2, q3⟩ := hq9
  refine bodyPost_ret (v := .agg #[.int .i64 (2*(n:Int)), .int .i64 1, .slice Ag (chooseG n).g.length cg, .slice O5 n oc5]) (by simp [results, Try.results59, go_sem, q0, q1, q2, q3]) rfl ?_
  exact RetCi.mk_ hm.out rfl (by rw [set4_size]; exact ((hw7.set4 (.inl (by omega)) _ _ _ _ _ _ _ _).lo_ (by omega)).hi_ (by simp)) (below_set4 hB7 (Nat.le_refl _) _ _ _ _ _ _ _ _)
set_option maxRecDepth 100000 in
set_option maxHeartbeats 4000000 in
theorem gdMake_5 (n : Nat) (w : World) (h1 : 1 ≤ n) (h8 : n ≤ 8) : Calls Try.prog 59 #[.int .i64 5, .int .i64 n] w (RetCi w n n (greatestG n).g (greatestG n).o) := by
  have hB : Below w.heap.size w (w.alloc (.cells #[.int .i64 0, .int .i64 0, .slice none 0 0, .slice none 0 0] 27)) := (Below.refl _ _).alloc (Nat.le_refl _) _
  have hx0 : BxC (w.alloc (.cells #[.int .i64 0, .int .i64 0, .slice none 0 0, .slice none 0 0] 27)) w.heap.size 0 0 none 0 0 none 0 0 := BxC.new w _
  have hl3 := spn_len 0 n
  have hl4 := spn_len n n
  have hm0 := Mk.new (w.alloc (.cells #[.int .i64 0, .int .i64 0, .slice none 0 0, .slice none 0 0] 27)) (w.heap.size + 1) (n : Int) (n : Int) 72
  have hB2 := hB.alloc hB.size (.cells #[.int .i64 n, .int .i64 n, .slice none 0 0, .slice none 0 0] 72)
  have hx2 := hx0.below ((Below.refl _ _).alloc (Nat.le_refl _) (.cells #[.int .i64 n, .int .i64 n, .slice none 0 0, .slice none 0 0] 72))
  have f2 := (Fz.new w #[.int .i64 0, .int .i64 0, .slice none 0 0, .slice none 0 0] 27).below ((Below.refl _ _).alloc (Nat.le_refl _) (.cells #[.int .i64 n, .int .i64 n, .slice none 0 0, .slice none 0 0] 72)) (by simp)
  simp only [World.size_alloc] at hm0
  go_enter Try.func59, Try.ntmps59
  go_wp2_with fail
  refine (ciNew_any n n _).mono ?_
  rintro e w1 ⟨rfl, rfl⟩
  go_wp2_with fail
  refine (gdRange_any 0 n _ (by omega) (by omega)).mono ?_
  rintro e w3 hT
  obtain ⟨A3, c3, rfl, hown3, hb3⟩ := hT.open_ hl3
  have hx3 := hx2.below hb3
  have f3 := f2.below hb3 (by simp; omega)
  have hm3 := hm0.below_ hb3 (Nat.le_refl _)
  have hB3 := hB2.trans (hb3.mono hB2.size)
  go_wp2_with fail
  refine (gdRange_any n n _ (by omega) (by omega)).mono ?_
  rintro e w4 hT
  obtain ⟨A4, c4, rfl, hown4, hb4⟩ := hT.open_ hl4
  have hx4 := hx3.below hb4
  have hm4 := hm3.below_ hb4 (Nat.le_refl _)
  have hB4 := hB3.trans (hb4.mono hB3.size)
  have hr3 := RM.ofOwn (b := w.heap.size + 1) (hown3.below hb4 (.inl (Nat.le_refl _))) (by simp)
  have hz3 := hb3.size
  simp only [World.size_alloc] at hz3
  have f4 := f3.below hb4 (by omega)
  have hr4 := RM.ofOwn (b := w.heap.size + 1) hown4 (by omega)
  have hz4 := hB4.size
  have hz4' := hb4.size
  clear hx0 hx2 hx3 hm0 hm3 hB hB2 hB3 hown3 hown4 f2 f3 hb3 hb4
  obtain ⟨T, hT0⟩ : ∃ T, Hid (subS (n + n) [] (spn 0 n) (spn n n) n = T) := ⟨_, Lib.hid rfl⟩
  have hE : Hid (greatestG n = chs (n + n) T.g T.c (spn n n) (spn 0 n) n) := Lib.hid (by rw [← hT0.out]; rfl)
  have hL : Hid (T.o.length = n) := Lib.hid (by rw [← hT0.out]; exact subS_o _ _ _ _ _)
  have hK : T.g.length ≤ 6 * n := by rw [← hT0.out]; have := subS_g (n + n) [] (spn 0 n) (spn n n) n; simp at this; omega
  obtain ⟨Tg, To, Tc⟩ := T
  dsimp only at hK hL
  have hl5 : (To ++ [Tc]).length = n + 1 := by simp [hL.out]
  have he5 : Hid (gi (To ++ [Tc]) n = Tc) := Lib.hid (by have := gi_append_at (xs := To) (x := Tc); rwa [hL.out] at this)
  go_wp2_with fail
  have q9 := gdSub_any (w.heap.size + 1) (w.heap.size + 1) n n [] none A3 A4 n c3 c4 _ _ _ hm4 hr3 hr4 (by omega) (by omega) (by simp) (by omega) (by omega)
  rw [hT0.out] at q9
  refine q9.mono ?_
  clear q9
  rintro e w6 hT
  obtain ⟨G6, O6, oc6, rfl, hm6, hv6, ho6⟩ := hT.open_ hl5
  dsimp only at hm6 ho6
  obtain ⟨gb, rfl, hgb1, hgb2, hgb3⟩ := ho6.1.some_ (by omega)
  have hof := ho6.2 gb (by simp [Value.ownBlock])
  obtain ⟨c6, _⟩ := ho6.reads.cellV (Mv.refl_ _ G6 w6) (i := n) (by omega) he5
  simp only [Nat.zero_add] at c6
  have hz6 := hv6.size
  have hoc : n + 1 ≤ oc6 := by
    obtain ⟨A9, c9, h9, _, h8⟩ := ho6.1.form
    simp only [Value.slice.injEq, true_and] at h9
    omega
  have hlk : Hid ((greatestG n).o.length = n) := Lib.hid (by rw [hE.out]; exact chs_o _ _ _ _ _ _)
  have hm := hlk
  go_wp2_with fail
  refine (gdPick_any (w.heap.size + 1) (w.heap.size + 1) n n Tg G6 A4 A3 n c4 c3 Tc _ _ _ hm6 (hr4.mv hv6) (hr3.mv hv6) (by omega) (by omega) (by omega) (by omega) (by omega)).mono ?_
  rintro e w5 hT2
  have hT' : RetRow (w.heap.size + 1) (w.heap.size + 1) n n (greatestG n).g (greatestG n).o G6 w6 e w5 := by rw [hE.out]; exact hT2
  obtain ⟨G5, O5, oc5, rfl, hm5, hv5', ho5⟩ := hT'.open_ hm.out
  have hv5 := hv6.trans_ hv5'
  clear hm6 ho6 c6
  have hx5 : BxC w5 w.heap.size 0 0 none 0 0 none 0 0 := ⟨hv5.cellF hx4.1 ⟨by simp; try omega, by simp⟩, hv5.cellF hx4.2.1 ⟨by simp; try omega, by simp⟩, hv5.cellF hx4.2.2.1 ⟨by simp; try omega, by simp⟩, hv5.cellF hx4.2.2.2 ⟨by simp; try omega, by simp⟩⟩
  have hB5 := hv5.toBelow hB4 (by omega) (by simp) hz4
  have hz5 := hv5.size
  obtain ⟨Ag, cg, hx6, hx7, hw7, hfz⟩ := hm5.circuit ho5 (by omega)
  have hB7 := hB5.setCell (p := ⟨w.heap.size + 1, 3, none⟩) (by show w.heap.size ≤ w.heap.size + 1; omega) (.slice O5 n oc5)
  have hx8 : BxC (w5.setCell ⟨w.heap.size + 1, 3, none⟩ (.slice O5 n oc5)) w.heap.size 0 0 none 0 0 none 0 0 := ⟨(World.cell?_setCell_other _ _ _ _ (by simp; try omega)).trans hx5.1, (World.cell?_setCell_other _ _ _ _ (by simp; try omega)).trans hx5.2.1, (World.cell?_setCell_other _ _ _ _ (by simp; try omega)).trans hx5.2.2.1, (World.cell?_setCell_other _ _ _ _ (by simp; try omega)).trans hx5.2.2.2⟩
  obtain ⟨i0, i1, i2, i3⟩ := hx7
  obtain ⟨j0, j1, j2, j3⟩ := hx6
  have f8 := (f4.mv hv5 (by omega) ⟨by omega, by simp⟩).set ⟨w.heap.size + 1, 3, none⟩ (.slice O5 n oc5)
  have g0 := f8 0; have g1 := f8 1; have g2 := f8 2; have g3 := f8 3
  have hy9 := hx8; obtain ⟨l0, l1, l2, l3⟩ := hy9
  clear hm5 ho5 hx5 hx4 hm4 hr3 hr4 hv5
  go_wp2
  have hq9 := BxC.set4 (hx8) (n : Int) (n : Int) Ag (greatestG n).g.length cg O5 n oc5
  obtain ⟨q0, q1, q2, q3⟩ := hq9
  refine bodyPost_ret (v := .agg #[.int .i64 (n : Int), .int .i64 (n : Int), .slice Ag (greatestG n).g.length cg, .slice O5 n oc5]) (by simp [results, Try.results59, go_sem, q0, q1, q2, q3]) rfl ?_
  exact RetCi.mk_ hm.out rfl (by rw [set4_size]; exact ((hw7.set4 (.inl (by omega)) _ _ _ _ _ _ _ _).lo_ (by omega)).hi_ (by simp)) (below_set4 hB7 (Nat.le_refl _) _ _ _ _ _ _ _ _)
set_option maxRecDepth 100000 in
set_option maxHeartbeats 4000000 in
theorem gdMake_2 (n : Nat) (w : World) (h1 : 1 ≤ n) (h8 : n ≤ 8) : Calls Try.prog 59 #[.int .i64 2, .int .i64 n] w (RetCir w n n (lessG n).g (lessG n).o) := by
  have hB : Below w.heap.size w (w.alloc (.cells #[.int .i64 0, .int .i64 0, .slice none 0 0, .slice none 0 0] 27)) := (Below.refl _ _).alloc (Nat.le_refl _) _
  have hx0 : BxC (w.alloc (.cells #[.int .i64 0, .int .i64 0, .slice none 0 0, .slice none 0 0] 27)) w.heap.size 0 0 none 0 0 none 0 0 := BxC.new w _
  have hl3 := spn_len 0 n
  have hl4 := spn_len n n
  have hm0 := Mk.new (w.alloc (.cells #[.int .i64 0, .int .i64 0, .slice none 0 0, .slice none 0 0] 27)) (w.heap.size + 1) (n : Int) (n : Int) 72
  have hB2 := hB.alloc hB.size (.cells #[.int .i64 n, .int .i64 n, .slice none 0 0, .slice none 0 0] 72)
  have hx2 := hx0.below ((Below.refl _ _).alloc (Nat.le_refl _) (.cells #[.int .i64 n, .int .i64 n, .slice none 0 0, .slice none 0 0] 72))
  have f2 := (Fz.new w #[.int .i64 0, .int .i64 0, .slice none 0 0, .slice none 0 0] 27).below ((Below.refl _ _).alloc (Nat.le_refl _) (.cells #[.int .i64 n, .int .i64 n, .slice none 0 0, .slice none 0 0] 72)) (by simp)
  simp only [World.size_alloc] at hm0
  go_enter Try.func59, Try.ntmps59
  go_wp2_with fail
  refine (ciNew_any n n _).mono ?_
  rintro e w1 ⟨rfl, rfl⟩
  go_wp2_with fail
  refine (gdRange_any 0 n _ (by omega) (by omega)).mono ?_
  rintro e w3 hT
  obtain ⟨A3, c3, rfl, hown3, hb3⟩ := hT.open_ hl3
  have hx3 := hx2.below hb3
  have f3 := f2.below hb3 (by simp; omega)
  have hm3 := hm0.below_ hb3 (Nat.le_refl _)
  have hB3 := hB2.trans (hb3.mono hB2.size)
  go_wp2_with fail
  refine (gdRange_any n n _ (by omega) (by omega)).mono ?_
  rintro e w4 hT
  obtain ⟨A4, c4, rfl, hown4, hb4⟩ := hT.open_ hl4
  have hx4 := hx3.below hb4
  have hm4 := hm3.below_ hb4 (Nat.le_refl _)
  have hB4 := hB3.trans (hb4.mono hB3.size)
  have hr3 := RM.ofOwn (b := w.heap.size + 1) (hown3.below hb4 (.inl (Nat.le_refl _))) (by simp)
  have hz3 := hb3.size
  simp only [World.size_alloc] at hz3
  have f4 := f3.below hb4 (by omega)
  have hr4 := RM.ofOwn (b := w.heap.size + 1) hown4 (by omega)
  have hz4 := hB4.size
  have hz4' := hb4.size
  clear hx0 hx2 hx3 hm0 hm3 hB hB2 hB3 hown3 hown4 f2 f3 hb3 hb4
  obtain ⟨T, hT0⟩ : ∃ T, Hid (subS (n + n) [] (spn 0 n) (spn n n) n = T) := ⟨_, Lib.hid rfl⟩
  have hE : Hid (lessG n = ⟨T.g, [T.c]⟩) := Lib.hid (by rw [← hT0.out]; rfl)
  have hL : Hid (T.o.length = n) := Lib.hid (by rw [← hT0.out]; exact subS_o _ _ _ _ _)
  have hK : T.g.length ≤ 6 * n := by rw [← hT0.out]; have := subS_g (n + n) [] (spn 0 n) (spn n n) n; simp at this; omega
  obtain ⟨Tg, To, Tc⟩ := T
  dsimp only at hK hL
  have hl5 : (To ++ [Tc]).length = n + 1 := by simp [hL.out]
  have he5 : Hid (gi (To ++ [Tc]) n = Tc) := Lib.hid (by have := gi_append_at (xs := To) (x := Tc); rwa [hL.out] at this)
  go_wp2_with fail
  have q9 := gdSub_any (w.heap.size + 1) (w.heap.size + 1) n n [] none A3 A4 n c3 c4 _ _ _ hm4 hr3 hr4 (by omega) (by omega) (by simp) (by omega) (by omega)
  rw [hT0.out] at q9
  refine q9.mono ?_
  clear q9
  rintro e w5 hT
  obtain ⟨G5, O6, oc6, rfl, hm5, hv5, ho6⟩ := hT.open_ hl5
  dsimp only at hm5 ho6
  obtain ⟨gb, rfl, hgb1, hgb2, hgb3⟩ := ho6.1.some_ (by omega)
  have hof := ho6.2 gb (by simp [Value.ownBlock])
  obtain ⟨c6, _⟩ := ho6.reads.cellV (Mv.refl_ _ G5 w5) (i := n) (by omega) he5
  simp only [Nat.zero_add] at c6
  have hz6 := hv5.size
  have hoc : n + 1 ≤ oc6 := by
    obtain ⟨A9, c9, h9, _, h8⟩ := ho6.1.form
    simp only [Value.slice.injEq, true_and] at h9
    omega
  have hm : Hid ((lessG n).o.length = 1) := Lib.hid (by rw [hE.out]; rfl)
  have hrd : RIn w5 w4.heap.size w5.heap.size (some ⟨gb, n, none⟩) 1 (lessG n).o ∧ ∀ k o, (some ⟨gb, n, none⟩ : Option Addr) = some ⟨k, o, none⟩ → k ≠ w.heap.size + 1 := by
    rw [hE.out]
    refine ⟨⟨⟨rfl, fun _ => ⟨gb, n, rfl, hgb3, fun j hj => ?_⟩⟩, fun _ k o hA => ?_⟩, fun k o hA => ?_⟩
    · obtain rfl : j = 0 := by omega
      exact c6
    · simp only [Option.some.injEq, Addr.mk.injEq, and_true] at hA; omega
    · simp only [Option.some.injEq, Addr.mk.injEq, and_true] at hA; rw [← hA.1]; exact hof.1
  have hm5' : Mk w5 (w.heap.size + 1) (w.heap.size + 1) n n (lessG n).g G5 := by rw [hE.out]; exact hm5
  clear hm5
  have hm5 := hm5'
  clear hm5'
  have ho5 := hrd
  have hon : ¬ oc6 - n = 0 := by omega
  have hx5 : BxC w5 w.heap.size 0 0 none 0 0 none 0 0 := ⟨hv5.cellF hx4.1 ⟨by simp; try omega, by simp⟩, hv5.cellF hx4.2.1 ⟨by simp; try omega, by simp⟩, hv5.cellF hx4.2.2.1 ⟨by simp; try omega, by simp⟩, hv5.cellF hx4.2.2.2 ⟨by simp; try omega, by simp⟩⟩
  have hB5 := hv5.toBelow hB4 (by omega) (by simp) hz4
  have hz5 := hv5.size
  obtain ⟨Ag, cg, hx6, hx7, hw7, hfz⟩ := hm5.circuitR (oc := oc6 - n) ho5 (by omega)
  have hB7 := hB5.setCell (p := ⟨w.heap.size + 1, 3, none⟩) (by show w.heap.size ≤ w.heap.size + 1; omega) (.slice (some ⟨gb, n, none⟩) 1 (oc6 - n))
  have hx8 : BxC (w5.setCell ⟨w.heap.size + 1, 3, none⟩ (.slice (some ⟨gb, n, none⟩) 1 (oc6 - n))) w.heap.size 0 0 none 0 0 none 0 0 := ⟨(World.cell?_setCell_other _ _ _ _ (by simp; try omega)).trans hx5.1, (World.cell?_setCell_other _ _ _ _ (by simp; try omega)).trans hx5.2.1, (World.cell?_setCell_other _ _ _ _ (by simp; try omega)).trans hx5.2.2.1, (World.cell?_setCell_other _ _ _ _ (by simp; try omega)).trans hx5.2.2.2⟩
  obtain ⟨i0, i1, i2, i3⟩ := hx7
  obtain ⟨j0, j1, j2, j3⟩ := hx6
  have f8 := (f4.mv hv5 (by omega) ⟨by omega, by simp⟩).set ⟨w.heap.size + 1, 3, none⟩ (.slice (some ⟨gb, n, none⟩) 1 (oc6 - n))
  have g0 := f8 0; have g1 := f8 1; have g2 := f8 2; have g3 := f8 3
  have hy9 := hx8; obtain ⟨l0, l1, l2, l3⟩ := hy9
  clear hm5 ho5 hx5 hx4 hm4 hr3 hr4 hv5
  go_wp2
  have hq9 := BxC.set4 (hx8) (n : Int) (n : Int) Ag (lessG n).g.length cg (some ⟨gb,n,none⟩) 1 (oc6-n)
  obtain ⟨q0, q1, q2, q3⟩ := hq9
  refine bodyPost_ret (v := .agg #[.int .i64 (n : Int), .int .i64 (n : Int), .slice Ag (lessG n).g.length cg, .slice (some ⟨gb,n,none⟩) 1 (oc6-n)]) (by simp [results, Try.results59, go_sem, q0, q1, q2, q3]) rfl ?_
  exact RetCir.mk_ hm.out rfl (by rw [set4_size]; exact ((hw7.set4 (.inl (by omega)) _ _ _ _ _ _ _ _).lo_ (by omega)).hi_ (by simp)) (below_set4 hB7 (Nat.le_refl _) _ _ _ _ _ _ _ _)
end Go.Proofs.Ytimmjppkaadggaa
