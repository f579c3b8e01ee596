/- Contracts of gadgets. Plain functions: bits of numbers, numbers of bits, tables of a circuit's outs; no program in sight. -/
import Derived.Test.YtimmjppkaadggaaQP15
import Derived.Test.YtimmjppkaadggaaQP05
namespace Go.Proofs.Ytimmjppkaadggaa
open Go.RowKit
set_option linter.unusedVariables false
set_option linter.unusedSimpArgs false
set_option maxRecDepth 100000 in
set_option maxHeartbeats 1600000 in
theorem gdKind_0 (a : Int) (w : World) : Calls Try.prog 23 #[.int .i64 0, .int .i64 a] w (RetC w (gadF adderG 8 a)) := by
  have hB : Below w.heap.size w (w.alloc (.cells #[.int .i64 0, .int .i64 0, .slice none 0 0, .slice none 0 0] 27)) := (Below.refl _ _).alloc (Nat.le_refl _) _
  have hx0 : BxC (w.alloc (.cells #[.int .i64 0, .int .i64 0, .slice none 0 0, .slice none 0 0] 27)) w.heap.size 0 0 none 0 0 none 0 0 := BxC.new w _
  cases h0 : inB 1 8 a with
  | false =>
    have HR : Hid (gadF adderG 8 a = none) := Lib.hid (by simp [gadF, h0])
    have H0 := Lib.hid h0; clear h0
    go_enter Try.func23, Try.ntmps23
    go_wp2_with fail
    refine (gdWidth_any a _).mono ?_
    rintro e w1 ⟨rfl, rfl⟩
    rw [H0.out]
    go_wp2
    have hq9 := BxC.set4 (hx0) 0 0 none 0 0 none 0 0
    obtain ⟨q0, q1, q2, q3⟩ := hq9
    refine bodyPost_ret (v := .tuple #[.agg #[.int .i64 0, .int .i64 0, .slice none 0 0, .slice none 0 0], .bool false]) (by simp [results, Try.results23, go_sem, q0, q1, q2, q3]) rfl ?_
    exact RetC.none_ hB HR.out rfl
  | true =>
    have hab := inB_iff.1 h0
    obtain ⟨n, rfl⟩ : ∃ n : Nat, a = n := ⟨a.toNat, by omega⟩
    have h1 : 1 ≤ n := by omega
    have h8 : n ≤ 8 := by omega
    have HR : Hid (gadF adderG 8 (n : Int) = some ⟨(n : Int), (n : Int), (adderG n).g, (adderG n).o⟩) := Lib.hid (by simp [gadF, h0])
    have H0 := Lib.hid h0; clear h0 hab
    have H6 : Hid (inB 0 6 0 = true) := Lib.hid (by decide)
    go_enter Try.func23, Try.ntmps23
    go_wp2_with fail
    refine (gdWidth_any n _).mono ?_
    rintro e w1 ⟨rfl, rfl⟩
    rw [H0.out]
    go_wp2_with fail
    refine (l1In_any 0 0 6 _ rfl _).mono ?_
    rintro e w1 ⟨rfl, rfl⟩
    rw [H6.out]
    go_wp2_with fail
    refine (gdMake_0 n _ h1 h8).mono ?_
    rintro e w2 ⟨Ag, cg, Ao, co, rfl, hw2, hb2⟩
    have hx2 := hx0.below hb2
    have f2 : Fz w2 w.heap.size := (Fz.new w _ _).below hb2 (by simp)
    have g0 := f2 0; have g1 := f2 1; have g2 := f2 2; have g3 := f2 3
    have hy2 := hx2; obtain ⟨l0, l1, l2, l3⟩ := hy2
    have hB2 := hB.trans (hb2.mono hB.size)
    simp only [World.size_alloc] at hw2
    go_wp2
    have hq9 := BxC.set4 (hx2) (n:Int) (n : Int) Ag (adderG n).g.length cg Ao (adderG n).o.length co
    obtain ⟨q0, q1, q2, q3⟩ := hq9
    refine bodyPost_ret (v := .tuple #[.agg #[.int .i64 (n:Int), .int .i64 (n : Int), .slice Ag (adderG n).g.length cg, .slice Ao (adderG n).o.length co], .bool true]) (by simp [results, Try.results23, go_sem, q0, q1, q2, q3]) rfl ?_
    exact RetC.some_ (below_set4 hB2 (Nat.le_refl _) _ _ _ _ _ _ _ _) HR.out rfl rfl rfl (by rw [set4_size]; exact ((hw2.set4 (.inl (by omega)) _ _ _ _ _ _ _ _).lo_ (by omega)))
set_option maxHeartbeats 1600000 in
theorem spec_AdderCircuit_any (a : Int) (w : World) : Calls Try.prog 10 #[.int .i64 a] w (RetC w (gadF adderG 8 a)) := by
  have hB : Below w.heap.size w (w.alloc (.cells #[.int .i64 0, .int .i64 0, .slice none 0 0, .slice none 0 0] 27)) := (Below.refl _ _).alloc (Nat.le_refl _) _
  have hx0 : BxC (w.alloc (.cells #[.int .i64 0, .int .i64 0, .slice none 0 0, .slice none 0 0] 27)) w.heap.size 0 0 none 0 0 none 0 0 := BxC.new w _
  obtain ⟨R, hR⟩ : ∃ R, Hid (gadF adderG 8 a = R) := ⟨_, Lib.hid rfl⟩
  rw [hR.out]
  obtain ⟨x, y, gs, os, hQ⟩ : ∃ x y gs os, Hid (R.getD ⟨0, 0, [], []⟩ = ⟨x, y, gs, os⟩) := ⟨_, _, _, _, Lib.hid rfl⟩
  obtain ⟨t, ht⟩ : ∃ t, Hid (R.isSome = t) := ⟨_, Lib.hid rfl⟩
  go_enter Try.func10, Try.ntmps10
  go_wp2_with fail
  refine (gdKind_0 a _).mono ?_
  rintro e w1 hT
  rw [hR.out] at hT
  obtain ⟨Ag, cg, Ao, co, rfl, hw1, hb1⟩ := hT.to hQ.out ht.out
  have hx1 := hx0.below hb1
  have f1 : Fz w1 w.heap.size := (Fz.new w _ _).below hb1 (by simp)
  have g0 := f1 0; have g1 := f1 1; have g2 := f1 2; have g3 := f1 3
  have hy1 := hx1; obtain ⟨l0, l1, l2, l3⟩ := hy1
  have hB1 := hB.trans (hb1.mono hB.size)
  simp only [World.size_alloc] at hw1
  go_wp2
  have hq9 := BxC.set4 (hx1) x y Ag gs.length cg Ao os.length co
  obtain ⟨q0, q1, q2, q3⟩ := hq9
  refine bodyPost_ret (v := .tuple #[.agg #[.int .i64 x, .int .i64 y, .slice Ag gs.length cg, .slice Ao os.length co], .bool t]) (by simp [results, Try.results10, go_sem, q0, q1, q2, q3]) rfl ?_
  exact RetC.of hQ.out ht.out rfl (by rw [set4_size]; exact ((hw1.set4 (.inl (by omega)) _ _ _ _ _ _ _ _).lo_ (by omega))) (below_set4 hB1 (Nat.le_refl _) _ _ _ _ _ _ _ _)
set_option maxRecDepth 100000 in
set_option maxHeartbeats 1600000 in
theorem gdKind_1 (a : Int) (w : World) : Calls Try.prog 23 #[.int .i64 1, .int .i64 a] w (RetC w (gadF subG 8 a)) := by
  have hB : Below w.heap.size w (w.alloc (.cells #[.int .i64 0, .int .i64 0, .slice none 0 0, .slice none 0 0] 27)) := (Below.refl _ _).alloc (Nat.le_refl _) _
  have hx0 : BxC (w.alloc (.cells #[.int .i64 0, .int .i64 0, .slice none 0 0, .slice none 0 0] 27)) w.heap.size 0 0 none 0 0 none 0 0 := BxC.new w _
  cases h0 : inB 1 8 a with
  | false =>
    have HR : Hid (gadF subG 8 a = none) := Lib.hid (by simp [gadF, h0])
    have H0 := Lib.hid h0; clear h0
    go_enter Try.func23, Try.ntmps23
    go_wp2_with fail
    refine (gdWidth_any a _).mono ?_
    rintro e w1 ⟨rfl, rfl⟩
    rw [H0.out]
    go_wp2
    have hq9 := BxC.set4 (hx0) 0 0 none 0 0 none 0 0
    obtain ⟨q0, q1, q2, q3⟩ := hq9
    refine bodyPost_ret (v := .tuple #[.agg #[.int .i64 0, .int .i64 0, .slice none 0 0, .slice none 0 0], .bool false]) (by simp [results, Try.results23, go_sem, q0, q1, q2, q3]) rfl ?_
    exact RetC.none_ hB HR.out rfl
  | true =>
    have hab := inB_iff.1 h0
    obtain ⟨n, rfl⟩ : ∃ n : Nat, a = n := ⟨a.toNat, by omega⟩
    have h1 : 1 ≤ n := by omega
    have h8 : n ≤ 8 := by omega
    have HR : Hid (gadF subG 8 (n : Int) = some ⟨(n : Int), (n : Int), (subG n).g, (subG n).o⟩) := Lib.hid (by simp [gadF, h0])
    have H0 := Lib.hid h0; clear h0 hab
    have H6 : Hid (inB 0 6 1 = true) := Lib.hid (by decide)
    go_enter Try.func23, Try.ntmps23
    go_wp2_with fail
    refine (gdWidth_any n _).mono ?_
    rintro e w1 ⟨rfl, rfl⟩
    rw [H0.out]
    go_wp2_with fail
    refine (l1In_any 1 0 6 _ rfl _).mono ?_
    rintro e w1 ⟨rfl, rfl⟩
    rw [H6.out]
    go_wp2_with fail
    refine (gdMake_1 n _ h1 h8).mono ?_
    rintro e w2 ⟨Ag, cg, Ao, co, rfl, hw2, hb2⟩
    have hx2 := hx0.below hb2
    have f2 : Fz w2 w.heap.size := (Fz.new w _ _).below hb2 (by simp)
    have g0 := f2 0; have g1 := f2 1; have g2 := f2 2; have g3 := f2 3
    have hy2 := hx2; obtain ⟨l0, l1, l2, l3⟩ := hy2
    have hB2 := hB.trans (hb2.mono hB.size)
    simp only [World.size_alloc] at hw2
    go_wp2
    have hq9 := BxC.set4 (hx2) (n:Int) (n : Int) Ag (subG n).g.length cg Ao (subG n).o.length co
    obtain ⟨q0, q1, q2, q3⟩ := hq9
    refine bodyPost_ret (v := .tuple #[.agg #[.int .i64 (n:Int), .int .i64 (n : Int), .slice Ag (subG n).g.length cg, .slice Ao (subG n).o.length co], .bool true]) (by simp [results, Try.results23, go_sem, q0, q1, q2, q3]) rfl ?_
    exact RetC.some_ (below_set4 hB2 (Nat.le_refl _) _ _ _ _ _ _ _ _) HR.out rfl rfl rfl (by rw [set4_size]; exact ((hw2.set4 (.inl (by omega)) _ _ _ _ _ _ _ _).lo_ (by omega)))
set_option maxHeartbeats 1600000 in
theorem spec_SubtractCircuit_any (a : Int) (w : World) : Calls Try.prog 13 #[.int .i64 a] w (RetC w (gadF subG 8 a)) := by
  have hB : Below w.heap.size w (w.alloc (.cells #[.int .i64 0, .int .i64 0, .slice none 0 0, .slice none 0 0] 27)) := (Below.refl _ _).alloc (Nat.le_refl _) _
  have hx0 : BxC (w.alloc (.cells #[.int .i64 0, .int .i64 0, .slice none 0 0, .slice none 0 0] 27)) w.heap.size 0 0 none 0 0 none 0 0 := BxC.new w _
  obtain ⟨R, hR⟩ : ∃ R, Hid (gadF subG 8 a = R) := ⟨_, Lib.hid rfl⟩
  rw [hR.out]
  obtain ⟨x, y, gs, os, hQ⟩ : ∃ x y gs os, Hid (R.getD ⟨0, 0, [], []⟩ = ⟨x, y, gs, os⟩) := ⟨_, _, _, _, Lib.hid rfl⟩
  obtain ⟨t, ht⟩ : ∃ t, Hid (R.isSome = t) := ⟨_, Lib.hid rfl⟩
  go_enter Try.func13, Try.ntmps13
  go_wp2_with fail
  refine (gdKind_1 a _).mono ?_
  rintro e w1 hT
  rw [hR.out] at hT
  obtain ⟨Ag, cg, Ao, co, rfl, hw1, hb1⟩ := hT.to hQ.out ht.out
  have hx1 := hx0.below hb1
  have f1 : Fz w1 w.heap.size := (Fz.new w _ _).below hb1 (by simp)
  have g0 := f1 0; have g1 := f1 1; have g2 := f1 2; have g3 := f1 3
  have hy1 := hx1; obtain ⟨l0, l1, l2, l3⟩ := hy1
  have hB1 := hB.trans (hb1.mono hB.size)
  simp only [World.size_alloc] at hw1
  go_wp2
  have hq9 := BxC.set4 (hx1) x y Ag gs.length cg Ao os.length co
  obtain ⟨q0, q1, q2, q3⟩ := hq9
  refine bodyPost_ret (v := .tuple #[.agg #[.int .i64 x, .int .i64 y, .slice Ag gs.length cg, .slice Ao os.length co], .bool t]) (by simp [results, Try.results13, go_sem, q0, q1, q2, q3]) rfl ?_
  exact RetC.of hQ.out ht.out rfl (by rw [set4_size]; exact ((hw1.set4 (.inl (by omega)) _ _ _ _ _ _ _ _).lo_ (by omega))) (below_set4 hB1 (Nat.le_refl _) _ _ _ _ _ _ _ _)
set_option maxRecDepth 100000 in
set_option maxHeartbeats 1600000 in
theorem gdKind_2 (a : Int) (w : World) : Calls Try.prog 23 #[.int .i64 2, .int .i64 a] w (RetCr w (gadF lessG 8 a)) := by
  have hB : Below w.heap.size w (w.alloc (.cells #[.int .i64 0, .int .i64 0, .slice none 0 0, .slice none 0 0] 27)) := (Below.refl _ _).alloc (Nat.le_refl _) _
  have hx0 : BxC (w.alloc (.cells #[.int .i64 0, .int .i64 0, .slice none 0 0, .slice none 0 0] 27)) w.heap.size 0 0 none 0 0 none 0 0 := BxC.new w _
  cases h0 : inB 1 8 a with
  | false =>
    have HR : Hid (gadF lessG 8 a = none) := Lib.hid (by simp [gadF, h0])
    have H0 := Lib.hid h0; clear h0
    go_enter Try.func23, Try.ntmps23
    go_wp2_with fail
    refine (gdWidth_any a _).mono ?_
    rintro e w1 ⟨rfl, rfl⟩
    rw [H0.out]
    go_wp2
    have hq9 := BxC.set4 (hx0) 0 0 none 0 0 none 0 0
    obtain ⟨q0, q1, q2, q3⟩ := hq9
    refine bodyPost_ret (v := .tuple #[.agg #[.int .i64 0, .int .i64 0, .slice none 0 0, .slice none 0 0], .bool false]) (by simp [results, Try.results23, go_sem, q0, q1, q2, q3]) rfl ?_
    exact RetCr.none_ hB HR.out rfl
  | true =>
    have hab := inB_iff.1 h0
    obtain ⟨n, rfl⟩ : ∃ n : Nat, a = n := ⟨a.toNat, by omega⟩
    have h1 : 1 ≤ n := by omega
    have h8 : n ≤ 8 := by omega
    have HR : Hid (gadF lessG 8 (n : Int) = some ⟨(n : Int), (n : Int), (lessG n).g, (lessG n).o⟩) := Lib.hid (by simp [gadF, h0])
    have H0 := Lib.hid h0; clear h0 hab
    have H6 : Hid (inB 0 6 2 = true) := Lib.hid (by decide)
    go_enter Try.func23, Try.ntmps23
    go_wp2_with fail
    refine (gdWidth_any n _).mono ?_
    rintro e w1 ⟨rfl, rfl⟩
    rw [H0.out]
    go_wp2_with fail
    refine (l1In_any 2 0 6 _ rfl _).mono ?_
    rintro e w1 ⟨rfl, rfl⟩
    rw [H6.out]
    go_wp2_with fail
    refine (gdMake_2 n _ h1 h8).mono ?_
    rintro e w2 ⟨Ag, cg, Ao, co, rfl, hw2, hb2⟩
    have hx2 := hx0.below hb2
    have f2 : Fz w2 w.heap.size := (Fz.new w _ _).below hb2 (by simp)
    have g0 := f2 0; have g1 := f2 1; have g2 := f2 2; have g3 := f2 3
    have hy2 := hx2; obtain ⟨l0, l1, l2, l3⟩ := hy2
    have hB2 := hB.trans (hb2.mono hB.size)
    simp only [World.size_alloc] at hw2
    go_wp2
    have hq9 := BxC.set4 (hx2) (n:Int) (n : Int) Ag (lessG n).g.length cg Ao (lessG n).o.length co
    obtain ⟨q0, q1, q2, q3⟩ := hq9
    refine bodyPost_ret (v := .tuple #[.agg #[.int .i64 (n:Int), .int .i64 (n : Int), .slice Ag (lessG n).g.length cg, .slice Ao (lessG n).o.length co], .bool true]) (by simp [results, Try.results23, go_sem, q0, q1, q2, q3]) rfl ?_
    exact RetCr.some_ (below_set4 hB2 (Nat.le_refl _) _ _ _ _ _ _ _ _) HR.out rfl rfl rfl (by rw [set4_size]; exact ((hw2.set4 (.inl (by omega)) _ _ _ _ _ _ _ _).lo_ (by omega)))
set_option maxRecDepth 100000 in
set_option maxHeartbeats 1600000 in
theorem gdKind_3 (a : Int) (w : World) : Calls Try.prog 23 #[.int .i64 3, .int .i64 a] w (RetC w (gadF equalG 8 a)) := by
  have hB : Below w.heap.size w (w.alloc (.cells #[.int .i64 0, .int .i64 0, .slice none 0 0, .slice none 0 0] 27)) := (Below.refl _ _).alloc (Nat.le_refl _) _
  have hx0 : BxC (w.alloc (.cells #[.int .i64 0, .int .i64 0, .slice none 0 0, .slice none 0 0] 27)) w.heap.size 0 0 none 0 0 none 0 0 := BxC.new w _
  cases h0 : inB 1 8 a with
  | false =>
    have HR : Hid (gadF equalG 8 a = none) := Lib.hid (by simp [gadF, h0])
    have H0 := Lib.hid h0; clear h0
    go_enter Try.func23, Try.ntmps23
    go_wp2_with fail
    refine (gdWidth_any a _).mono ?_
    rintro e w1 ⟨rfl, rfl⟩
    rw [H0.out]
    go_wp2
    have hq9 := BxC.set4 (hx0) 0 0 none 0 0 none 0 0
    obtain ⟨q0, q1, q2, q3⟩ := hq9
    refine bodyPost_ret (v := .tuple #[.agg #[.int .i64 0, .int .i64 0, .slice none 0 0, .slice none 0 0], .bool false]) (by simp [results, Try.results23, go_sem, q0, q1, q2, q3]) rfl ?_
    exact RetC.none_ hB HR.out rfl
  | true =>
    have hab := inB_iff.1 h0
    obtain ⟨n, rfl⟩ : ∃ n : Nat, a = n := ⟨a.toNat, by omega⟩
    have h1 : 1 ≤ n := by omega
    have h8 : n ≤ 8 := by omega
    have HR : Hid (gadF equalG 8 (n : Int) = some ⟨(n : Int), (n : Int), (equalG n).g, (equalG n).o⟩) := Lib.hid (by simp [gadF, h0])
    have H0 := Lib.hid h0; clear h0 hab
    have H6 : Hid (inB 0 6 3 = true) := Lib.hid (by decide)
    go_enter Try.func23, Try.ntmps23
    go_wp2_with fail
    refine (gdWidth_any n _).mono ?_
    rintro e w1 ⟨rfl, rfl⟩
    rw [H0.out]
    go_wp2_with fail
    refine (l1In_any 3 0 6 _ rfl _).mono ?_
    rintro e w1 ⟨rfl, rfl⟩
    rw [H6.out]
    go_wp2_with fail
    refine (gdMake_3 n _ h1 h8).mono ?_
    rintro e w2 ⟨Ag, cg, Ao, co, rfl, hw2, hb2⟩
    have hx2 := hx0.below hb2
    have f2 : Fz w2 w.heap.size := (Fz.new w _ _).below hb2 (by simp)
    have g0 := f2 0; have g1 := f2 1; have g2 := f2 2; have g3 := f2 3
    have hy2 := hx2; obtain ⟨l0, l1, l2, l3⟩ := hy2
    have hB2 := hB.trans (hb2.mono hB.size)
    simp only [World.size_alloc] at hw2
    go_wp2
    have hq9 := BxC.set4 (hx2) (n:Int) (n : Int) Ag (equalG n).g.length cg Ao (equalG n).o.length co
    obtain ⟨q0, q1, q2, q3⟩ := hq9
    refine bodyPost_ret (v := .tuple #[.agg #[.int .i64 (n:Int), .int .i64 (n : Int), .slice Ag (equalG n).g.length cg, .slice Ao (equalG n).o.length co], .bool true]) (by simp [results, Try.results23, go_sem, q0, q1, q2, q3]) rfl ?_
    exact RetC.some_ (below_set4 hB2 (Nat.le_refl _) _ _ _ _ _ _ _ _) HR.out rfl rfl rfl (by rw [set4_size]; exact ((hw2.set4 (.inl (by omega)) _ _ _ _ _ _ _ _).lo_ (by omega)))
set_option maxRecDepth 100000 in
set_option maxHeartbeats 1600000 in
theorem gdKind_4 (a : Int) (w : World) : Calls Try.prog 23 #[.int .i64 4, .int .i64 a] w (RetC w (chooseF a)) := by
  have hB : Below w.heap.size w (w.alloc (.cells #[.int .i64 0, .int .i64 0, .slice none 0 0, .slice none 0 0] 27)) := (Below.refl _ _).alloc (Nat.le_refl _) _
  have hx0 : BxC (w.alloc (.cells #[.int .i64 0, .int .i64 0, .slice none 0 0, .slice none 0 0] 27)) w.heap.size 0 0 none 0 0 none 0 0 := BxC.new w _
  cases h0 : inB 1 8 a with
  | false =>
    have HR : Hid (chooseF a = none) := Lib.hid (by simp [chooseF, h0])
    have H0 := Lib.hid h0; clear h0
    go_enter Try.func23, Try.ntmps23
    go_wp2_with fail
    refine (gdWidth_any a _).mono ?_
    rintro e w1 ⟨rfl, rfl⟩
    rw [H0.out]
    go_wp2
    have hq9 := BxC.set4 (hx0) 0 0 none 0 0 none 0 0
    obtain ⟨q0, q1, q2, q3⟩ := hq9
    refine bodyPost_ret (v := .tuple #[.agg #[.int .i64 0, .int .i64 0, .slice none 0 0, .slice none 0 0], .bool false]) (by simp [results, Try.results23, go_sem, q0, q1, q2, q3]) rfl ?_
    exact RetC.none_ hB HR.out rfl
  | true =>
    have hab := inB_iff.1 h0
    obtain ⟨n, rfl⟩ : ∃ n : Nat, a = n := ⟨a.toNat, by omega⟩
    have h1 : 1 ≤ n := by omega
    have h8 : n ≤ 8 := by omega
    have HR : Hid (chooseF (n : Int) = some ⟨(2 * (n : Int)), 1, (chooseG n).g, (chooseG n).o⟩) := Lib.hid (by simp [chooseF, h0])
    have H0 := Lib.hid h0; clear h0 hab
    have H6 : Hid (inB 0 6 4 = true) := Lib.hid (by decide)
    go_enter Try.func23, Try.ntmps23
    go_wp2_with fail
    refine (gdWidth_any n _).mono ?_
    rintro e w1 ⟨rfl, rfl⟩
    rw [H0.out]
    go_wp2_with fail
    refine (l1In_any 4 0 6 _ rfl _).mono ?_
    rintro e w1 ⟨rfl, rfl⟩
    rw [H6.out]
    go_wp2_with fail
    refine (gdMake_4 n _ h1 h8).mono ?_
    rintro e w2 ⟨Ag, cg, Ao, co, rfl, hw2, hb2⟩
    have hx2 := hx0.below hb2
    have f2 : Fz w2 w.heap.size := (Fz.new w _ _).below hb2 (by simp)
    have g0 := f2 0; have g1 := f2 1; have g2 := f2 2; have g3 := f2 3
    have hy2 := hx2; obtain ⟨l0, l1, l2, l3⟩ := hy2
    have hB2 := hB.trans (hb2.mono hB.size)
    simp only [World.size_alloc] at hw2
    go_wp2
    have hq9 := BxC.set4 (hx2) (2*(n:Int)) 1 Ag (chooseG n).g.length cg Ao (chooseG n).o.length co
    obtain ⟨q0, q1, q2, q3⟩ := hq9
    refine bodyPost_ret (v := .tuple #[.agg #[.int .i64 (2*(n:Int)), .int .i64 1, .slice Ag (chooseG n).g.length cg, .slice Ao (chooseG n).o.length co], .bool true]) (by simp [results, Try.results23, go_sem, q0, q1, q2, q3]) rfl ?_
    exact RetC.some_ (below_set4 hB2 (Nat.le_refl _) _ _ _ _ _ _ _ _) HR.out rfl rfl rfl (by rw [set4_size]; exact ((hw2.set4 (.inl (by omega)) _ _ _ _ _ _ _ _).lo_ (by omega)))
set_option maxRecDepth 100000 in
set_option maxHeartbeats 1600000 in
theorem gdKind_5 (a : Int) (w : World) : Calls Try.prog 23 #[.int .i64 5, .int .i64 a] w (RetC w (gadF greatestG 8 a)) := by
  have hB : Below w.heap.size w (w.alloc (.cells #[.int .i64 0, .int .i64 0, .slice none 0 0, .slice none 0 0] 27)) := (Below.refl _ _).alloc (Nat.le_refl _) _
  have hx0 : BxC (w.alloc (.cells #[.int .i64 0, .int .i64 0, .slice none 0 0, .slice none 0 0] 27)) w.heap.size 0 0 none 0 0 none 0 0 := BxC.new w _
  cases h0 : inB 1 8 a with
  | false =>
    have HR : Hid (gadF greatestG 8 a = none) := Lib.hid (by simp [gadF, h0])
    have H0 := Lib.hid h0; clear h0
    go_enter Try.func23, Try.ntmps23
    go_wp2_with fail
    refine (gdWidth_any a _).mono ?_
    rintro e w1 ⟨rfl, rfl⟩
    rw [H0.out]
    go_wp2
    have hq9 := BxC.set4 (hx0) 0 0 none 0 0 none 0 0
    obtain ⟨q0, q1, q2, q3⟩ := hq9
    refine bodyPost_ret (v := .tuple #[.agg #[.int .i64 0, .int .i64 0, .slice none 0 0, .slice none 0 0], .bool false]) (by simp [results, Try.results23, go_sem, q0, q1, q2, q3]) rfl ?_
    exact RetC.none_ hB HR.out rfl
  | true =>
    have hab := inB_iff.1 h0
    obtain ⟨n, rfl⟩ : ∃ n : Nat, a = n := ⟨a.toNat, by omega⟩
    have h1 : 1 ≤ n := by omega
    have h8 : n ≤ 8 := by omega
    have HR : Hid (gadF greatestG 8 (n : Int) = some ⟨(n : Int), (n : Int), (greatestG n).g, (greatestG n).o⟩) := Lib.hid (by simp [gadF, h0])
    have H0 := Lib.hid h0; clear h0 hab
    have H6 : Hid (inB 0 6 5 = true) := Lib.hid (by decide)
    go_enter Try.func23, Try.ntmps23
    go_wp2_with fail
    refine (gdWidth_any n _).mono ?_
    rintro e w1 ⟨rfl, rfl⟩
    rw [H0.out]
    go_wp2_with fail
    refine (l1In_any 5 0 6 _ rfl _).mono ?_
    rintro e w1 ⟨rfl, rfl⟩
    rw [H6.out]
    go_wp2_with fail
    refine (gdMake_5 n _ h1 h8).mono ?_
    rintro e w2 ⟨Ag, cg, Ao, co, rfl, hw2, hb2⟩
    have hx2 := hx0.below hb2
    have f2 : Fz w2 w.heap.size := (Fz.new w _ _).below hb2 (by simp)
    have g0 := f2 0; have g1 := f2 1; have g2 := f2 2; have g3 := f2 3
    have hy2 := hx2; obtain ⟨l0, l1, l2, l3⟩ := hy2
    have hB2 := hB.trans (hb2.mono hB.size)
    simp only [World.size_alloc] at hw2
    go_wp2
    have hq9 := BxC.set4 (hx2) (n:Int) (n : Int) Ag (greatestG n).g.length cg Ao (greatestG n).o.length co
    obtain ⟨q0, q1, q2, q3⟩ := hq9
    refine bodyPost_ret (v := .tuple #[.agg #[.int .i64 (n:Int), .int .i64 (n : Int), .slice Ag (greatestG n).g.length cg, .slice Ao (greatestG n).o.length co], .bool true]) (by simp [results, Try.results23, go_sem, q0, q1, q2, q3]) rfl ?_
    exact RetC.some_ (below_set4 hB2 (Nat.le_refl _) _ _ _ _ _ _ _ _) HR.out rfl rfl rfl (by rw [set4_size]; exact ((hw2.set4 (.inl (by omega)) _ _ _ _ _ _ _ _).lo_ (by omega)))
theorem ofInt_i64 {a : Nat} (ha : a < 9223372036854775808) : (BitVec.ofInt 64 (a : Int)).toNat = a := by
  rw [BitVec.ofInt_natCast, BitVec.toNat_ofNat]; exact Nat.mod_eq_of_lt (by omega)
theorem bor_nat {a b : Nat} (ha : a < 4611686018427387904) (hb : b < 4611686018427387904) : bits .or .i64 (a : Int) (b : Int) = ((a ||| b : Nat) : Int) := by
  have hx : a ||| b < 2 ^ 62 := Nat.or_lt_two_pow (by omega) (by omega)
  show IntKind.i64.wrap ((BitVec.ofInt 64 (a : Int) ||| BitVec.ofInt 64 (b : Int)).toNat : Int) = _
  rw [BitVec.toNat_or, ofInt_i64 (by omega), ofInt_i64 (by omega)]
  exact IntWalk.i64_in _ (by omega)
theorem band_nat {a b : Nat} (ha : a < 4611686018427387904) (hb : b < 4611686018427387904) : bits .and .i64 (a : Int) (b : Int) = ((a &&& b : Nat) : Int) := by
  have hx : a &&& b < 2 ^ 62 := Nat.and_lt_two_pow _ (by omega)
  show IntKind.i64.wrap ((BitVec.ofInt 64 (a : Int) &&& BitVec.ofInt 64 (b : Int)).toNat : Int) = _
  rw [BitVec.toNat_and, ofInt_i64 (by omega), ofInt_i64 (by omega)]
  exact IntWalk.i64_in _ (by omega)
theorem and_one (n : Nat) : n &&& 1 = n % 2 := Nat.and_one_is_mod n
theorem or_place {a b i : Nat} (h : a < 2 ^ i) : a ||| (b * 2 ^ i) = a + b * 2 ^ i := by
  rw [Nat.or_comm, ← Nat.shiftLeft_eq, ← Nat.shiftLeft_add_eq_or_of_lt h, Nat.add_comm]
def bitsN (n k : Nat) : List Int := tab k fun i => ((n / 2 ^ i % 2 : Nat) : Int)
theorem bitsN_len (n k : Nat) : (bitsN n k).length = k := tab_len _ _
theorem bitsN_snoc (n k : Nat) : bitsN n (k + 1) = bitsN n k ++ [((n / 2 ^ k % 2 : Nat) : Int)] := tab_snoc _ _
theorem bitsN_bd (n k : Nat) : allB 0 1 (bitsN n k) = true := allB_iff.2 fun x hx => by
  obtain ⟨j, _, rfl⟩ := mem_tab hx; omega
def numN : List Int → Int
  | [] => 0
  | b :: l => b + 2 * numN l
theorem numN_snoc (l : List Int) (b : Int) : numN (l ++ [b]) = numN l + b * 2 ^ l.length := by
  induction l with
  | nil => simp [numN]
  | cons c l ih =>
    simp only [List.cons_append, numN, ih, List.length_cons, Int.pow_succ]
    have : 2 * (b * 2 ^ l.length) = b * (2 ^ l.length * 2) := by rw [Int.mul_comm 2, Int.mul_assoc]
    omega
theorem numN_bd {l : List Int} (h : allB 0 1 l = true) : 0 ≤ numN l ∧ numN l < 2 ^ l.length := by
  induction l with
  | nil => simp [numN]
  | cons c l ih =>
    simp only [allB, List.all_cons, Bool.and_eq_true] at h
    have h1 := inB_iff.1 h.1
    obtain ⟨h2, h3⟩ := ih h.2
    simp only [numN, List.length_cons, Int.pow_succ]
    omega
theorem two_pow_le {k m : Nat} (h : k ≤ m) : (2 : Int) ^ k ≤ 2 ^ m := by
  have := Nat.pow_le_pow_right (n := 2) (by omega) h
  exact_mod_cast this
theorem numN_le {l : List Int} (h : allB 0 1 l = true) (hl : l.length ≤ 40) : 0 ≤ numN l ∧ numN l < 1099511627776 := by
  have h1 := numN_bd h
  have h2 := two_pow_le hl
  have h3 : (2 : Int) ^ 40 = 1099511627776 := by decide
  omega
theorem numN_drop {l : List Int} {k : Nat} (h : k < l.length) : numN (l.drop k) = gi l k + 2 * numN (l.drop (k + 1)) := by
  rw [List.drop_eq_getElem_cons h, numN, gi_lt h]
theorem allB_take_ {lo hi : Int} {l : List Int} (h : allB lo hi l = true) (k : Nat) : allB lo hi (l.take k) = true := allB_iff.2 fun x hx => allB_iff.1 h x (List.mem_of_mem_take hx)
theorem allB_drop_ {lo hi : Int} {l : List Int} (h : allB lo hi l = true) (k : Nat) : allB lo hi (l.drop k) = true := allB_iff.2 fun x hx => allB_iff.1 h x (List.mem_of_mem_drop hx)
theorem pick_bd {lo hi : Int} {l os : List Int} (h : allB lo hi l = true) (ho : allB 0 (l.length - 1) os = true) : allB lo hi (pick l os) = true := allB_iff.2 fun x hx => by
  simp only [pick, List.mem_map] at hx
  obtain ⟨o, hm, rfl⟩ := hx
  have := allB_iff.1 ho o hm
  exact allB_gi h (by omega)
end Go.Proofs.Ytimmjppkaadggaa
