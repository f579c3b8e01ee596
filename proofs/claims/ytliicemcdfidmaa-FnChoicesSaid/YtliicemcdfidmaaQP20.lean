/- Contracts of AndsOf. Slices of slices of ints: read, owned, appended to, marked. Lengths up to 2^20. Appending a list to a slice of lists of the call's own; calls that return a slice of lists. Lengths up to 2^22. Contracts of equality of lists, of small circuits, of the tables of a circuit's outs. -/
import Derived.Test.YtliicemcdfidmaaQP19
import Derived.Test.YtliicemcdfidmaaQP04
import Derived.Test.YtliicemcdfidmaaQP02
import Derived.Test.YtliicemcdfidmaaQP01
import Derived.Test.YtliicemcdfidmaaQP03
import Derived.Test.YtliicemcdfidmaaQP11
namespace Go.Proofs.Ytliicemcdfidmaa
open Go.RowKit
set_option linter.unusedVariables false
set_option linter.unusedSimpArgs false
def circK (kd a : Int) : Option Ci := if kd = 0 then gadF adderG 8 a else if kd = 1 then gadF subG 8 a else if kd = 2 then gadF lessG 8 a else if kd = 3 then gadF equalG 8 a else if kd = 4 then chooseF a else if kd = 5 then gadF greatestG 8 a else if kd = 6 then gadF prodG 5 a else none
def andsK (kd a : Int) : Int := ((circK kd a).map fun c => gi (cntK c.gs c.gs.length) 1).getD 0
theorem gadF_ok {F : Nat → Go2} {hi a : Int} {c : Ci} (h : ∀ w : Nat, 1 ≤ w → (w : Int) ≤ hi → circB (w : Nat) (w : Nat) (F w).g (F w).o = true) (hc : gadF F hi a = some c) : circB c.i0 c.i1 c.gs c.os = true := by
  unfold gadF at hc
  split at hc
  · rename_i hb
    rw [inB_iff] at hb
    have h1 := h a.toNat (by omega) (by omega)
    injection hc with hc; subst hc
    rwa [Int.toNat_of_nonneg (by omega)] at h1
  · cases hc
theorem chooseF_ok {a : Int} {c : Ci} (hc : chooseF a = some c) : circB c.i0 c.i1 c.gs c.os = true := by
  unfold chooseF at hc
  split at hc
  · rename_i hb
    rw [inB_iff] at hb
    have h1 := chooseG_ok a.toNat (by omega) (by omega)
    injection hc with hc; subst hc
    have he : ((2 * a.toNat : Nat) : Int) = 2 * a := by omega
    rwa [he] at h1
  · cases hc
theorem circK_ok {kd a : Int} {c : Ci} (hc : circK kd a = some c) : circB c.i0 c.i1 c.gs c.os = true := by
  unfold circK at hc
  split at hc
  · exact gadF_ok (fun w h1 h8 => adderG_ok w h1 (by omega)) hc
  split at hc
  · exact gadF_ok (fun w h1 h8 => subG_ok w h1 (by omega)) hc
  split at hc
  · exact gadF_ok (fun w h1 h8 => lessG_ok w h1 (by omega)) hc
  split at hc
  · exact gadF_ok (fun w h1 h8 => equalG_ok w h1 (by omega)) hc
  split at hc
  · exact chooseF_ok hc
  split at hc
  · exact gadF_ok (fun w h1 h8 => greatestG_ok w h1 (by omega)) hc
  split at hc
  · exact gadF_ok (fun w h1 h8 => prodG_ok w h1 (by omega)) hc
  · cases hc
theorem circK_data (kd a : Int) : (∀ k, k < ((circK kd a).getD ⟨0, 0, [], []⟩).gs.length → 0 ≤ (gg ((circK kd a).getD ⟨0, 0, [], []⟩).gs k).k ∧ (gg ((circK kd a).getD ⟨0, 0, [], []⟩).gs k).k ≤ 3) ∧ ((circK kd a).getD ⟨0, 0, [], []⟩).gs.length ≤ 300 ∧
    andsK kd a = if (circK kd a).isSome = true then gi (cntK ((circK kd a).getD ⟨0, 0, [], []⟩).gs ((circK kd a).getD ⟨0, 0, [], []⟩).gs.length) 1 else 0 := by
  cases h : circK kd a with
  | none => exact ⟨fun k hk => by simp at hk, by simp, by simp [andsK, h]⟩
  | some c =>
    obtain ⟨_, _, h3, _, h5, _⟩ := circB_bd (circK_ok h)
    refine ⟨fun k hk => ?_, h3, by simp [andsK, h]⟩
    have hg := gatesB_at h5 hk
    simp only [Option.getD_some]
    cases hg with
    | xor_ q _ _ _ _ => omega
    | and_ q _ _ _ _ => omega
    | not_ q _ _ _ => omega
    | one_ q _ _ => omega
theorem RetC.toCr {w : World} {o : Option Ci} {e : Ending} {w' : World} (h : RetC w o e w') : RetCr w o e w' := by
  obtain ⟨Ag, cg, Ao, co, h1, h2, h3⟩ := h
  exact ⟨Ag, cg, Ao, co, h1, h2.toR, h3⟩
set_option maxHeartbeats 1600000 in
theorem gdKind_all (kd a : Int) (w : World) : Calls Try.prog 27 #[.int .i64 kd, .int .i64 a] w (RetCr w (circK kd a)) := by
  by_cases h0 : kd = 0
  · have he : circK kd a = gadF adderG 8 a := by subst h0; simp [circK]
    rw [he]; subst h0
    exact (gdKind_0 a w).mono fun _ _ h => h.toCr
  by_cases h1 : kd = 1
  · have he : circK kd a = gadF subG 8 a := by subst h1; simp [circK]
    rw [he]; subst h1
    exact (gdKind_1 a w).mono fun _ _ h => h.toCr
  by_cases h2 : kd = 2
  · have he : circK kd a = gadF lessG 8 a := by subst h2; simp [circK]
    rw [he]; subst h2
    exact gdKind_2 a w
  by_cases h3 : kd = 3
  · have he : circK kd a = gadF equalG 8 a := by subst h3; simp [circK]
    rw [he]; subst h3
    exact (gdKind_3 a w).mono fun _ _ h => h.toCr
  by_cases h4 : kd = 4
  · have he : circK kd a = chooseF a := by subst h4; simp [circK]
    rw [he]; subst h4
    exact (gdKind_4 a w).mono fun _ _ h => h.toCr
  by_cases h5 : kd = 5
  · have he : circK kd a = gadF greatestG 8 a := by subst h5; simp [circK]
    rw [he]; subst h5
    exact (gdKind_5 a w).mono fun _ _ h => h.toCr
  by_cases h6 : kd = 6
  · have he : circK kd a = gadF prodG 5 a := by subst h6; simp [circK]
    rw [he]; subst h6
    exact (gdKind_6 a w).mono fun _ _ h => h.toCr
  have HR : Hid (circK kd a = none) := Lib.hid (by simp [circK, h0, h1, h2, h3, h4, h5, h6])
  have HI : Hid (inB 0 6 kd = false) := Lib.hid (by rw [Bool.eq_false_iff]; intro hc; have := inB_iff.1 hc; omega)
  have hB : Below w.heap.size w (w.alloc (.cells #[.int .i64 0, .int .i64 0, .slice none 0 0, .slice none 0 0] 28)) := (Below.refl _ _).alloc (Nat.le_refl _) _
  have hx0 : BxC (w.alloc (.cells #[.int .i64 0, .int .i64 0, .slice none 0 0, .slice none 0 0] 28)) w.heap.size 0 0 none 0 0 none 0 0 := BxC.new w _
  clear h0 h1 h2 h3 h4 h5 h6
  cases hi : inB 1 8 a with
  | false =>
    have H0 := Lib.hid hi; clear hi
    go_enter Try.func27, Try.ntmps27
    go_wp2_with fail
    refine (gdWidth_any a _).mono ?_
    rintro e w1 ⟨rfl, rfl⟩
    rw [H0.out]
    go_wp2
    have hq9 := BxC.set4 (hx0) 0 0 none 0 0 none 0 0
    obtain ⟨q0, q1, q2, q3⟩ := hq9
    refine bodyPost_ret (v := .tuple #[.agg #[.int .i64 0, .int .i64 0, .slice none 0 0, .slice none 0 0], .bool false]) (by simp [results, Try.results27, go_sem, q0, q1, q2, q3]) rfl ?_
    exact RetCr.none_ hB HR.out rfl
  | true =>
    have H0 := Lib.hid hi; clear hi
    go_enter Try.func27, Try.ntmps27
    go_wp2_with fail
    refine (gdWidth_any a _).mono ?_
    rintro e w1 ⟨rfl, rfl⟩
    rw [H0.out]
    go_wp2_with fail
    refine (l1In_any kd 0 6 _ rfl _).mono ?_
    rintro e w1 ⟨rfl, rfl⟩
    rw [HI.out]
    go_wp2
    have hq9 := BxC.set4 (hx0) 0 0 none 0 0 none 0 0
    obtain ⟨q0, q1, q2, q3⟩ := hq9
    refine bodyPost_ret (v := .tuple #[.agg #[.int .i64 0, .int .i64 0, .slice none 0 0, .slice none 0 0], .bool false]) (by simp [results, Try.results27, go_sem, q0, q1, q2, q3]) rfl ?_
    exact RetCr.none_ hB HR.out rfl
set_option maxRecDepth 100000 in
set_option maxHeartbeats 1600000 in
theorem spec_AndsOf_any (kd a : Int) (w : World) : Calls Try.prog 21 #[.int .i64 kd, .int .i64 a] w fun e w' => e = .returned (.tuple #[.int .i64 (andsK kd a), .bool (circK kd a).isSome]) ∧ Below w.heap.size w w' := by
  have hD := circK_data kd a
  obtain ⟨R, hR⟩ : ∃ R, Hid (circK kd a = R) := ⟨_, Lib.hid rfl⟩
  rw [hR.out] at hD ⊢
  obtain ⟨x, y, gs, os, hQ⟩ : ∃ x y gs os, Hid (R.getD ⟨0, 0, [], []⟩ = ⟨x, y, gs, os⟩) := ⟨_, _, _, _, Lib.hid rfl⟩
  obtain ⟨t, ht⟩ : ∃ t, Hid (R.isSome = t) := ⟨_, Lib.hid rfl⟩
  rw [hQ.out, ht.out] at hD
  rw [ht.out]
  obtain ⟨hkd, hgl, hV⟩ := hD
  dsimp only at hkd hgl hV
  have HV := Lib.hid hV; clear hV
  have HL := cntK_len gs gs.length
  go_enter Try.func21, Try.ntmps21
  go_wp2_with fail
  refine (gdKind_all kd a _).mono ?_
  rintro e w1 hT
  rw [hR.out] at hT
  obtain ⟨Ag, cg, Ao, co, rfl, hw1, hb1⟩ := hT.to hQ.out ht.out
  have hz1 := hb1.size
  have hbx := BxC.new (x := x) (y := y) (Ag := Ag) (ng := gs.length) (cg := cg) (Ao := Ao) (no := os.length) (co := co) w1 28
  have hB2 := hb1.alloc hz1 (.cells #[.int .i64 x, .int .i64 y, .slice Ag gs.length cg, .slice Ao os.length co] 28)
  have hrd := hw1.reads.1.alloc (.cells #[.int .i64 x, .int .i64 y, .slice Ag gs.length cg, .slice Ao os.length co] 28)
  cases t with
  | false =>
    have HV' : Hid (andsK kd a = 0) := Lib.hid HV.out
    go_wp2
    go_ret2
    exact ⟨by rw [HV'.out]; rfl, hB2⟩
  | true =>
    have HV' : Hid (andsK kd a = gi (cntK gs gs.length) 1) := Lib.hid HV.out
    obtain ⟨k0, k1, k2, k3⟩ := hbx
    go_wp2_with fail
    refine (ciCounts_any x y Ag gs.length cg Ao os.length co gs _ hrd (by omega) hkd).mono ?_
    rintro e w3 hT3
    obtain ⟨A3, c3, rfl, ho3, hb3⟩ := hT3.open_ HL
    obtain ⟨g, rfl, _, _, _⟩ := ho3.some_ (by omega)
    obtain ⟨hc, _⟩ := ho3.cellAt (k := 1) (by omega)
    go_wp2
    go_ret2
    exact ⟨by rw [HV'.out]; rfl, hB2.trans (hb3.mono hB2.size)⟩
set_option maxRecDepth 100000 in
set_option maxHeartbeats 4000000 in
theorem AndsOf_any (kd a : Int) (w : World) : Calls Try.prog 20 #[.int .i64 kd, .int .i64 a] w fun e w' => e = .returned (.tuple #[.int .i64 (andsK kd a), .bool (circK kd a).isSome]) ∧ Below w.heap.size w w' := by
  have hB : Below w.heap.size w (w.alloc (.cells #[.int .i64 0, .int .i64 0, .slice none 0 0, .slice none 0 0] 28)) := (Below.refl _ _).alloc (Nat.le_refl _) _
  have hx0 : BxC (w.alloc (.cells #[.int .i64 0, .int .i64 0, .slice none 0 0, .slice none 0 0] 28)) w.heap.size 0 0 none 0 0 none 0 0 := BxC.new w _
  by_cases h0 : kd = 0
  · subst h0
    have he : circK 0 a = gadF adderG 8 a := by simp [circK]
    have hD := circK_data 0 a
    obtain ⟨R, hR⟩ : ∃ R, Hid (circK 0 a = R) := ⟨_, Lib.hid rfl⟩
    rw [hR.out] at hD ⊢
    obtain ⟨x, y, gs, os, hQ⟩ : ∃ x y gs os, Hid (R.getD ⟨0, 0, [], []⟩ = ⟨x, y, gs, os⟩) := ⟨_, _, _, _, Lib.hid rfl⟩
    obtain ⟨t, ht⟩ : ∃ t, Hid (R.isSome = t) := ⟨_, Lib.hid rfl⟩
    rw [hQ.out, ht.out] at hD
    rw [ht.out]
    obtain ⟨hkd, hgl, hV⟩ := hD
    dsimp only at hkd hgl hV
    have HV := Lib.hid hV; clear hV
    have HL := cntK_len gs gs.length
    go_enter Try.func20, Try.ntmps20
    go_wp2_with fail
    refine (AdderCircuit_any a _).mono ?_
    rintro e w1 hT
    rw [← he, hR.out] at hT
    obtain ⟨Ag, cg, Ao, co, rfl, hw1, hb1⟩ := hT.to hQ.out ht.out
    have hx1 := hx0.below hb1
    have f1 : Fz w1 w.heap.size := (Fz.new w _ _).below hb1 (by simp)
    have g0 := f1 0; have g1 := f1 1; have g2 := f1 2; have g3 := f1 3
    have hy1 := hx1; obtain ⟨l0, l1, l2, l3⟩ := hy1
    have hB1 := hB.trans (hb1.mono hB.size)
    simp only [World.size_alloc] at hw1
    have hB4 := below_set4 hB1 (Nat.le_refl _) x y Ag gs.length cg Ao os.length co
    have hx4 := BxC.set4 hx1 x y Ag gs.length cg Ao os.length co
    have hrd := (hw1.set4 (b := w.heap.size) (.inl (by omega)) x y Ag gs.length cg Ao os.length co).reads.1
    obtain ⟨m0, m1, m2, m3⟩ := hx4
    clear he
    cases t with
    | false =>
      have HV' : Hid (andsK 0 a = 0) := Lib.hid HV.out
      go_wp2
      go_ret2
      exact ⟨by rw [HV'.out]; rfl, hB4⟩
    | true =>
      have HV' : Hid (andsK 0 a = gi (cntK gs gs.length) 1) := Lib.hid HV.out
      go_wp2_with fail
      refine (countKinds_any Ag gs.length cg gs _ hrd (by omega) hkd).mono ?_
      rintro e w3 hT3
      obtain ⟨A3, c3, rfl, ho3, hb3⟩ := hT3.open_ HL
      obtain ⟨g, rfl, _, _, _⟩ := ho3.some_ (by omega)
      obtain ⟨hc, _⟩ := ho3.cellAt (k := 1) (by omega)
      go_wp2
      go_ret2
      exact ⟨by rw [HV'.out]; rfl, hB4.trans (hb3.mono hB4.size)⟩
  by_cases h1 : kd = 1
  · subst h1
    have he : circK 1 a = gadF subG 8 a := by simp [circK]
    have hD := circK_data 1 a
    obtain ⟨R, hR⟩ : ∃ R, Hid (circK 1 a = R) := ⟨_, Lib.hid rfl⟩
    rw [hR.out] at hD ⊢
    obtain ⟨x, y, gs, os, hQ⟩ : ∃ x y gs os, Hid (R.getD ⟨0, 0, [], []⟩ = ⟨x, y, gs, os⟩) := ⟨_, _, _, _, Lib.hid rfl⟩
    obtain ⟨t, ht⟩ : ∃ t, Hid (R.isSome = t) := ⟨_, Lib.hid rfl⟩
    rw [hQ.out, ht.out] at hD
    rw [ht.out]
    obtain ⟨hkd, hgl, hV⟩ := hD
    dsimp only at hkd hgl hV
    have HV := Lib.hid hV; clear hV
    have HL := cntK_len gs gs.length
    go_enter Try.func20, Try.ntmps20
    go_wp2_with fail
    refine (SubtractCircuit_any a _).mono ?_
    rintro e w1 hT
    rw [← he, hR.out] at hT
    obtain ⟨Ag, cg, Ao, co, rfl, hw1, hb1⟩ := hT.to hQ.out ht.out
    have hx1 := hx0.below hb1
    have f1 : Fz w1 w.heap.size := (Fz.new w _ _).below hb1 (by simp)
    have g0 := f1 0; have g1 := f1 1; have g2 := f1 2; have g3 := f1 3
    have hy1 := hx1; obtain ⟨l0, l1, l2, l3⟩ := hy1
    have hB1 := hB.trans (hb1.mono hB.size)
    simp only [World.size_alloc] at hw1
    have hB4 := below_set4 hB1 (Nat.le_refl _) x y Ag gs.length cg Ao os.length co
    have hx4 := BxC.set4 hx1 x y Ag gs.length cg Ao os.length co
    have hrd := (hw1.set4 (b := w.heap.size) (.inl (by omega)) x y Ag gs.length cg Ao os.length co).reads.1
    obtain ⟨m0, m1, m2, m3⟩ := hx4
    clear he
    cases t with
    | false =>
      have HV' : Hid (andsK 1 a = 0) := Lib.hid HV.out
      go_wp2
      go_ret2
      exact ⟨by rw [HV'.out]; rfl, hB4⟩
    | true =>
      have HV' : Hid (andsK 1 a = gi (cntK gs gs.length) 1) := Lib.hid HV.out
      go_wp2_with fail
      refine (countKinds_any Ag gs.length cg gs _ hrd (by omega) hkd).mono ?_
      rintro e w3 hT3
      obtain ⟨A3, c3, rfl, ho3, hb3⟩ := hT3.open_ HL
      obtain ⟨g, rfl, _, _, _⟩ := ho3.some_ (by omega)
      obtain ⟨hc, _⟩ := ho3.cellAt (k := 1) (by omega)
      go_wp2
      go_ret2
      exact ⟨by rw [HV'.out]; rfl, hB4.trans (hb3.mono hB4.size)⟩
  by_cases h2 : kd = 2
  · subst h2
    have he : circK 2 a = gadF lessG 8 a := by simp [circK]
    have hD := circK_data 2 a
    obtain ⟨R, hR⟩ : ∃ R, Hid (circK 2 a = R) := ⟨_, Lib.hid rfl⟩
    rw [hR.out] at hD ⊢
    obtain ⟨x, y, gs, os, hQ⟩ : ∃ x y gs os, Hid (R.getD ⟨0, 0, [], []⟩ = ⟨x, y, gs, os⟩) := ⟨_, _, _, _, Lib.hid rfl⟩
    obtain ⟨t, ht⟩ : ∃ t, Hid (R.isSome = t) := ⟨_, Lib.hid rfl⟩
    rw [hQ.out, ht.out] at hD
    rw [ht.out]
    obtain ⟨hkd, hgl, hV⟩ := hD
    dsimp only at hkd hgl hV
    have HV := Lib.hid hV; clear hV
    have HL := cntK_len gs gs.length
    go_enter Try.func20, Try.ntmps20
    go_wp2_with fail
    refine (LessCircuit_any a _).mono ?_
    rintro e w1 hT
    rw [← he, hR.out] at hT
    obtain ⟨Ag, cg, Ao, co, rfl, hw1, hb1⟩ := hT.to hQ.out ht.out
    have hx1 := hx0.below hb1
    have f1 : Fz w1 w.heap.size := (Fz.new w _ _).below hb1 (by simp)
    have g0 := f1 0; have g1 := f1 1; have g2 := f1 2; have g3 := f1 3
    have hy1 := hx1; obtain ⟨l0, l1, l2, l3⟩ := hy1
    have hB1 := hB.trans (hb1.mono hB.size)
    simp only [World.size_alloc] at hw1
    have hB4 := below_set4 hB1 (Nat.le_refl _) x y Ag gs.length cg Ao os.length co
    have hx4 := BxC.set4 hx1 x y Ag gs.length cg Ao os.length co
    have hrd := (hw1.set4 (b := w.heap.size) (.inl (by omega)) x y Ag gs.length cg Ao os.length co).reads.1
    obtain ⟨m0, m1, m2, m3⟩ := hx4
    clear he
    cases t with
    | false =>
      have HV' : Hid (andsK 2 a = 0) := Lib.hid HV.out
      go_wp2
      go_ret2
      exact ⟨by rw [HV'.out]; rfl, hB4⟩
    | true =>
      have HV' : Hid (andsK 2 a = gi (cntK gs gs.length) 1) := Lib.hid HV.out
      go_wp2_with fail
      refine (countKinds_any Ag gs.length cg gs _ hrd (by omega) hkd).mono ?_
      rintro e w3 hT3
      obtain ⟨A3, c3, rfl, ho3, hb3⟩ := hT3.open_ HL
      obtain ⟨g, rfl, _, _, _⟩ := ho3.some_ (by omega)
      obtain ⟨hc, _⟩ := ho3.cellAt (k := 1) (by omega)
      go_wp2
      go_ret2
      exact ⟨by rw [HV'.out]; rfl, hB4.trans (hb3.mono hB4.size)⟩
  by_cases h3 : kd = 3
  · subst h3
    have he : circK 3 a = gadF equalG 8 a := by simp [circK]
    have hD := circK_data 3 a
    obtain ⟨R, hR⟩ : ∃ R, Hid (circK 3 a = R) := ⟨_, Lib.hid rfl⟩
    rw [hR.out] at hD ⊢
    obtain ⟨x, y, gs, os, hQ⟩ : ∃ x y gs os, Hid (R.getD ⟨0, 0, [], []⟩ = ⟨x, y, gs, os⟩) := ⟨_, _, _, _, Lib.hid rfl⟩
    obtain ⟨t, ht⟩ : ∃ t, Hid (R.isSome = t) := ⟨_, Lib.hid rfl⟩
    rw [hQ.out, ht.out] at hD
    rw [ht.out]
    obtain ⟨hkd, hgl, hV⟩ := hD
    dsimp only at hkd hgl hV
    have HV := Lib.hid hV; clear hV
    have HL := cntK_len gs gs.length
    go_enter Try.func20, Try.ntmps20
    go_wp2_with fail
    refine (EqualCircuit_any a _).mono ?_
    rintro e w1 hT
    rw [← he, hR.out] at hT
    obtain ⟨Ag, cg, Ao, co, rfl, hw1, hb1⟩ := hT.to hQ.out ht.out
    have hx1 := hx0.below hb1
    have f1 : Fz w1 w.heap.size := (Fz.new w _ _).below hb1 (by simp)
    have g0 := f1 0; have g1 := f1 1; have g2 := f1 2; have g3 := f1 3
    have hy1 := hx1; obtain ⟨l0, l1, l2, l3⟩ := hy1
    have hB1 := hB.trans (hb1.mono hB.size)
    simp only [World.size_alloc] at hw1
    have hB4 := below_set4 hB1 (Nat.le_refl _) x y Ag gs.length cg Ao os.length co
    have hx4 := BxC.set4 hx1 x y Ag gs.length cg Ao os.length co
    have hrd := (hw1.set4 (b := w.heap.size) (.inl (by omega)) x y Ag gs.length cg Ao os.length co).reads.1
    obtain ⟨m0, m1, m2, m3⟩ := hx4
    clear he
    cases t with
    | false =>
      have HV' : Hid (andsK 3 a = 0) := Lib.hid HV.out
      go_wp2
      go_ret2
      exact ⟨by rw [HV'.out]; rfl, hB4⟩
    | true =>
      have HV' : Hid (andsK 3 a = gi (cntK gs gs.length) 1) := Lib.hid HV.out
      go_wp2_with fail
      refine (countKinds_any Ag gs.length cg gs _ hrd (by omega) hkd).mono ?_
      rintro e w3 hT3
      obtain ⟨A3, c3, rfl, ho3, hb3⟩ := hT3.open_ HL
      obtain ⟨g, rfl, _, _, _⟩ := ho3.some_ (by omega)
      obtain ⟨hc, _⟩ := ho3.cellAt (k := 1) (by omega)
      go_wp2
      go_ret2
      exact ⟨by rw [HV'.out]; rfl, hB4.trans (hb3.mono hB4.size)⟩
  by_cases h4 : kd = 4
  · subst h4
    have he : circK 4 a = chooseF a := by simp [circK]
    have hD := circK_data 4 a
    obtain ⟨R, hR⟩ : ∃ R, Hid (circK 4 a = R) := ⟨_, Lib.hid rfl⟩
    rw [hR.out] at hD ⊢
    obtain ⟨x, y, gs, os, hQ⟩ : ∃ x y gs os, Hid (R.getD ⟨0, 0, [], []⟩ = ⟨x, y, gs, os⟩) := ⟨_, _, _, _, Lib.hid rfl⟩
    obtain ⟨t, ht⟩ : ∃ t, Hid (R.isSome = t) := ⟨_, Lib.hid rfl⟩
    rw [hQ.out, ht.out] at hD
    rw [ht.out]
    obtain ⟨hkd, hgl, hV⟩ := hD
    dsimp only at hkd hgl hV
    have HV := Lib.hid hV; clear hV
    have HL := cntK_len gs gs.length
    go_enter Try.func20, Try.ntmps20
    go_wp2_with fail
    refine (ChooseCircuit_any a _).mono ?_
    rintro e w1 hT
    rw [← he, hR.out] at hT
    obtain ⟨Ag, cg, Ao, co, rfl, hw1, hb1⟩ := hT.to hQ.out ht.out
    have hx1 := hx0.below hb1
    have f1 : Fz w1 w.heap.size := (Fz.new w _ _).below hb1 (by simp)
    have g0 := f1 0; have g1 := f1 1; have g2 := f1 2; have g3 := f1 3
    have hy1 := hx1; obtain ⟨l0, l1, l2, l3⟩ := hy1
    have hB1 := hB.trans (hb1.mono hB.size)
    simp only [World.size_alloc] at hw1
    have hB4 := below_set4 hB1 (Nat.le_refl _) x y Ag gs.length cg Ao os.length co
    have hx4 := BxC.set4 hx1 x y Ag gs.length cg Ao os.length co
    have hrd := (hw1.set4 (b := w.heap.size) (.inl (by omega)) x y Ag gs.length cg Ao os.length co).reads.1
    obtain ⟨m0, m1, m2, m3⟩ := hx4
    clear he
    cases t with
    | false =>
      have HV' : Hid (andsK 4 a = 0) := Lib.hid HV.out
      go_wp2
      go_ret2
      exact ⟨by rw [HV'.out]; rfl, hB4⟩
    | true =>
      have HV' : Hid (andsK 4 a = gi (cntK gs gs.length) 1) := Lib.hid HV.out
      go_wp2_with fail
      refine (countKinds_any Ag gs.length cg gs _ hrd (by omega) hkd).mono ?_
      rintro e w3 hT3
      obtain ⟨A3, c3, rfl, ho3, hb3⟩ := hT3.open_ HL
      obtain ⟨g, rfl, _, _, _⟩ := ho3.some_ (by omega)
      obtain ⟨hc, _⟩ := ho3.cellAt (k := 1) (by omega)
      go_wp2
      go_ret2
      exact ⟨by rw [HV'.out]; rfl, hB4.trans (hb3.mono hB4.size)⟩
  by_cases h5 : kd = 5
  · subst h5
    have he : circK 5 a = gadF greatestG 8 a := by simp [circK]
    have hD := circK_data 5 a
    obtain ⟨R, hR⟩ : ∃ R, Hid (circK 5 a = R) := ⟨_, Lib.hid rfl⟩
    rw [hR.out] at hD ⊢
    obtain ⟨x, y, gs, os, hQ⟩ : ∃ x y gs os, Hid (R.getD ⟨0, 0, [], []⟩ = ⟨x, y, gs, os⟩) := ⟨_, _, _, _, Lib.hid rfl⟩
    obtain ⟨t, ht⟩ : ∃ t, Hid (R.isSome = t) := ⟨_, Lib.hid rfl⟩
    rw [hQ.out, ht.out] at hD
    rw [ht.out]
    obtain ⟨hkd, hgl, hV⟩ := hD
    dsimp only at hkd hgl hV
    have HV := Lib.hid hV; clear hV
    have HL := cntK_len gs gs.length
    go_enter Try.func20, Try.ntmps20
    go_wp2_with fail
    refine (GreatestCircuit_any a _).mono ?_
    rintro e w1 hT
    rw [← he, hR.out] at hT
    obtain ⟨Ag, cg, Ao, co, rfl, hw1, hb1⟩ := hT.to hQ.out ht.out
    have hx1 := hx0.below hb1
    have f1 : Fz w1 w.heap.size := (Fz.new w _ _).below hb1 (by simp)
    have g0 := f1 0; have g1 := f1 1; have g2 := f1 2; have g3 := f1 3
    have hy1 := hx1; obtain ⟨l0, l1, l2, l3⟩ := hy1
    have hB1 := hB.trans (hb1.mono hB.size)
    simp only [World.size_alloc] at hw1
    have hB4 := below_set4 hB1 (Nat.le_refl _) x y Ag gs.length cg Ao os.length co
    have hx4 := BxC.set4 hx1 x y Ag gs.length cg Ao os.length co
    have hrd := (hw1.set4 (b := w.heap.size) (.inl (by omega)) x y Ag gs.length cg Ao os.length co).reads.1
    obtain ⟨m0, m1, m2, m3⟩ := hx4
    clear he
    cases t with
    | false =>
      have HV' : Hid (andsK 5 a = 0) := Lib.hid HV.out
      go_wp2
      go_ret2
      exact ⟨by rw [HV'.out]; rfl, hB4⟩
    | true =>
      have HV' : Hid (andsK 5 a = gi (cntK gs gs.length) 1) := Lib.hid HV.out
      go_wp2_with fail
      refine (countKinds_any Ag gs.length cg gs _ hrd (by omega) hkd).mono ?_
      rintro e w3 hT3
      obtain ⟨A3, c3, rfl, ho3, hb3⟩ := hT3.open_ HL
      obtain ⟨g, rfl, _, _, _⟩ := ho3.some_ (by omega)
      obtain ⟨hc, _⟩ := ho3.cellAt (k := 1) (by omega)
      go_wp2
      go_ret2
      exact ⟨by rw [HV'.out]; rfl, hB4.trans (hb3.mono hB4.size)⟩
  by_cases h6 : kd = 6
  · subst h6
    have he : circK 6 a = gadF prodG 5 a := by simp [circK]
    have hD := circK_data 6 a
    obtain ⟨R, hR⟩ : ∃ R, Hid (circK 6 a = R) := ⟨_, Lib.hid rfl⟩
    rw [hR.out] at hD ⊢
    obtain ⟨x, y, gs, os, hQ⟩ : ∃ x y gs os, Hid (R.getD ⟨0, 0, [], []⟩ = ⟨x, y, gs, os⟩) := ⟨_, _, _, _, Lib.hid rfl⟩
    obtain ⟨t, ht⟩ : ∃ t, Hid (R.isSome = t) := ⟨_, Lib.hid rfl⟩
    rw [hQ.out, ht.out] at hD
    rw [ht.out]
    obtain ⟨hkd, hgl, hV⟩ := hD
    dsimp only at hkd hgl hV
    have HV := Lib.hid hV; clear hV
    have HL := cntK_len gs gs.length
    go_enter Try.func20, Try.ntmps20
    go_wp2_with fail
    refine (ProductCircuit_any a _).mono ?_
    rintro e w1 hT
    rw [← he, hR.out] at hT
    obtain ⟨Ag, cg, Ao, co, rfl, hw1, hb1⟩ := hT.to hQ.out ht.out
    have hx1 := hx0.below hb1
    have f1 : Fz w1 w.heap.size := (Fz.new w _ _).below hb1 (by simp)
    have g0 := f1 0; have g1 := f1 1; have g2 := f1 2; have g3 := f1 3
    have hy1 := hx1; obtain ⟨l0, l1, l2, l3⟩ := hy1
    have hB1 := hB.trans (hb1.mono hB.size)
    simp only [World.size_alloc] at hw1
    have hB4 := below_set4 hB1 (Nat.le_refl _) x y Ag gs.length cg Ao os.length co
    have hx4 := BxC.set4 hx1 x y Ag gs.length cg Ao os.length co
    have hrd := (hw1.set4 (b := w.heap.size) (.inl (by omega)) x y Ag gs.length cg Ao os.length co).reads.1
    obtain ⟨m0, m1, m2, m3⟩ := hx4
    clear he
    cases t with
    | false =>
      have HV' : Hid (andsK 6 a = 0) := Lib.hid HV.out
      go_wp2
      go_ret2
      exact ⟨by rw [HV'.out]; rfl, hB4⟩
    | true =>
      have HV' : Hid (andsK 6 a = gi (cntK gs gs.length) 1) := Lib.hid HV.out
      go_wp2_with fail
      refine (countKinds_any Ag gs.length cg gs _ hrd (by omega) hkd).mono ?_
      rintro e w3 hT3
      obtain ⟨A3, c3, rfl, ho3, hb3⟩ := hT3.open_ HL
      obtain ⟨g, rfl, _, _, _⟩ := ho3.some_ (by omega)
      obtain ⟨hc, _⟩ := ho3.cellAt (k := 1) (by omega)
      go_wp2
      go_ret2
      exact ⟨by rw [HV'.out]; rfl, hB4.trans (hb3.mono hB4.size)⟩
  have HR : Hid (circK kd a = none) := Lib.hid (by simp [circK, h0, h1, h2, h3, h4, h5, h6])
  have HV : Hid (andsK kd a = 0) := Lib.hid (by simp [andsK, HR.out])
  have z0 : (kd == 0) = false := by simpa using h0
  have z1 : (kd == 1) = false := by simpa using h1
  have z2 : (kd == 2) = false := by simpa using h2
  have z3 : (kd == 3) = false := by simpa using h3
  have z4 : (kd == 4) = false := by simpa using h4
  have z5 : (kd == 5) = false := by simpa using h5
  have z6 : (kd == 6) = false := by simpa using h6
  clear h0 h1 h2 h3 h4 h5 h6
  go_enter Try.func20, Try.ntmps20
  go_wp2
  go_ret2
  exact ⟨by rw [HR.out, HV.out]; rfl, hB⟩
def gl (xss : List (List Int)) (j : Nat) : List Int := xss.getD j []
theorem gl_append_lt {xss yss : List (List Int)} {j : Nat} (h : j < xss.length) : gl (xss ++ yss) j = gl xss j := by
  unfold gl; rw [List.getD_eq_getElem?_getD, List.getD_eq_getElem?_getD, List.getElem?_append_left h]
theorem gl_append_eq {xss : List (List Int)} {ys : List Int} : gl (xss ++ [ys]) xss.length = ys := by simp [gl]
def RII (w : World) (A : Option Addr) (n : Nat) (xss : List (List Int)) : Prop :=
  xss.length = n ∧ (0 < n → ∃ b o, A = some ⟨b, o, none⟩ ∧ b < w.heap.size ∧ ∀ j, j < n → ∃ A' m c', w.cell? ⟨b, o + j, none⟩ = some (.slice A' m c') ∧ RI w A' m (gl xss j))
theorem RII.len {w : World} {A : Option Addr} {n : Nat} {xss : List (List Int)} (h : RII w A n xss) : xss.length = n := h.1
theorem RII.at_ {w : World} {A : Option Addr} {n : Nat} {xss : List (List Int)} {k : Nat} (h : RII w A n xss) (hk : k < n) :
    ∃ b o A' m c', A = some ⟨b, o, none⟩ ∧ b < w.heap.size ∧ w.cell? ⟨b, o + k, none⟩ = some (.slice A' m c') ∧ RI w A' m (gl xss k) := by
  obtain ⟨b, o, hA, hb, hc⟩ := h.2 (by omega)
  obtain ⟨A', m, c', h1, h2⟩ := hc k hk
  exact ⟨b, o, A', m, c', hA, hb, h1, h2⟩
theorem RII.below {w w' : World} {A : Option Addr} {n : Nat} {xss : List (List Int)} (h : RII w A n xss) {B : Nat} (hb : Below B w w') (hB : w.heap.size ≤ B) : RII w' A n xss :=
  ⟨h.1, fun hn => by
    obtain ⟨b, o, hA, hlt, hc⟩ := h.2 hn
    refine ⟨b, o, hA, Nat.lt_of_lt_of_le hlt hb.size, fun j hj => ?_⟩
    obtain ⟨A', m, c', h1, h2⟩ := hc j hj
    exact ⟨A', m, c', (hb.cell (p := ⟨b, o + j, none⟩) (by exact Nat.lt_of_lt_of_le hlt hB)).trans h1, h2.below hb hB⟩⟩
theorem RII.drewN {w : World} {A : Option Addr} {n : Nat} {xss : List (List Int)} (h : RII w A n xss) (k : Nat) : RII (w.drewN k) A n xss := h
def OwnII (w : World) (lo hi : Nat) (v : Value) (n : Nat) (xss : List (List Int)) : Prop :=
  ∃ vals : List Value, w.ownsRow lo 26 1 v n vals ∧ (∀ g, v.ownBlock = some g → g < hi) ∧ xss.length = n ∧
    (∀ j : Nat, j < n → ∃ A' m c', vals[j]? = some (.slice A' m c') ∧ Own w lo hi (.slice A' m c') m (gl xss j)) ∧
    (∀ (i j : Nat) (u u' : Value), i < j → vals[i]? = some u → vals[j]? = some u' → Apart u u')
theorem ownsRow_ne {w : World} {lo lo' e e' s s' n n' : Nat} {v v' : Value} {xs xs' : List Value} (h : w.ownsRow lo e s v n xs) (h' : w.ownsRow lo' e' s' v' n' xs') (hne : e ≠ e') : Apart v v' := by
  intro g hg hg'
  rcases h.2 with ⟨rfl, _⟩ | ⟨a, cap, cur, rfl, _, hh, _⟩
  · simp [Value.ownBlock] at hg
  · rcases h'.2 with ⟨rfl, _⟩ | ⟨b, cap', cur', rfl, _, hh', _⟩
    · simp [Value.ownBlock] at hg'
    · simp only [Value.ownBlock, Option.some.injEq] at hg hg'
      subst hg; subst hg'
      rw [hh] at hh'
      injection hh' with hh'
      injection hh' with _ ht
      exact hne ht
theorem OwnII.len {w : World} {lo hi n : Nat} {v : Value} {xss : List (List Int)} (h : OwnII w lo hi v n xss) : xss.length = n := by
  obtain ⟨_, _, _, h3, _⟩ := h; exact h3
theorem OwnII.none_ (w : World) (lo hi : Nat) : OwnII w lo hi (.slice none 0 0) 0 [] :=
  ⟨[], World.ownsRow_nil w lo _ _, fun g hg => by simp [Value.ownBlock] at hg, rfl, fun j hj => absurd hj (by omega), fun i j u u' _ h => by simp at h⟩
theorem OwnII.lt {w : World} {lo hi n : Nat} {v : Value} {xss : List (List Int)} (h : OwnII w lo hi v n xss) : ∀ g, v.ownBlock = some g → lo ≤ g ∧ g < hi ∧ g < w.heap.size := by
  obtain ⟨vals, h1, h2, _⟩ := h
  exact fun g hg => ⟨(h1.lt g hg).1, h2 g hg, (h1.lt g hg).2⟩
theorem OwnII.some_ {w : World} {lo hi n c : Nat} {A : Option Addr} {xss : List (List Int)} (h : OwnII w lo hi (.slice A n c) n xss) (hn : 0 < n) : ∃ g, A = some ⟨g, 0, none⟩ ∧ lo ≤ g ∧ g < hi ∧ g < w.heap.size := by
  obtain ⟨vals, h1, h2, _⟩ := h
  obtain ⟨g, cap, hv, h3, h4⟩ := h1.form hn
  simp only [Value.slice.injEq, true_and] at hv
  obtain ⟨rfl, rfl⟩ := hv
  exact ⟨g, rfl, h3, h2 g rfl, h4⟩
theorem ownsRow_chg {w w' : World} {lo lo' hi' e s n : Nat} {v : Value} {xs : List Value} (h : w.ownsRow lo e s v n xs) (k : Chg lo' hi' w w') (hd : ∀ g, v.ownBlock = some g → g < lo' ∨ hi' ≤ g) : w'.ownsRow lo e s v n xs := by
  refine ⟨h.1, ?_⟩
  rcases h.2 with h1 | ⟨g, cap, cur, rfl, hlo, hg, r⟩
  · exact .inl h1
  · exact .inr ⟨g, cap, cur, rfl, hlo, by rw [k.block g (h.lt g (by simp [Value.ownBlock])).2 (hd g (by simp [Value.ownBlock]))]; exact hg, r⟩
theorem OwnII.chg {w w' : World} {lo hi lo' hi' n : Nat} {v : Value} {xss : List (List Int)} (h : OwnII w lo hi v n xss) (k : Chg lo' hi' w w') (hd : hi ≤ lo' ∨ hi' ≤ lo) : OwnII w' lo hi v n xss := by
  have hlt := h.lt
  obtain ⟨vals, h1, h2, h3, h4, h5⟩ := h
  refine ⟨vals, ownsRow_chg h1 k (fun g hg => by have := hlt g hg; omega), h2, h3, fun j hj => ?_, h5⟩
  obtain ⟨A', m, c', h6, h7⟩ := h4 j hj
  exact ⟨A', m, c', h6, h7.chg k hd⟩
theorem OwnII.below {w w' : World} {lo hi n : Nat} {v : Value} {xss : List (List Int)} {B : Nat} (h : OwnII w lo hi v n xss) (hb : Below B w w') (hB : w.heap.size ≤ B) : OwnII w' lo hi v n xss := by
  have k : Chg 0 0 w w' := Chg.of_below (hb.mono hB)
  exact h.chg k (.inr (Nat.zero_le _))
theorem OwnII.now {w : World} {lo hi n : Nat} {v : Value} {xss : List (List Int)} (h : OwnII w lo hi v n xss) : OwnII w lo w.heap.size v n xss := by
  have hlt := h.lt
  obtain ⟨vals, h1, h2, h3, h4, h5⟩ := h
  refine ⟨vals, h1, fun g hg => (hlt g hg).2.2, h3, fun j hj => ?_, h5⟩
  obtain ⟨A', m, c', h6, h7⟩ := h4 j hj
  exact ⟨A', m, c', h6, h7.now⟩
theorem OwnII.lo_ {w : World} {lo lo' hi n : Nat} {v : Value} {xss : List (List Int)} (h : OwnII w lo hi v n xss) (hl : lo' ≤ lo) : OwnII w lo' hi v n xss := by
  obtain ⟨vals, h1, h2, h3, h4, h5⟩ := h
  refine ⟨vals, ⟨h1.1, ?_⟩, h2, h3, fun j hj => ?_, h5⟩
  · rcases h1.2 with h6 | ⟨g, cap, cur, hv, hb, r⟩
    · exact .inl h6
    · exact .inr ⟨g, cap, cur, hv, by omega, r⟩
  · obtain ⟨A', m, c', h6, h7⟩ := h4 j hj
    exact ⟨A', m, c', h6, h7.lo_ hl⟩
theorem OwnII.reads {w : World} {lo hi n c : Nat} {A : Option Addr} {xss : List (List Int)} (h : OwnII w lo hi (.slice A n c) n xss) : RII w A n xss := by
  refine ⟨h.len, fun hn => ?_⟩
  obtain ⟨g, rfl, _, _, hlt⟩ := h.some_ hn
  obtain ⟨vals, h1, h2, h3, h4, h5⟩ := h
  refine ⟨g, 0, rfl, hlt, fun j hj => ?_⟩
  obtain ⟨A', m, c', h6, h7⟩ := h4 j hj
  refine ⟨A', m, c', ?_, h7.reads⟩
  obtain ⟨cap, hv⟩ : ∃ cap, c = cap := ⟨_, rfl⟩
  rw [Nat.zero_add, h1.cellAt j (by omega), h6]
theorem OwnII.app {w w2 w5 : World} {lo n c m c' H : Nat} {A A5 : Option Addr} {c5 : Nat} {xss : List (List Int)} {ys : List Int} {vals : List Value} {hi : Nat}
    (h1 : w.ownsRow lo 26 1 (.slice A n c) n vals) (h3 : xss.length = n)
    (h4 : ∀ j : Nat, j < n → ∃ A' m c', vals[j]? = some (.slice A' m c') ∧ Own w lo hi (.slice A' m c') m (gl xss j))
    (h5 : ∀ (i j : Nat) (u u' : Value), i < j → vals[i]? = some u → vals[j]? = some u' → Apart u u')
    (hb : Below w.heap.size w w2) (hnew : Own w2 w.heap.size hi (.slice (some ⟨H, 0, none⟩) m c') m ys) (hlo : lo ≤ w.heap.size)
    (hr : w5.ownsRow lo 26 1 (.slice A5 (n + 1) c5) (n + 1) (vals ++ [.slice (some ⟨H, 0, none⟩) m c'])) (hg : w2.grownBy w5 (Value.slice A n c).ownBlock) :
    OwnII w5 lo w5.heap.size (.slice A5 (n + 1) c5) (n + 1) (xss ++ [ys]) := by
  have hrow2 : w2.ownsRow lo 26 1 (.slice A n c) n vals := h1.kept (grownBy_of_below hb none) (by cases h : (Value.slice A n c).ownBlock <;> simp)
  have hl : vals.length = n := by simpa using h1.1
  have hne : ∀ {lo' hi' k : Nat} {u : Value} {zs : List Int}, Own w2 lo' hi' u k zs → Own w5 lo' hi' u k zs := by
    intro lo' hi' k u zs hu
    exact hu.apart hg (ownsRow_ne hu.1 hrow2 (by decide))
  refine ⟨_, hr, fun g hg' => (hr.lt g hg').2, by simp [h3], fun j hj => ?_, fun i j u u' hij hu hu' => ?_⟩
  · by_cases hjn : j < n
    · obtain ⟨A', m', c'', h6, h7⟩ := h4 j hjn
      refine ⟨A', m', c'', by rw [List.getElem?_append_left (by omega)]; exact h6, ?_⟩
      rw [gl_append_lt (by omega)]
      exact (hne (h7.below hb (.inl (Nat.le_refl _)))).now
    · obtain rfl : j = n := by omega
      refine ⟨some ⟨H, 0, none⟩, m, c', by rw [List.getElem?_append_right (by omega), hl, Nat.sub_self]; rfl, ?_⟩
      rw [← h3, gl_append_eq]
      exact ((hne hnew).lo_ hlo).now
  · by_cases hjn : j < n
    · rw [List.getElem?_append_left (by omega)] at hu hu'
      exact h5 i j u u' hij hu hu'
    · have hj2 : j < (vals ++ [Value.slice (some ⟨H, 0, none⟩) m c']).length := by
        rcases Nat.lt_or_ge j (vals ++ [Value.slice (some ⟨H, 0, none⟩) m c']).length with h | h
        · exact h
        · rw [List.getElem?_eq_none h] at hu'; cases hu'
      simp at hj2
      obtain rfl : j = n := by omega
      rw [List.getElem?_append_left (by omega)] at hu
      rw [List.getElem?_append_right (by omega), hl, Nat.sub_self] at hu'
      simp at hu'
      subst hu'
      obtain ⟨A', m', c'', h6, h7⟩ := h4 i (by omega)
      rw [hu] at h6
      injection h6 with h6
      subst h6
      intro g hg1 hg2
      have q1 := h7.lt g hg1
      have q2 := hnew.lt g hg2
      omega
theorem OwnII.row {w : World} {lo hi n g c : Nat} {xss : List (List Int)} (h : OwnII w lo hi (.slice (some ⟨g, 0, none⟩) n c) n xss) {k : Nat} (hk : k < n) :
    ∃ A' m c', w.cell? ⟨g, k, none⟩ = some (.slice A' m c') ∧ Own w lo hi (.slice A' m c') m (gl xss k) ∧
      ∀ (w' : World) (ys : List Int), Own w' lo hi (.slice A' m c') m ys → w.grownBy w' (Value.slice A' m c').ownBlock → OwnII w' lo hi (.slice (some ⟨g, 0, none⟩) n c) n (xss.set k ys) := by
  obtain ⟨vals, h1, h2, h3, h4, h5⟩ := h
  obtain ⟨A', m, c', h6, h7⟩ := h4 k hk
  refine ⟨A', m, c', by rw [h1.cellAt k (by omega), h6], h7, fun w' ys hy hg => ?_⟩
  have hap := ownsRow_ne h1 h7.1 (by decide)
  refine ⟨vals, h1.kept hg (by
    cases hv : (Value.slice (some ⟨g, 0, none⟩) n c).ownBlock with
    | none => exact .inl rfl
    | some q => exact .inr (fun he => hap q hv he.symm)), h2, by simpa using h3, fun j hj => ?_, h5⟩
  by_cases hjk : j = k
  · subst hjk
    refine ⟨A', m, c', h6, ?_⟩
    rw [show gl (xss.set j ys) j = ys from by simp [gl, h3, hj]]
    exact hy
  · obtain ⟨B', m', d', h8, h9⟩ := h4 j hj
    refine ⟨B', m', d', h8, ?_⟩
    rw [show gl (xss.set k ys) j = gl xss j from by unfold gl; rw [List.getD_eq_getElem?_getD, List.getD_eq_getElem?_getD, List.getElem?_set_ne (fun e => hjk e.symm)]]
    refine h9.apart hg ?_
    rcases Nat.lt_or_gt_of_ne hjk with h | h
    · exact h5 j k _ _ h h8 h6
    · exact (h5 k j _ _ h h6 h8).symm_
theorem OwnII.grown {w w' : World} {lo hi n : Nat} {v : Value} {xss : List (List Int)} (h : OwnII w lo hi v n xss) {v1 : Value} (hg : w.grownBy w' v1.ownBlock) (hn : v1.ownBlock = none) : OwnII w' lo hi v n xss :=
  h.below (below_of_grownBy (by rw [← hn]; exact hg)) (Nat.le_refl _)
theorem OwnII.drewN {w : World} {lo hi n : Nat} {v : Value} {xss : List (List Int)} (h : OwnII w lo hi v n xss) (k : Nat) : OwnII (w.drewN k) lo hi v n xss := h.below (below_of_drewN k) (Nat.le_refl _)
theorem OwnII.alloc {w : World} {lo hi n : Nat} {v : Value} {xss : List (List Int)} (h : OwnII w lo hi v n xss) (o : Obj) : OwnII (w.alloc o) lo hi v n xss := h.below ((Below.refl _ _).alloc (Nat.le_refl _) o) (Nat.le_refl _)
theorem OwnII.hi_ {w : World} {lo hi hi' n : Nat} {v : Value} {xss : List (List Int)} (h : OwnII w lo hi v n xss) (hl : hi ≤ hi') : OwnII w lo hi' v n xss := by
  obtain ⟨vals, h1, h2, h3, h4, h5⟩ := h
  refine ⟨vals, h1, fun g hg => Nat.lt_of_lt_of_le (h2 g hg) hl, h3, fun j hj => ?_, h5⟩
  obtain ⟨A', m, c', h6, h7⟩ := h4 j hj
  exact ⟨A', m, c', h6, h7.hi_ hl⟩
theorem OwnII.new0 (w : World) (lo : Nat) (hl : lo ≤ w.heap.size) : OwnII (w.alloc (.cells #[] 26)) lo (w.heap.size + 1) (.slice (some ⟨w.heap.size, 0, none⟩) 0 0) 0 [] := by
  have h := World.ownsRow_lit (base := lo) (e := 26) (size := 1) w #[] 0 hl (by unfold maxLen; omega) (by simp)
  exact ⟨[], by simpa using h, fun g hg => by simp [Value.ownBlock] at hg; omega, rfl, fun j hj => absurd hj (by omega), fun i j u u' _ h => by simp at h⟩
def RetII (w : World) (xss : List (List Int)) (e : Ending) (w' : World) : Prop :=
  ∃ A' c', e = .returned (.slice A' xss.length c') ∧ OwnII w' w.heap.size w'.heap.size (.slice A' xss.length c') xss.length xss ∧ Below w.heap.size w w'
theorem RetII.mk_ {w : World} {xss : List (List Int)} {n : Nat} {A' : Option Addr} {c' : Nat} {e : Ending} {w' : World} (hn : xss.length = n) (he : e = .returned (.slice A' n c')) (ho : OwnII w' w.heap.size w'.heap.size (.slice A' n c') n xss) (hb : Below w.heap.size w w') : RetII w xss e w' := by
  subst hn; exact ⟨A', c', he, ho, hb⟩
theorem RetII.open_ {w : World} {xss : List (List Int)} {n : Nat} {e : Ending} {w' : World} (h : RetII w xss e w') (hn : xss.length = n) : ∃ A' c', e = .returned (.slice A' n c') ∧ OwnII w' w.heap.size w'.heap.size (.slice A' n c') n xss ∧ Below w.heap.size w w' := by
  subst hn; exact h
def sameB (xs ys : List Int) : Bool := decide (xs = ys)
theorem sameB_len {xs ys : List Int} (h : xs.length ≠ ys.length) : sameB xs ys = false := by
  simp only [sameB, decide_eq_false_iff_not]; intro hc; exact h (by rw [hc])
theorem sameB_at {xs ys : List Int} {k : Nat} (h : gi xs k ≠ gi ys k) : sameB xs ys = false := by
  simp only [sameB, decide_eq_false_iff_not]; intro hc; exact h (by rw [hc])
theorem sameB_all {xs ys : List Int} (h : xs.length = ys.length) (hg : ∀ j, j < xs.length → gi xs j = gi ys j) : sameB xs ys = true := by
  simp only [sameB, decide_eq_true_eq]; exact gi_eq h hg
end Go.Proofs.Ytliicemcdfidmaa
