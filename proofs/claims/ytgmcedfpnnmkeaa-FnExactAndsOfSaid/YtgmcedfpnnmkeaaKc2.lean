/- Contracts of AndsOf. -/
import Derived.Test.YtgmcedfpnnmkeaaKc
import Derived.Test.YtgmcedfpnnmkeaaVal
namespace Go.Proofs.Ytgmcedfpnnmkeaa
open Go.RowKit
set_option linter.unusedVariables false
set_option linter.unusedSimpArgs false

/-- The circuit of a kind. -/
def circK (kd a : Int) : Option Ci := if kd = 0 then gadF adderG 8 a else if kd = 1 then gadF subG 8 a else if kd = 2 then gadF lessG 8 a else if kd = 3 then gadF equalG 8 a else if kd = 4 then chooseF a else if kd = 5 then gadF greatestG 8 a else if kd = 6 then gadF prodG 5 a else none
/-- Its gates GtAnd. -/
def andsK (kd a : Int) : Int := ((circK kd a).map fun c => gi (cntK c.gs c.gs.length) 1).getD 0
theorem gadF_ok {F : Nat → Go2} {hi a : Int} {c : Ci} (h : ∀ w : Nat, 1 ≤ w → (w : Int) ≤ hi → circB (w : Nat) (w : Nat) (F w).g (F w).o = true) (hc : gadF F hi a = some c) : circB c.i0 c.i1 c.gs c.os = true := by
  unfold gadF at hc
  split at hc
  · rename_i hb
    rw [inB_iff] at hb
    have h1 := h a.toNat (by omega) (by omega)
    injection hc with hc; subst hc
    rwa [Int.toNat_of_nonneg (by omega)] at h1
  · cases hc
theorem chooseF_ok {a : Int} {c : Ci} (hc : chooseF a = some c) : circB c.i0 c.i1 c.gs c.os = true := by
  unfold chooseF at hc
  split at hc
  · rename_i hb
    rw [inB_iff] at hb
    have h1 := chooseG_ok a.toNat (by omega) (by omega)
    injection hc with hc; subst hc
    have he : ((2 * a.toNat : Nat) : Int) = 2 * a := by omega
    rwa [he] at h1
  · cases hc
theorem circK_ok {kd a : Int} {c : Ci} (hc : circK kd a = some c) : circB c.i0 c.i1 c.gs c.os = true := by
  unfold circK at hc
  split at hc
  · exact gadF_ok (fun w h1 h8 => adderG_ok w h1 (by omega)) hc
  split at hc
  · exact gadF_ok (fun w h1 h8 => subG_ok w h1 (by omega)) hc
  split at hc
  · exact gadF_ok (fun w h1 h8 => lessG_ok w h1 (by omega)) hc
  split at hc
  · exact gadF_ok (fun w h1 h8 => equalG_ok w h1 (by omega)) hc
  split at hc
  · exact chooseF_ok hc
  split at hc
  · exact gadF_ok (fun w h1 h8 => greatestG_ok w h1 (by omega)) hc
  split at hc
  · exact gadF_ok (fun w h1 h8 => prodG_ok w h1 (by omega)) hc
  · cases hc
theorem circK_data (kd a : Int) : (∀ k, k < ((circK kd a).getD ⟨0, 0, [], []⟩).gs.length → 0 ≤ (gg ((circK kd a).getD ⟨0, 0, [], []⟩).gs k).k ∧ (gg ((circK kd a).getD ⟨0, 0, [], []⟩).gs k).k ≤ 3) ∧ ((circK kd a).getD ⟨0, 0, [], []⟩).gs.length ≤ 300 ∧
    andsK kd a = if (circK kd a).isSome = true then gi (cntK ((circK kd a).getD ⟨0, 0, [], []⟩).gs ((circK kd a).getD ⟨0, 0, [], []⟩).gs.length) 1 else 0 := by
  cases h : circK kd a with
  | none => exact ⟨fun k hk => by simp at hk, by simp, by simp [andsK, h]⟩
  | some c =>
    obtain ⟨_, _, h3, _, h5, _⟩ := circB_bd (circK_ok h)
    refine ⟨fun k hk => ?_, h3, by simp [andsK, h]⟩
    have hg := gatesB_at h5 hk
    simp only [Option.getD_some]
    cases hg with
    | xor_ q _ _ _ _ => omega
    | and_ q _ _ _ _ => omega
    | not_ q _ _ _ => omega
    | one_ q _ _ => omega
theorem RetC.toCr {w : World} {o : Option Ci} {e : Ending} {w' : World} (h : RetC w o e w') : RetCr w o e w' := by
  obtain ⟨Ag, cg, Ao, co, h1, h2, h3⟩ := h
  exact ⟨Ag, cg, Ao, co, h1, h2.toR, h3⟩

set_option maxHeartbeats 1600000 in
theorem gdKind_all (kd a : Int) (w : World) : Calls Try.prog 108 #[.int .i64 kd, .int .i64 a] w (RetCr w (circK kd a)) := by
  by_cases h0 : kd = 0
  · have he : circK kd a = gadF adderG 8 a := by subst h0; simp [circK]
    rw [he]; subst h0
    exact (gdKind_0 a w).mono fun _ _ h => h.toCr
  by_cases h1 : kd = 1
  · have he : circK kd a = gadF subG 8 a := by subst h1; simp [circK]
    rw [he]; subst h1
    exact (gdKind_1 a w).mono fun _ _ h => h.toCr
  by_cases h2 : kd = 2
  · have he : circK kd a = gadF lessG 8 a := by subst h2; simp [circK]
    rw [he]; subst h2
    exact gdKind_2 a w
  by_cases h3 : kd = 3
  · have he : circK kd a = gadF equalG 8 a := by subst h3; simp [circK]
    rw [he]; subst h3
    exact (gdKind_3 a w).mono fun _ _ h => h.toCr
  by_cases h4 : kd = 4
  · have he : circK kd a = chooseF a := by subst h4; simp [circK]
    rw [he]; subst h4
    exact (gdKind_4 a w).mono fun _ _ h => h.toCr
  by_cases h5 : kd = 5
  · have he : circK kd a = gadF greatestG 8 a := by subst h5; simp [circK]
    rw [he]; subst h5
    exact (gdKind_5 a w).mono fun _ _ h => h.toCr
  by_cases h6 : kd = 6
  · have he : circK kd a = gadF prodG 5 a := by subst h6; simp [circK]
    rw [he]; subst h6
    exact (gdKind_6 a w).mono fun _ _ h => h.toCr
  have HR : Hid (circK kd a = none) := Lib.hid (by simp [circK, h0, h1, h2, h3, h4, h5, h6])
  have HI : Hid (inB 0 6 kd = false) := Lib.hid (by rw [Bool.eq_false_iff]; intro hc; have := inB_iff.1 hc; omega)
  have hB : Below w.heap.size w (w.alloc (.cells #[.int .i64 0, .int .i64 0, .slice none 0 0, .slice none 0 0] 40)) := (Below.refl _ _).alloc (Nat.le_refl _) _
  have hx0 : BxC (w.alloc (.cells #[.int .i64 0, .int .i64 0, .slice none 0 0, .slice none 0 0] 40)) w.heap.size 0 0 none 0 0 none 0 0 := BxC.new w _
  clear h0 h1 h2 h3 h4 h5 h6
  cases hi : inB 1 8 a with
  | false =>
    have H0 := Lib.hid hi; clear hi
    go_enter Try.func108, Try.ntmps108
    go_wp2_with fail
    refine (gdWidth_any a _).mono ?_
    rintro e w1 ⟨rfl, rfl⟩
    rw [H0.out]
    go_wp2
    have hq9 := BxC.set4 (hx0) 0 0 none 0 0 none 0 0
    obtain ⟨q0, q1, q2, q3⟩ := hq9
    refine bodyPost_ret (v := .tuple #[.agg #[.int .i64 0, .int .i64 0, .slice none 0 0, .slice none 0 0], .bool false]) (by simp [results, Try.results108, go_sem, q0, q1, q2, q3]) rfl ?_
    exact RetCr.none_ hB HR.out rfl
  | true =>
    have H0 := Lib.hid hi; clear hi
    go_enter Try.func108, Try.ntmps108
    go_wp2_with fail
    refine (gdWidth_any a _).mono ?_
    rintro e w1 ⟨rfl, rfl⟩
    rw [H0.out]
    go_wp2_with fail
    refine (l1In_any kd 0 6 _ rfl _).mono ?_
    rintro e w1 ⟨rfl, rfl⟩
    rw [HI.out]
    go_wp2
    have hq9 := BxC.set4 (hx0) 0 0 none 0 0 none 0 0
    obtain ⟨q0, q1, q2, q3⟩ := hq9
    refine bodyPost_ret (v := .tuple #[.agg #[.int .i64 0, .int .i64 0, .slice none 0 0, .slice none 0 0], .bool false]) (by simp [results, Try.results108, go_sem, q0, q1, q2, q3]) rfl ?_
    exact RetCr.none_ hB HR.out rfl

set_option maxRecDepth 100000 in
set_option maxHeartbeats 1600000 in
theorem spec_AndsOf_any (kd a : Int) (w : World) : Calls Try.prog 59 #[.int .i64 kd, .int .i64 a] w fun e w' => e = .returned (.tuple #[.int .i64 (andsK kd a), .bool (circK kd a).isSome]) ∧ Below w.heap.size w w' := by
  have hD := circK_data kd a
  obtain ⟨R, hR⟩ : ∃ R, Hid (circK kd a = R) := ⟨_, Lib.hid rfl⟩
  rw [hR.out] at hD ⊢
  obtain ⟨x, y, gs, os, hQ⟩ : ∃ x y gs os, Hid (R.getD ⟨0, 0, [], []⟩ = ⟨x, y, gs, os⟩) := ⟨_, _, _, _, Lib.hid rfl⟩
  obtain ⟨t, ht⟩ : ∃ t, Hid (R.isSome = t) := ⟨_, Lib.hid rfl⟩
  rw [hQ.out, ht.out] at hD
  rw [ht.out]
  obtain ⟨hkd, hgl, hV⟩ := hD
  dsimp only at hkd hgl hV
  have HV := Lib.hid hV; clear hV
  have HL := cntK_len gs gs.length
  go_enter Try.func59, Try.ntmps59
  go_wp2_with fail
  refine (gdKind_all kd a _).mono ?_
  rintro e w1 hT
  rw [hR.out] at hT
  obtain ⟨Ag, cg, Ao, co, rfl, hw1, hb1⟩ := hT.to hQ.out ht.out
  have hz1 := hb1.size
  have hbx := BxC.new (x := x) (y := y) (Ag := Ag) (ng := gs.length) (cg := cg) (Ao := Ao) (no := os.length) (co := co) w1 40
  have hB2 := hb1.alloc hz1 (.cells #[.int .i64 x, .int .i64 y, .slice Ag gs.length cg, .slice Ao os.length co] 40)
  have hrd := hw1.reads.1.alloc (.cells #[.int .i64 x, .int .i64 y, .slice Ag gs.length cg, .slice Ao os.length co] 40)
  cases t with
  | false =>
    have HV' : Hid (andsK kd a = 0) := Lib.hid HV.out
    go_wp2
    go_ret2
    exact ⟨by rw [HV'.out]; rfl, hB2⟩
  | true =>
    have HV' : Hid (andsK kd a = gi (cntK gs gs.length) 1) := Lib.hid HV.out
    obtain ⟨k0, k1, k2, k3⟩ := hbx
    go_wp2_with fail
    refine (ciCounts_any x y Ag gs.length cg Ao os.length co gs _ hrd (by omega) hkd).mono ?_
    rintro e w3 hT3
    obtain ⟨A3, c3, rfl, ho3, hb3⟩ := hT3.open_ HL
    obtain ⟨g, rfl, _, _, _⟩ := ho3.some_ (by omega)
    obtain ⟨hc, _⟩ := ho3.cellAt (k := 1) (by omega)
    go_wp2
    go_ret2
    exact ⟨by rw [HV'.out]; rfl, hB2.trans (hb3.mono hB2.size)⟩

set_option maxRecDepth 100000 in
set_option maxHeartbeats 4000000 in
theorem AndsOf_any (kd a : Int) (w : World) : Calls Try.prog 60 #[.int .i64 kd, .int .i64 a] w fun e w' => e = .returned (.tuple #[.int .i64 (andsK kd a), .bool (circK kd a).isSome]) ∧ Below w.heap.size w w' := by
  have hB : Below w.heap.size w (w.alloc (.cells #[.int .i64 0, .int .i64 0, .slice none 0 0, .slice none 0 0] 40)) := (Below.refl _ _).alloc (Nat.le_refl _) _
  have hx0 : BxC (w.alloc (.cells #[.int .i64 0, .int .i64 0, .slice none 0 0, .slice none 0 0] 40)) w.heap.size 0 0 none 0 0 none 0 0 := BxC.new w _
  by_cases h0 : kd = 0
  · subst h0
    have he : circK 0 a = gadF adderG 8 a := by simp [circK]
    have hD := circK_data 0 a
    obtain ⟨R, hR⟩ : ∃ R, Hid (circK 0 a = R) := ⟨_, Lib.hid rfl⟩
    rw [hR.out] at hD ⊢
    obtain ⟨x, y, gs, os, hQ⟩ : ∃ x y gs os, Hid (R.getD ⟨0, 0, [], []⟩ = ⟨x, y, gs, os⟩) := ⟨_, _, _, _, Lib.hid rfl⟩
    obtain ⟨t, ht⟩ : ∃ t, Hid (R.isSome = t) := ⟨_, Lib.hid rfl⟩
    rw [hQ.out, ht.out] at hD
    rw [ht.out]
    obtain ⟨hkd, hgl, hV⟩ := hD
    dsimp only at hkd hgl hV
    have HV := Lib.hid hV; clear hV
    have HL := cntK_len gs gs.length
    go_enter Try.func60, Try.ntmps60
    go_wp2_with fail
    refine (AdderCircuit_any a _).mono ?_
    rintro e w1 hT
    rw [← he, hR.out] at hT
    obtain ⟨Ag, cg, Ao, co, rfl, hw1, hb1⟩ := hT.to hQ.out ht.out
    have hx1 := hx0.below hb1
    have f1 : Fz w1 w.heap.size := (Fz.new w _ _).below hb1 (by simp)
    have g0 := f1 0; have g1 := f1 1; have g2 := f1 2; have g3 := f1 3
    have hy1 := hx1; obtain ⟨l0, l1, l2, l3⟩ := hy1
    have hB1 := hB.trans (hb1.mono hB.size)
    simp only [World.size_alloc] at hw1
    have hB4 := below_set4 hB1 (Nat.le_refl _) x y Ag gs.length cg Ao os.length co
    have hx4 := BxC.set4 hx1 x y Ag gs.length cg Ao os.length co
    have hrd := (hw1.set4 (b := w.heap.size) (.inl (by omega)) x y Ag gs.length cg Ao os.length co).reads.1
    obtain ⟨m0, m1, m2, m3⟩ := hx4
    clear he
    cases t with
    | false =>
      have HV' : Hid (andsK 0 a = 0) := Lib.hid HV.out
      go_wp2
      go_ret2
      exact ⟨by rw [HV'.out]; rfl, hB4⟩
    | true =>
      have HV' : Hid (andsK 0 a = gi (cntK gs gs.length) 1) := Lib.hid HV.out
      go_wp2_with fail
      refine (countKinds_any Ag gs.length cg gs _ hrd (by omega) hkd).mono ?_
      rintro e w3 hT3
      obtain ⟨A3, c3, rfl, ho3, hb3⟩ := hT3.open_ HL
      obtain ⟨g, rfl, _, _, _⟩ := ho3.some_ (by omega)
      obtain ⟨hc, _⟩ := ho3.cellAt (k := 1) (by omega)
      go_wp2
      go_ret2
      exact ⟨by rw [HV'.out]; rfl, hB4.trans (hb3.mono hB4.size)⟩
  by_cases h1 : kd = 1
  · subst h1
    have he : circK 1 a = gadF subG 8 a := by simp [circK]
    have hD := circK_data 1 a
    obtain ⟨R, hR⟩ : ∃ R, Hid (circK 1 a = R) := ⟨_, Lib.hid rfl⟩
    rw [hR.out] at hD ⊢
    obtain ⟨x, y, gs, os, hQ⟩ : ∃ x y gs os, Hid (R.getD ⟨0, 0, [], []⟩ = ⟨x, y, gs, os⟩) := ⟨_, _, _, _, Lib.hid rfl⟩
    obtain ⟨t, ht⟩ : ∃ t, Hid (R.isSome = t) := ⟨_, Lib.hid rfl⟩
    rw [hQ.out, ht.out] at hD
    rw [ht.out]
    obtain ⟨hkd, hgl, hV⟩ := hD
    dsimp only at hkd hgl hV
    have HV := Lib.hid hV; clear hV
    have HL := cntK_len gs gs.length
    go_enter Try.func60, Try.ntmps60
    go_wp2_with fail
    refine (SubtractCircuit_any a _).mono ?_
    rintro e w1 hT
    rw [← he, hR.out] at hT
    obtain ⟨Ag, cg, Ao, co, rfl, hw1, hb1⟩ := hT.to hQ.out ht.out
    have hx1 := hx0.below hb1
    have f1 : Fz w1 w.heap.size := (Fz.new w _ _).below hb1 (by simp)
    have g0 := f1 0; have g1 := f1 1; have g2 := f1 2; have g3 := f1 3
    have hy1 := hx1; obtain ⟨l0, l1, l2, l3⟩ := hy1
    have hB1 := hB.trans (hb1.mono hB.size)
    simp only [World.size_alloc] at hw1
    have hB4 := below_set4 hB1 (Nat.le_refl _) x y Ag gs.length cg Ao os.length co
    have hx4 := BxC.set4 hx1 x y Ag gs.length cg Ao os.length co
    have hrd := (hw1.set4 (b := w.heap.size) (.inl (by omega)) x y Ag gs.length cg Ao os.length co).reads.1
    obtain ⟨m0, m1, m2, m3⟩ := hx4
    clear he
    cases t with
    | false =>
      have HV' : Hid (andsK 1 a = 0) := Lib.hid HV.out
      go_wp2
      go_ret2
      exact ⟨by rw [HV'.out]; rfl, hB4⟩
    | true =>
      have HV' : Hid (andsK 1 a = gi (cntK gs gs.length) 1) := Lib.hid HV.out
      go_wp2_with fail
      refine (countKinds_any Ag gs.length cg gs _ hrd (by omega) hkd).mono ?_
      rintro e w3 hT3
      obtain ⟨A3, c3, rfl, ho3, hb3⟩ := hT3.open_ HL
      obtain ⟨g, rfl, _, _, _⟩ := ho3.some_ (by omega)
      obtain ⟨hc, _⟩ := ho3.cellAt (k := 1) (by omega)
      go_wp2
      go_ret2
      exact ⟨by rw [HV'.out]; rfl, hB4.trans (hb3.mono hB4.size)⟩
  by_cases h2 : kd = 2
  · subst h2
    have he : circK 2 a = gadF lessG 8 a := by simp [circK]
    have hD := circK_data 2 a
    obtain ⟨R, hR⟩ : ∃ R, Hid (circK 2 a = R) := ⟨_, Lib.hid rfl⟩
    rw [hR.out] at hD ⊢
    obtain ⟨x, y, gs, os, hQ⟩ : ∃ x y gs os, Hid (R.getD ⟨0, 0, [], []⟩ = ⟨x, y, gs, os⟩) := ⟨_, _, _, _, Lib.hid rfl⟩
    obtain ⟨t, ht⟩ : ∃ t, Hid (R.isSome = t) := ⟨_, Lib.hid rfl⟩
    rw [hQ.out, ht.out] at hD
    rw [ht.out]
    obtain ⟨hkd, hgl, hV⟩ := hD
    dsimp only at hkd hgl hV
    have HV := Lib.hid hV; clear hV
    have HL := cntK_len gs gs.length
    go_enter Try.func60, Try.ntmps60
    go_wp2_with fail
    refine (LessCircuit_any a _).mono ?_
    rintro e w1 hT
    rw [← he, hR.out] at hT
    obtain ⟨Ag, cg, Ao, co, rfl, hw1, hb1⟩ := hT.to hQ.out ht.out
    have hx1 := hx0.below hb1
    have f1 : Fz w1 w.heap.size := (Fz.new w _ _).below hb1 (by simp)
    have g0 := f1 0; have g1 := f1 1; have g2 := f1 2; have g3 := f1 3
    have hy1 := hx1; obtain ⟨l0, l1, l2, l3⟩ := hy1
    have hB1 := hB.trans (hb1.mono hB.size)
    simp only [World.size_alloc] at hw1
    have hB4 := below_set4 hB1 (Nat.le_refl _) x y Ag gs.length cg Ao os.length co
    have hx4 := BxC.set4 hx1 x y Ag gs.length cg Ao os.length co
    have hrd := (hw1.set4 (b := w.heap.size) (.inl (by omega)) x y Ag gs.length cg Ao os.length co).reads.1
    obtain ⟨m0, m1, m2, m3⟩ := hx4
    clear he
    cases t with
    | false =>
      have HV' : Hid (andsK 2 a = 0) := Lib.hid HV.out
      go_wp2
      go_ret2
      exact ⟨by rw [HV'.out]; rfl, hB4⟩
    | true =>
      have HV' : Hid (andsK 2 a = gi (cntK gs gs.length) 1) := Lib.hid HV.out
      go_wp2_with fail
      refine (countKinds_any Ag gs.length cg gs _ hrd (by omega) hkd).mono ?_
      rintro e w3 hT3
      obtain ⟨A3, c3, rfl, ho3, hb3⟩ := hT3.open_ HL
      obtain ⟨g, rfl, _, _, _⟩ := ho3.some_ (by omega)
      obtain ⟨hc, _⟩ := ho3.cellAt (k := 1) (by omega)
      go_wp2
      go_ret2
      exact ⟨by rw [HV'.out]; rfl, hB4.trans (hb3.mono hB4.size)⟩
  by_cases h3 : kd = 3
  · subst h3
    have he : circK 3 a = gadF equalG 8 a := by simp [circK]
    have hD := circK_data 3 a
    obtain ⟨R, hR⟩ : ∃ R, Hid (circK 3 a = R) := ⟨_, Lib.hid rfl⟩
    rw [hR.out] at hD ⊢
    obtain ⟨x, y, gs, os, hQ⟩ : ∃ x y gs os, Hid (R.getD ⟨0, 0, [], []⟩ = ⟨x, y, gs, os⟩) := ⟨_, _, _, _, Lib.hid rfl⟩
    obtain ⟨t, ht⟩ : ∃ t, Hid (R.isSome = t) := ⟨_, Lib.hid rfl⟩
    rw [hQ.out, ht.out] at hD
    rw [ht.out]
    obtain ⟨hkd, hgl, hV⟩ := hD
    dsimp only at hkd hgl hV
    have HV := Lib.hid hV; clear hV
    have HL := cntK_len gs gs.length
    go_enter Try.func60, Try.ntmps60
    go_wp2_with fail
    refine (EqualCircuit_any a _).mono ?_
    rintro e w1 hT
    rw [← he, hR.out] at hT
    obtain ⟨Ag, cg, Ao, co, rfl, hw1, hb1⟩ := hT.to hQ.out ht.out
    have hx1 := hx0.below hb1
    have f1 : Fz w1 w.heap.size := (Fz.new w _ _).below hb1 (by simp)
    have g0 := f1 0; have g1 := f1 1; have g2 := f1 2; have g3 := f1 3
    have hy1 := hx1; obtain ⟨l0, l1, l2, l3⟩ := hy1
    have hB1 := hB.trans (hb1.mono hB.size)
    simp only [World.size_alloc] at hw1
    have hB4 := below_set4 hB1 (Nat.le_refl _) x y Ag gs.length cg Ao os.length co
    have hx4 := BxC.set4 hx1 x y Ag gs.length cg Ao os.length co
    have hrd := (hw1.set4 (b := w.heap.size) (.inl (by omega)) x y Ag gs.length cg Ao os.length co).reads.1
    obtain ⟨m0, m1, m2, m3⟩ := hx4
    clear he
    cases t with
    | false =>
      have HV' : Hid (andsK 3 a = 0) := Lib.hid HV.out
      go_wp2
      go_ret2
      exact ⟨by rw [HV'.out]; rfl, hB4⟩
    | true =>
      have HV' : Hid (andsK 3 a = gi (cntK gs gs.length) 1) := Lib.hid HV.out
      go_wp2_with fail
      refine (countKinds_any Ag gs.length cg gs _ hrd (by omega) hkd).mono ?_
      rintro e w3 hT3
      obtain ⟨A3, c3, rfl, ho3, hb3⟩ := hT3.open_ HL
      obtain ⟨g, rfl, _, _, _⟩ := ho3.some_ (by omega)
      obtain ⟨hc, _⟩ := ho3.cellAt (k := 1) (by omega)
      go_wp2
      go_ret2
      exact ⟨by rw [HV'.out]; rfl, hB4.trans (hb3.mono hB4.size)⟩
  by_cases h4 : kd = 4
  · subst h4
    have he : circK 4 a = chooseF a := by simp [circK]
    have hD := circK_data 4 a
    obtain ⟨R, hR⟩ : ∃ R, Hid (circK 4 a = R) := ⟨_, Lib.hid rfl⟩
    rw [hR.out] at hD ⊢
    obtain ⟨x, y, gs, os, hQ⟩ : ∃ x y gs os, Hid (R.getD ⟨0, 0, [], []⟩ = ⟨x, y, gs, os⟩) := ⟨_, _, _, _, Lib.hid rfl⟩
    obtain ⟨t, ht⟩ : ∃ t, Hid (R.isSome = t) := ⟨_, Lib.hid rfl⟩
    rw [hQ.out, ht.out] at hD
    rw [ht.out]
    obtain ⟨hkd, hgl, hV⟩ := hD
    dsimp only at hkd hgl hV
    have HV := Lib.hid hV; clear hV
    have HL := cntK_len gs gs.length
    go_enter Try.func60, Try.ntmps60
    go_wp2_with fail
    refine (ChooseCircuit_any a _).mono ?_
    rintro e w1 hT
    rw [← he, hR.out] at hT
    obtain ⟨Ag, cg, Ao, co, rfl, hw1, hb1⟩ := hT.to hQ.out ht.out
    have hx1 := hx0.below hb1
    have f1 : Fz w1 w.heap.size := (Fz.new w _ _).below hb1 (by simp)
    have g0 := f1 0; have g1 := f1 1; have g2 := f1 2; have g3 := f1 3
    have hy1 := hx1; obtain ⟨l0, l1, l2, l3⟩ := hy1
    have hB1 := hB.trans (hb1.mono hB.size)
    simp only [World.size_alloc] at hw1
    have hB4 := below_set4 hB1 (Nat.le_refl _) x y Ag gs.length cg Ao os.length co
    have hx4 := BxC.set4 hx1 x y Ag gs.length cg Ao os.length co
    have hrd := (hw1.set4 (b := w.heap.size) (.inl (by omega)) x y Ag gs.length cg Ao os.length co).reads.1
    obtain ⟨m0, m1, m2, m3⟩ := hx4
    clear he
    cases t with
    | false =>
      have HV' : Hid (andsK 4 a = 0) := Lib.hid HV.out
      go_wp2
      go_ret2
      exact ⟨by rw [HV'.out]; rfl, hB4⟩
    | true =>
      have HV' : Hid (andsK 4 a = gi (cntK gs gs.length) 1) := Lib.hid HV.out
      go_wp2_with fail
      refine (countKinds_any Ag gs.length cg gs _ hrd (by omega) hkd).mono ?_
      rintro e w3 hT3
      obtain ⟨A3, c3, rfl, ho3, hb3⟩ := hT3.open_ HL
      obtain ⟨g, rfl, _, _, _⟩ := ho3.some_ (by omega)
      obtain ⟨hc, _⟩ := ho3.cellAt (k := 1) (by omega)
      go_wp2
      go_ret2
      exact ⟨by rw [HV'.out]; rfl, hB4.trans (hb3.mono hB4.size)⟩
  by_cases h5 : kd = 5
  · subst h5
    have he : circK 5 a = gadF greatestG 8 a := by simp [circK]
    have hD := circK_data 5 a
    obtain ⟨R, hR⟩ : ∃ R, Hid (circK 5 a = R) := ⟨_, Lib.hid rfl⟩
    rw [hR.out] at hD ⊢
    obtain ⟨x, y, gs, os, hQ⟩ : ∃ x y gs os, Hid (R.getD ⟨0, 0, [], []⟩ = ⟨x, y, gs, os⟩) := ⟨_, _, _, _, Lib.hid rfl⟩
    obtain ⟨t, ht⟩ : ∃ t, Hid (R.isSome = t) := ⟨_, Lib.hid rfl⟩
    rw [hQ.out, ht.out] at hD
    rw [ht.out]
    obtain ⟨hkd, hgl, hV⟩ := hD
    dsimp only at hkd hgl hV
    have HV := Lib.hid hV; clear hV
    have HL := cntK_len gs gs.length
    go_enter Try.func60, Try.ntmps60
    go_wp2_with fail
    refine (GreatestCircuit_any a _).mono ?_
    rintro e w1 hT
    rw [← he, hR.out] at hT
    obtain ⟨Ag, cg, Ao, co, rfl, hw1, hb1⟩ := hT.to hQ.out ht.out
    have hx1 := hx0.below hb1
    have f1 : Fz w1 w.heap.size := (Fz.new w _ _).below hb1 (by simp)
    have g0 := f1 0; have g1 := f1 1; have g2 := f1 2; have g3 := f1 3
    have hy1 := hx1; obtain ⟨l0, l1, l2, l3⟩ := hy1
    have hB1 := hB.trans (hb1.mono hB.size)
    simp only [World.size_alloc] at hw1
    have hB4 := below_set4 hB1 (Nat.le_refl _) x y Ag gs.length cg Ao os.length co
    have hx4 := BxC.set4 hx1 x y Ag gs.length cg Ao os.length co
    have hrd := (hw1.set4 (b := w.heap.size) (.inl (by omega)) x y Ag gs.length cg Ao os.length co).reads.1
    obtain ⟨m0, m1, m2, m3⟩ := hx4
    clear he
    cases t with
    | false =>
      have HV' : Hid (andsK 5 a = 0) := Lib.hid HV.out
      go_wp2
      go_ret2
      exact ⟨by rw [HV'.out]; rfl, hB4⟩
    | true =>
      have HV' : Hid (andsK 5 a = gi (cntK gs gs.length) 1) := Lib.hid HV.out
      go_wp2_with fail
      refine (countKinds_any Ag gs.length cg gs _ hrd (by omega) hkd).mono ?_
      rintro e w3 hT3
      obtain ⟨A3, c3, rfl, ho3, hb3⟩ := hT3.open_ HL
      obtain ⟨g, rfl, _, _, _⟩ := ho3.some_ (by omega)
      obtain ⟨hc, _⟩ := ho3.cellAt (k := 1) (by omega)
      go_wp2
      go_ret2
      exact ⟨by rw [HV'.out]; rfl, hB4.trans (hb3.mono hB4.size)⟩
  by_cases h6 : kd = 6
  · subst h6
    have he : circK 6 a = gadF prodG 5 a := by simp [circK]
    have hD := circK_data 6 a
    obtain ⟨R, hR⟩ : ∃ R, Hid (circK 6 a = R) := ⟨_, Lib.hid rfl⟩
    rw [hR.out] at hD ⊢
    obtain ⟨x, y, gs, os, hQ⟩ : ∃ x y gs os, Hid (R.getD ⟨0, 0, [], []⟩ = ⟨x, y, gs, os⟩) := ⟨_, _, _, _, Lib.hid rfl⟩
    obtain ⟨t, ht⟩ : ∃ t, Hid (R.isSome = t) := ⟨_, Lib.hid rfl⟩
    rw [hQ.out, ht.out] at hD
    rw [ht.out]
    obtain ⟨hkd, hgl, hV⟩ := hD
    dsimp only at hkd hgl hV
    have HV := Lib.hid hV; clear hV
    have HL := cntK_len gs gs.length
    go_enter Try.func60, Try.ntmps60
    go_wp2_with fail
    refine (ProductCircuit_any a _).mono ?_
    rintro e w1 hT
    rw [← he, hR.out] at hT
    obtain ⟨Ag, cg, Ao, co, rfl, hw1, hb1⟩ := hT.to hQ.out ht.out
    have hx1 := hx0.below hb1
    have f1 : Fz w1 w.heap.size := (Fz.new w _ _).below hb1 (by simp)
    have g0 := f1 0; have g1 := f1 1; have g2 := f1 2; have g3 := f1 3
    have hy1 := hx1; obtain ⟨l0, l1, l2, l3⟩ := hy1
    have hB1 := hB.trans (hb1.mono hB.size)
    simp only [World.size_alloc] at hw1
    have hB4 := below_set4 hB1 (Nat.le_refl _) x y Ag gs.length cg Ao os.length co
    have hx4 := BxC.set4 hx1 x y Ag gs.length cg Ao os.length co
    have hrd := (hw1.set4 (b := w.heap.size) (.inl (by omega)) x y Ag gs.length cg Ao os.length co).reads.1
    obtain ⟨m0, m1, m2, m3⟩ := hx4
    clear he
    cases t with
    | false =>
      have HV' : Hid (andsK 6 a = 0) := Lib.hid HV.out
      go_wp2
      go_ret2
      exact ⟨by rw [HV'.out]; rfl, hB4⟩
    | true =>
      have HV' : Hid (andsK 6 a = gi (cntK gs gs.length) 1) := Lib.hid HV.out
      go_wp2_with fail
      refine (countKinds_any Ag gs.length cg gs _ hrd (by omega) hkd).mono ?_
      rintro e w3 hT3
      obtain ⟨A3, c3, rfl, ho3, hb3⟩ := hT3.open_ HL
      obtain ⟨g, rfl, _, _, _⟩ := ho3.some_ (by omega)
      obtain ⟨hc, _⟩ := ho3.cellAt (k := 1) (by omega)
      go_wp2
      go_ret2
      exact ⟨by rw [HV'.out]; rfl, hB4.trans (hb3.mono hB4.size)⟩
  have HR : Hid (circK kd a = none) := Lib.hid (by simp [circK, h0, h1, h2, h3, h4, h5, h6])
  have HV : Hid (andsK kd a = 0) := Lib.hid (by simp [andsK, HR.out])
  have z0 : (kd == 0) = false := by simpa using h0
  have z1 : (kd == 1) = false := by simpa using h1
  have z2 : (kd == 2) = false := by simpa using h2
  have z3 : (kd == 3) = false := by simpa using h3
  have z4 : (kd == 4) = false := by simpa using h4
  have z5 : (kd == 5) = false := by simpa using h5
  have z6 : (kd == 6) = false := by simpa using h6
  clear h0 h1 h2 h3 h4 h5 h6
  go_enter Try.func60, Try.ntmps60
  go_wp2
  go_ret2
  exact ⟨by rw [HR.out, HV.out]; rfl, hB⟩

end Go.Proofs.Ytgmcedfpnnmkeaa
