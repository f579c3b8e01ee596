/- Contracts of DependsOn. -/
import Derived.Test.YtjjphaiomaiilaaQPut
import Derived.Test.YtjjphaiomaiilaaQTable4
namespace Go.Proofs.Ytjjphaiomaiilaa
open Go.RowKit
set_option linter.unusedVariables false
set_option linter.unusedSimpArgs false

/-- Turning input i changes one of the first m values. -/
def anyP (v : List Int) (i m : Nat) : Bool := (List.range m).any fun n => decide (gi v (n ^^^ 2 ^ i) ≠ gi v n)
theorem anyP_zero (v : List Int) (i : Nat) : anyP v i 0 = false := rfl
theorem anyP_succ (v : List Int) (i m : Nat) : anyP v i (m + 1) = (anyP v i m || decide (gi v (m ^^^ 2 ^ i) ≠ gi v m)) := by simp [anyP, List.range_succ]
/-- The inputs below k that change one of the N values. -/
def depL (v : List Int) (N k : Nat) : List Int := ((List.range k).filter fun i => anyP v i N).map fun i : Nat => (i : Int)
theorem depL_zero (v : List Int) (N : Nat) : depL v N 0 = [] := rfl
theorem depL_succ (v : List Int) (N k : Nat) : depL v N (k + 1) = if anyP v k N = true then depL v N k ++ [(k : Int)] else depL v N k := by
  by_cases h : anyP v k N = true
  · simp [depL, List.range_succ, h]
  · simp [depL, List.range_succ, h]
theorem depL_lt (v : List Int) (N k : Nat) : ∀ z ∈ depL v N k, z < (k : Int) := by
  intro z hz
  simp only [depL, List.mem_map, List.mem_filter, List.mem_range] at hz
  obtain ⟨i, ⟨hi, _⟩, rfl⟩ := hz
  omega
theorem depL_len (v : List Int) (N k : Nat) : (depL v N k).length ≤ k := by
  have := List.length_filter_le (fun i => anyP v i N) (List.range k)
  simpa [depL] using this
/-- The list in the midst of the round of input i. -/
def depM (v : List Int) (N i m : Nat) : List Int := if anyP v i m = true then depL v N i ++ [(i : Int)] else depL v N i
theorem depM_zero (v : List Int) (N i : Nat) : depM v N i 0 = depL v N i := by simp [depM, anyP_zero]
theorem depM_all (v : List Int) (N i : Nat) : depM v N i N = depL v N (i + 1) := by rw [depL_succ, depM]
theorem depM_same {v : List Int} {N i m : Nat} (h : gi v (m ^^^ 2 ^ i) = gi v m) : depM v N i (m + 1) = depM v N i m := by
  simp [depM, anyP_succ, h]
theorem depM_put {v : List Int} {N i m : Nat} (h : gi v (m ^^^ 2 ^ i) ≠ gi v m) : depM v N i (m + 1) = putL (depM v N i m) i := by
  have h1 : anyP v i (m + 1) = true := by rw [anyP_succ]; simp [h]
  unfold depM
  rw [if_pos h1]
  split
  · rw [putL_again (depL_lt v N i)]
  · rw [putL_last (depL_lt v N i)]
theorem depM_len (v : List Int) (N i m : Nat) : (depM v N i m).length ≤ i + 1 := by
  have := depL_len v N i
  unfold depM
  split
  · simp; omega
  · omega
def depF (x y : Int) (gs : List G3) (os : List Int) (k : Int) : Option (List Int) := (columnF x y gs os k).map fun v => depL v (2 ^ (x + y).toNat) (x + y).toNat
theorem depF_len (x y : Int) (gs : List G3) (os : List Int) (k : Int) : ((depF x y gs os k).getD []).length ≤ 10 := by
  unfold depF columnF
  split
  · rename_i h
    simp only [Bool.and_eq_true] at h
    obtain ⟨h1, h2, h3⟩ := smallB_bd h.1
    have := depL_len (colN gs os (x + y).toNat k.toNat) (2 ^ (x + y).toNat) (x + y).toNat
    simp only [Option.map_some, Option.getD_some]; omega
  · simp
theorem xor_bd {m i X N P : Nat} (hN : N = 2 ^ X) (hP : P = 2 ^ i) (hm : m < N) (hi : i < X) : m ^^^ P < N := by
  subst hN; subst hP
  exact Nat.xor_lt_two_pow hm (Nat.pow_lt_pow_right (by omega) hi)
theorem xor_val {m P : Nat} (hm : m < 4096) (hP : P < 4096) : bits .xor .i64 (m : Int) (P : Int) = ((m ^^^ P : Nat) : Int) := bxor_nat (by omega) (by omega)

set_option maxRecDepth 100000 in
set_option maxHeartbeats 1600000 in
theorem spec_DependsOn_any (x y : Int) (Ag : Option Addr) (ng cg : Nat) (Ao : Option Addr) (no co : Nat) (k : Int) (gs : List G3) (os : List Int) (w : World) (hr : RG w Ag ng gs ∧ RI w Ao no os) (hng : ng ≤ 2097152) (hno : no ≤ 2097152) :
    Calls Try.prog 6 #[.agg #[.int .i64 x, .int .i64 y, .slice Ag ng cg, .slice Ao no co], .int .i64 k] w (RetO w (depF x y gs os k)) := by
  have hB : Below w.heap.size w (w.alloc (.cells #[.int .i64 x, .int .i64 y, .slice Ag ng cg, .slice Ao no co] 26)) := (Below.refl _ _).alloc (Nat.le_refl _) _
  have hlg := hr.1.len
  have hlo := hr.2.len
  cases h0 : smallB x y gs os 40 with
  | false =>
    have HR : Hid (depF x y gs os k = none) := Lib.hid (by simp [depF, columnF, h0])
    have H0 := Lib.hid h0; clear h0
    go_enter Try.func6, Try.ntmps6
    go_wp2_with fail
    refine (siSmall_any x y Ag ng cg Ao no co gs os _ ⟨hr.1.below hB (Nat.le_refl _), hr.2.below hB (Nat.le_refl _)⟩ hng hno).mono ?_
    rintro e v1 ⟨rfl, hb1⟩
    rw [H0.out]
    go_wp2
    go_ret2
    exact RetO.none_ (hB.trans (hb1.mono hB.size)) HR.out rfl
  | true =>
    obtain ⟨h1, h2, h3⟩ := smallB_bd h0
    obtain ⟨⟨b1, b2⟩, ⟨b3, b4⟩, b5, b6, b7, b8⟩ := circB_bd h1
    cases h4 : inB 0 ((no : Int) - 1) k with
    | false =>
      have HR : Hid (depF x y gs os k = none) := Lib.hid (by simp [depF, columnF, h4, hlo])
      have H0 := Lib.hid h0; have H4 := Lib.hid h4; clear h0 h4 h1 b7 b8
      go_enter Try.func6, Try.ntmps6
      go_wp2_with fail
      refine (siSmall_any x y Ag ng cg Ao no co gs os _ ⟨hr.1.below hB (Nat.le_refl _), hr.2.below hB (Nat.le_refl _)⟩ hng hno).mono ?_
      rintro e v1 ⟨rfl, hb1⟩
      rw [H0.out]
      obtain ⟨hc1, hf1⟩ := bcell hb1
      have hz1 := hb1.size
      simp only [World.size_alloc] at hz1
      have hz1' : w.heap.size < v1.heap.size := by omega
      go_wp2_with fail
      refine (l1In_any k 0 ((no : Int) - 1) false H4.out _).mono ?_
      rintro e v2 ⟨rfl, rfl⟩
      go_wp2
      go_ret2
      exact RetO.none_ (hB.trans (hb1.mono hB.size)) HR.out rfl
    | true =>
      obtain ⟨c1, c2⟩ := inB_iff.1 h4
      obtain ⟨q, rfl⟩ := Int.eq_ofNat_of_zero_le c1
      obtain ⟨X, hX⟩ : ∃ X : Nat, x + y = X := ⟨(x + y).toNat, by omega⟩
      have hXt : (x + y).toNat = X := by omega
      rw [hX] at b7 b8
      obtain ⟨N, hN⟩ : ∃ N, N = 2 ^ X := ⟨_, rfl⟩
      have hP := (pow_wrap hN (by omega)).1
      obtain ⟨V, hV⟩ : ∃ V, V = tab N fun n => gi (outsN gs os X n) q := ⟨_, rfl⟩
      have HR : Hid (depF x y gs os q = some (depL V N X)) := Lib.hid (by simp [depF, columnF, h4, h0, hlo, hXt, colN, ← hN, hV])
      have hVl : V.length = N := by rw [hV, tab_len]
      have HV := Lib.hid hV; clear hV
      have HN := Lib.hid hN; clear hN
      have H0 := Lib.hid h0; have H4 := Lib.hid h4; have H7 := Lib.hid b7; have H8 := Lib.hid b8; clear h0 h4 h1 b7 b8
      go_enter Try.func6, Try.ntmps6
      go_wp2_with fail
      refine (siSmall_any x y Ag ng cg Ao no co gs os _ ⟨hr.1.below hB (Nat.le_refl _), hr.2.below hB (Nat.le_refl _)⟩ hng hno).mono ?_
      rintro e v1 ⟨rfl, hb1⟩
      rw [H0.out]
      obtain ⟨hc1, hf1⟩ := bcell hb1
      have hz1 := hb1.size
      simp only [World.size_alloc] at hz1 hb1
      have hz1' : w.heap.size < v1.heap.size := by omega
      have hB1 := hB.trans (hb1.mono (by omega))
      go_wp2_with fail
      refine (l1In_any q 0 ((no : Int) - 1) true H4.out _).mono ?_
      rintro e v2 ⟨rfl, rfl⟩
      go_wp2_with fail
      refine (siOut_any x y Ag ng cg Ao no co gs os X N q _ ⟨hr.1.below hB1 (Nat.le_refl _), hr.2.below hB1 (Nat.le_refl _)⟩ (by omega) (by omega) hX (by omega) HN.out H7.out H8.out (by omega) (by omega) (by omega)).mono ?_
      rintro e v3 hT
      obtain ⟨At, ct, rfl, hownT, hb3⟩ := hT.open_ (tab_len _ _)
      rw [← HV.out] at hownT
      have hz3 := hb3.size
      have hB3 := hB1.trans (hb3.mono hB1.size)
      have hbx := hb1.trans (hb3.mono (by omega))
      have hV3 := hownT.reads
      clear hc1 hf1 hownT hb1 hb3
      go_wp2_with fail
      go_loopw [7, 8] (fun v i wr => ∃ (j : Nat) (A' : Option Addr) (c' : Nat), j ≤ X ∧ i = .int .i64 j ∧ v = .slice A' (depL V N j).length c' ∧ Own wr v3.heap.size wr.heap.size (.slice A' (depL V N j).length c') (depL V N j).length (depL V N j) ∧ Below v3.heap.size v3 wr) (fun _ i _ => X - (intOf i).toNat)
      case atStart => exact ⟨0, _, _, Nat.zero_le _, rfl, rfl, Own.none_ _ _ _, Below.refl _ _⟩
      case round =>
        obtain ⟨j, A', c', hj, rfl, rfl, hown, hb⟩ := hrel
        have hq0 := box_at (hbx.trans (hb.mono (by omega)))
        obtain ⟨k0, k1, k2, k3⟩ := hq0
        have hz := hb.size
        go_wp2_with fail
        refine (ciInputs_any x y Ag ng cg Ao no co _ (by omega) (by omega)).mono ?_
        rintro e w0 ⟨rfl, hb0⟩
        rw [hX]
        have hown0 := (hown.below hb0 (.inl (Nat.le_refl _))).now
        have hbw0 := hb.trans (hb0.mono hz)
        clear k0 k1 k2 k3 hown hb hb0
        by_cases hlt : j < X
        · obtain ⟨P, hPi⟩ : ∃ P, P = 2 ^ j := ⟨_, rfl⟩
          have hw := pow_wrap hPi (by omega)
          have hPb := hw.1
          have HW := Lib.hid hw.2; clear hw
          have HX := Lib.hid fun m (hm : m < N) => xor_bd HN.out hPi hm hlt
          have HPi := Lib.hid hPi; clear hPi
          have hst := And.intro hown0 hbw0
          have hM0 : Hid (depM V N j 0 = depL V N j) := Lib.hid (depM_zero V N j)
          clear hown0 hbw0
          go_wp2_with fail
          go_loopw [7, 34] (fun v i wr => ∃ (m : Nat) (A' : Option Addr) (c' : Nat), m ≤ N ∧ i = .int .i64 m ∧ v = .slice A' (depM V N j m).length c' ∧ Own wr v3.heap.size wr.heap.size (.slice A' (depM V N j m).length c') (depM V N j m).length (depM V N j m) ∧ Below v3.heap.size v3 wr) (fun _ i _ => N - (intOf i).toNat)
          case atStart => exact ⟨0, _, _, Nat.zero_le _, rfl, by rw [hM0.out], by rw [hM0.out]; exact hst.1, hst.2⟩
          case round =>
            clear hst hM0
            obtain ⟨m, A', c', hm, rfl, rfl, hown, hb⟩ := hrel
            have hz2 := hb.size
            by_cases hltm : m < N
            · obtain ⟨b', o', rfl, hbB, e1⟩ := (hV3.below hb (Nat.le_refl _)).at_ (k := m) hltm
              have hxm := HX.out m hltm
              obtain ⟨b2', o2, hA2, hbB2, e2⟩ := (hV3.below hb (Nat.le_refl _)).at_ (k := m ^^^ P) hxm
              injection hA2 with hA2
              injection hA2 with g1 g2
              subst g1; subst g2
              have hxv : bits .xor .i64 (m : Int) (P : Int) = ((m ^^^ P : Nat) : Int) := xor_val (by omega) (by omega)
              have hsh := HW.out
              have hml := depM_len V N j m
              by_cases hne : gi V (m ^^^ P) = gi V m
              · have hsn : Hid (depM V N j (m + 1) = depM V N j m) := Lib.hid (depM_same (by rw [← HPi.out]; exact hne))
                rw [hne] at e2
                have hnn : (gi V m != gi V m) = false := by simp
                generalize gi V m = Y at *
                generalize m ^^^ P = z at *
                generalize depM V N j m = L at *
                clear hV3 hne
                go_wp2
                go_roundw
                case rel => exact ⟨m + 1, A', c', by omega, by go_num, by rw [hsn.out], by rw [hsn.out]; exact hown, hb⟩
                case measure => simp [intOf]; omega
              · have hsn : Hid (depM V N j (m + 1) = putL (depM V N j m) j) := Lib.hid (depM_put (by rw [← HPi.out]; exact hne))
                have hnn : (gi V (m ^^^ P) != gi V m) = true := by simpa using hne
                generalize gi V (m ^^^ P) = Z at *
                generalize gi V m = Y at *
                generalize m ^^^ P = z at *
                generalize depM V N j m = L at *
                clear hV3 hne
                go_wp2_with fail
                refine (l1Put_any A' L.length c' _ _ L (j : Int) _ hown hz2 (by omega)).mono ?_
                rintro e w5 ⟨A5, c5, rfl, hown5, hb5⟩
                rw [← hsn.out] at hown5 ⊢
                have hb6 := hb.trans (hb5.mono hz2)
                clear hown hb hb5 e1 e2
                go_wp2
                go_roundw
                case rel => exact ⟨m + 1, A5, c5, by omega, by go_num, rfl, hown5, hb6⟩
                case measure => simp [intOf]; omega
            · obtain rfl : N = m := Nat.le_antisymm (Nat.le_of_not_lt hltm) hm
              have hA : Hid (depM V N j N = depL V N (j + 1)) := Lib.hid (depM_all V N j)
              rw [hA.out] at hown ⊢
              go_wp2
              go_roundw
              case rel => exact ⟨j + 1, A', c', by omega, by go_num, rfl, hown, hb⟩
              case measure => simp [intOf]; omega
        · obtain rfl : j = X := Nat.le_antisymm hj (Nat.le_of_not_lt hlt)
          go_wp2
          go_ret2
          exact RetO.some_ (hB3.trans (hbw0.mono hB3.size)) HR.out rfl rfl (hown0.lo_ hB3.size)

set_option maxRecDepth 100000 in
set_option maxHeartbeats 1600000 in
theorem DependsOn_any (x y : Int) (Ag : Option Addr) (ng cg : Nat) (Ao : Option Addr) (no co : Nat) (k : Int) (gs : List G3) (os : List Int) (w : World) (hr : RG w Ag ng gs ∧ RI w Ao no os) (hng : ng ≤ 2097152) (hno : no ≤ 2097152) :
    Calls Try.prog 5 #[.agg #[.int .i64 x, .int .i64 y, .slice Ag ng cg, .slice Ao no co], .int .i64 k] w (RetO w (depF x y gs os k)) := by
  have hB : Below w.heap.size w (w.alloc (.cells #[.int .i64 x, .int .i64 y, .slice Ag ng cg, .slice Ao no co] 26)) := (Below.refl _ _).alloc (Nat.le_refl _) _
  have hlg := hr.1.len
  have hlo := hr.2.len
  cases h0 : columnF x y gs os k with
  | none =>
    have HR : Hid (depF x y gs os k = none) := Lib.hid (by simp [depF, h0])
    have H0 := Lib.hid h0; clear h0
    go_enter Try.func5, Try.ntmps5
    go_wp2_with fail
    refine (column_any x y Ag ng cg Ao no co k gs os _ ⟨hr.1.below hB (Nat.le_refl _), hr.2.below hB (Nat.le_refl _)⟩ hng hno).mono ?_
    rintro e v1 hT
    rw [H0.out] at hT
    obtain ⟨A1, c1, rfl, hown1, hb1⟩ := hT
    simp only [Option.getD_none, Option.isSome_none] at hown1 ⊢
    go_wp2
    go_ret2
    exact RetO.none_ (hB.trans (hb1.mono hB.size)) HR.out rfl
  | some V =>
    have hcol := h0
    unfold columnF at hcol
    split at hcol
    rotate_left
    · cases hcol
    rename_i hcond
    simp only [Bool.and_eq_true] at hcond
    obtain ⟨h1, h2, h3⟩ := smallB_bd hcond.1
    obtain ⟨⟨b1, b2⟩, ⟨b3, b4⟩, _⟩ := circB_bd h1
    obtain ⟨X, hX⟩ : ∃ X : Nat, x + y = X := ⟨(x + y).toNat, by omega⟩
    have hXt : (x + y).toNat = X := by omega
    obtain ⟨N, hN⟩ : ∃ N, N = 2 ^ X := ⟨_, rfl⟩
    have hP := (pow_wrap hN (by omega)).1
    have hVl : V.length = N := by
      simp only [Option.some.injEq] at hcol
      rw [← hcol, colN_len, hXt, hN]
    have HR : Hid (depF x y gs os k = some (depL V N X)) := Lib.hid (by simp [depF, h0, hXt, hN])
    have HN := Lib.hid hN; clear hN
    have H0 := Lib.hid h0; clear h0 hcol hcond h1
    go_enter Try.func5, Try.ntmps5
    go_wp2_with fail
    refine (column_any x y Ag ng cg Ao no co k gs os _ ⟨hr.1.below hB (Nat.le_refl _), hr.2.below hB (Nat.le_refl _)⟩ hng hno).mono ?_
    rintro e v1 hT
    rw [H0.out] at hT
    obtain ⟨A1, c1, rfl, hown1, hb1⟩ := hT
    simp only [Option.getD_some, Option.isSome_some] at hown1 ⊢
    rw [hVl] at hown1 ⊢
    have hV1 := hown1.reads
    have hz1 := hb1.size
    simp only [World.size_alloc] at hz1 hb1
    have hB1 := hB.trans (hb1.mono (by omega))
    have hq0 := box_at hb1
    obtain ⟨k0, k1, k2, k3⟩ := hq0
    have hbA := (Below.refl v1.heap.size v1).alloc (Nat.le_refl _) (.cells #[] 3)
    have j0 := cell_below k0 hbA
    have j1 := cell_below k1 hbA
    have j2 := cell_below k2 hbA
    have j3 := cell_below k3 hbA
    clear k0 k1 k2 k3 hown1
    go_wp2_with fail
    refine (Circuit_inputs_any x y Ag ng cg Ao no co _ (by omega) (by omega)).mono ?_
    rintro e v2 ⟨rfl, hb2⟩
    rw [hX]
    have hz2 := hb2.size
    simp only [World.size_alloc] at hz2 hb2
    have hown2 := ((Own_new0 v1 v1.heap.size (Nat.le_refl _)).below hb2 (.inl (by simp))).now
    have hbw2 := hbA.trans (hb2.mono (by omega))
    have hst := And.intro hown2 hbw2
    clear hown2 hbw2 hbA j0 j1 j2 j3 hb2
    go_wp2_with fail
    go_loopw [8, 24] (fun v i wr => ∃ (j : Nat) (A' : Option Addr) (c' : Nat), j ≤ X ∧ i = .int .i64 j ∧ v = .slice A' (depL V N j).length c' ∧ Own wr v1.heap.size wr.heap.size (.slice A' (depL V N j).length c') (depL V N j).length (depL V N j) ∧ Below v1.heap.size v1 wr) (fun _ i _ => X - (intOf i).toNat)
    case atStart => exact ⟨0, _, _, Nat.zero_le _, rfl, rfl, hst.1, hst.2⟩
    case round =>
      clear hst
      obtain ⟨j, A', c', hj, rfl, rfl, hown, hb⟩ := hrel
      have hz := hb.size
      by_cases hlt : j < X
      · obtain ⟨P, hPi⟩ : ∃ P, P = 2 ^ j := ⟨_, rfl⟩
        have hw := pow_wrap hPi (by omega)
        have hPb := hw.1
        have HW := Lib.hid hw.2; clear hw
        have HX := Lib.hid fun m (hm : m < N) => xor_bd HN.out hPi hm hlt
        have HPi := Lib.hid hPi; clear hPi
        have hz0 : Hid (anyP V j 0 = false) := Lib.hid (anyP_zero V j)
        have hVr := hV1.below hb (Nat.le_refl _)
        have hll := depL_len V N j
        go_wp2_with fail
        go_loop [10, 29] (fun f i => ∃ m : Nat, m ≤ N ∧ i = .int .i64 m ∧ f = .bool (anyP V j m)) (fun _ i => N - (intOf i).toNat)
        case atStart => exact ⟨0, Nat.zero_le _, rfl, by rw [hz0.out]⟩
        case round =>
          clear hz0
          obtain ⟨m, hm, rfl, rfl⟩ := hrel
          by_cases hltm : m < N
          · obtain ⟨b', o', rfl, hbB, e1⟩ := hVr.at_ (k := m) hltm
            have hxm := HX.out m hltm
            obtain ⟨b2', o2, hA2, hbB2, e2⟩ := hVr.at_ (k := m ^^^ P) hxm
            injection hA2 with hA2
            injection hA2 with g1 g2
            subst g1; subst g2
            have hxv : bits .xor .i64 (m : Int) (P : Int) = ((m ^^^ P : Nat) : Int) := xor_val (by omega) (by omega)
            have hsh := HW.out
            have hsn : Hid (anyP V j (m + 1) = (anyP V j m || (gi V m != gi V (m ^^^ P)))) := Lib.hid (by
              rw [anyP_succ, ← HPi.out]
              by_cases h : gi V m = gi V (m ^^^ P)
              · simp [h]
              · have h' : ¬ gi V (m ^^^ P) = gi V m := fun hc => h hc.symm
                simp [h, h'])
            generalize gi V (m ^^^ P) = Z at *
            generalize gi V m = Y at *
            generalize m ^^^ P = z at *
            generalize anyP V j m = F at *
            clear hV1 hVr
            cases F with
            | true =>
              go_wp2
              go_round
              case rel => exact ⟨m + 1, by omega, by go_num, by rw [hsn.out]; rfl⟩
              case measure => simp [intOf]; omega
            | false =>
              go_wp2
              go_round
              case rel => exact ⟨m + 1, by omega, by go_num, by rw [hsn.out]; rfl⟩
              case measure => simp [intOf]; omega
          · obtain rfl : N = m := Nat.le_antisymm (Nat.le_of_not_lt hltm) hm
            cases hF : anyP V j N with
            | true =>
              have hA : Hid (depL V N (j + 1) = depL V N j ++ [(j : Int)]) := Lib.hid (by rw [depL_succ, if_pos hF])
              have hLl : Hid ((depL V N (j + 1)).length = (depL V N j).length + 1) := Lib.hid (by rw [hA.out]; simp)
              have hownA := hown.alloc (.cells #[.int .i64 (j : Int)] 3)
              have hbB := hb.alloc hz (.cells #[.int .i64 (j : Int)] 3)
              generalize depL V N j = L at *
              clear hV1 hVr hown hb
              go_wp2_with (at_builtin; refine wpList_app _ rfl _ _ rfl rfl hownA rfl (RI_one _ _ _ _ (by simp)) (by omega) (by first | omega | (simp; done) | (simp; omega)) ?_; intro A5 c5 w5 hown5 hg5 hat5)
              have hb5 := below_app hbB hownA hg5 (by simp; omega) (Nat.le_refl _)
              rw [← hA.out, ← hLl.out] at hown5
              clear hownA hbB hg5 hat5
              go_wp2
              go_roundw
              case rel => exact ⟨j + 1, A5, c5, by omega, by go_num, by rw [hLl.out], hown5, hb5⟩
              case measure => simp [intOf]; omega
            | false =>
              have hA : Hid (depL V N (j + 1) = depL V N j) := Lib.hid (by rw [depL_succ, if_neg (by rw [hF]; decide)])
              generalize depL V N j = L at *
              clear hV1 hVr
              go_wp2
              go_roundw
              case rel => exact ⟨j + 1, A', c', by omega, by go_num, by rw [hA.out], by rw [hA.out]; exact hown, hb⟩
              case measure => simp [intOf]; omega
      · obtain rfl : j = X := Nat.le_antisymm hj (Nat.le_of_not_lt hlt)
        go_wp2
        go_ret2
        exact RetO.some_ (hB1.trans (hb.mono hB1.size)) HR.out rfl rfl (hown.lo_ hB1.size)

end Go.Proofs.Ytjjphaiomaiilaa
