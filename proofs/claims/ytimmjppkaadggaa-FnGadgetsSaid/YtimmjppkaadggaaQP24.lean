/- Numbers as inputs: RunWith of both hands, whatever the circuit and the numbers. Plain facts: the circuit that counts bits. No program in sight. -/
import Derived.Test.YtimmjppkaadggaaQP23
import Derived.Test.YtimmjppkaadggaaQP21
namespace Go.Proofs.Ytimmjppkaadggaa
open Go.RowKit
set_option linter.unusedVariables false
set_option linter.unusedSimpArgs false
attribute [local go_sem] sepAt sepUpon pureAt pureUpon
def runF (x y : Int) (gs : List G3) (os : List Int) (a b : Int) : Option Int :=
  if circB x y gs os && decide (os.length ≤ 16) && (inB 0 16 x && inB 0 (2 ^ x.toNat - 1) a) && (inB 0 16 y && inB 0 (2 ^ y.toNat - 1) b) then some (ans ⟨gs, os⟩ (bitsN a.toNat x.toNat ++ bitsN b.toNat y.toNat)) else none
theorem pow_i {k : Nat} (h : k ≤ 16) : ∃ N : Nat, 2 ^ k = N ∧ (2 : Int) ^ k = N ∧ 1 ≤ N ∧ N ≤ 65536 :=
  ⟨2 ^ k, rfl, by simp, Nat.one_le_two_pow, Nat.le_trans (Nat.pow_le_pow_right (by omega) h) (by decide)⟩
def RetN (w : World) (o : Option Int) (e : Ending) (w' : World) : Prop := e = .returned (.tuple #[.int .i64 (o.getD 0), .bool o.isSome]) ∧ Below w.heap.size w w'
theorem RetN.none_ {w w' : World} {o : Option Int} {e : Ending} (ho : o = none) (he : e = .returned (.tuple #[.int .i64 0, .bool false])) (hb : Below w.heap.size w w') : RetN w o e w' := by
  subst ho; exact ⟨he, hb⟩
theorem runF_1 {x y : Int} {gs : List G3} {os : List Int} {a b : Int} (h : circB x y gs os = false) : runF x y gs os a b = none := by
  unfold runF; rw [h]; rfl
theorem runF_2 {x y : Int} {gs : List G3} {os : List Int} {a b : Int} (h : ¬ os.length ≤ 16) : runF x y gs os a b = none := by
  unfold runF; rw [if_neg]; simp; intro _ h2; omega
theorem runF_3 {x y : Int} {gs : List G3} {os : List Int} {a b : Int} (h : (inB 0 16 x && inB 0 (2 ^ x.toNat - 1) a) = false) : runF x y gs os a b = none := by
  unfold runF; rw [h]; simp
theorem runF_4 {x y : Int} {gs : List G3} {os : List Int} {a b : Int} (h : (inB 0 16 y && inB 0 (2 ^ y.toNat - 1) b) = false) : runF x y gs os a b = none := by
  unfold runF; rw [h]; simp
theorem runF_5 {x y : Int} {gs : List G3} {os : List Int} {a b : Int} (h : circB x y gs os = true) (h2 : os.length ≤ 16) (h3 : (inB 0 16 x && inB 0 (2 ^ x.toNat - 1) a) = true) (h4 : (inB 0 16 y && inB 0 (2 ^ y.toNat - 1) b) = true) :
    ∃ X Y u v : Nat, x = X ∧ y = Y ∧ a = u ∧ b = v ∧ X ≤ 16 ∧ Y ≤ 16 ∧ u < 2 ^ X ∧ v < 2 ^ Y ∧ runF x y gs os a b = some (ans ⟨gs, os⟩ (bitsN u X ++ bitsN v Y)) := by
  have hr : runF x y gs os a b = some (ans ⟨gs, os⟩ (bitsN a.toNat x.toNat ++ bitsN b.toNat y.toNat)) := by
    unfold runF; rw [h, h3, h4, if_pos]; simpa using h2
  simp only [Bool.and_eq_true, inB_iff] at h3 h4
  obtain ⟨X, rfl⟩ : ∃ X : Nat, x = X := ⟨x.toNat, by omega⟩
  obtain ⟨Y, rfl⟩ : ∃ Y : Nat, y = Y := ⟨y.toNat, by omega⟩
  obtain ⟨u, rfl⟩ : ∃ u : Nat, a = u := ⟨a.toNat, by omega⟩
  obtain ⟨v, rfl⟩ : ∃ v : Nat, b = v := ⟨b.toNat, by omega⟩
  have e1 : ((2 : Int) ^ ((X : Nat) : Int).toNat) = ((2 ^ X : Nat) : Int) := by simp
  have e2 : ((2 : Int) ^ ((Y : Nat) : Int).toNat) = ((2 ^ Y : Nat) : Int) := by simp
  rw [e1] at h3
  rw [e2] at h4
  exact ⟨X, Y, u, v, rfl, rfl, rfl, rfl, by omega, by omega, by have := Nat.one_le_two_pow (n := X); omega, by have := Nat.one_le_two_pow (n := Y); omega, hr⟩
set_option maxRecDepth 100000 in
set_option maxHeartbeats 3000000 in
theorem RunWith_any (x y : Int) (Ag : Option Addr) (ng cg : Nat) (Ao : Option Addr) (no co : Nat) (a b : Int) (gs : List G3) (os : List Int) (w : World) (hr : RG w Ag ng gs ∧ RI w Ao no os) (hng : ng ≤ 2097152) (hno : no ≤ 2097152) :
    Calls Try.prog 6 #[.agg #[.int .i64 x, .int .i64 y, .slice Ag ng cg, .slice Ao no co], .int .i64 a, .int .i64 b] w (RetN w (runF x y gs os a b)) := by
  have hB : Below w.heap.size w (w.alloc (.cells #[.int .i64 x, .int .i64 y, .slice Ag ng cg, .slice Ao no co] 27)) := (Below.refl _ _).alloc (Nat.le_refl _) _
  have hx0 : BxC (w.alloc (.cells #[.int .i64 x, .int .i64 y, .slice Ag ng cg, .slice Ao no co] 27)) w.heap.size x y Ag ng cg Ao no co := BxC.new w _
  have hlg := hr.1.len
  have hlo := hr.2.len
  have hq := hx0; obtain ⟨k0, k1, k2, k3⟩ := hq
  cases hc : circB x y gs os with
  | false =>
    have HR : Hid (runF x y gs os a b = none) := Lib.hid (runF_1 hc)
    have H0 := Lib.hid hc; clear hc
    go_enter Try.func6, Try.ntmps6
    go_wp2_with fail
    refine (IsCircuit_any _ _ Ag ng cg Ao no co gs os _ (hr.1.below hB (Nat.le_refl _)) (hr.2.below hB (Nat.le_refl _)) hng hno).mono ?_
    rintro e v1 ⟨rfl, b1⟩
    rw [H0.out]
    go_wp2
    go_ret2
    exact RetN.none_ HR.out rfl (hB.trans (b1.mono hB.size))
  | true =>
    have hcb := circB_bd hc
    have H0 := Lib.hid hc
    by_cases h16 : no ≤ 16
    · have g1 : ¬ (16 : Int) < no := by omega
      have g2 : ¬ 16 < no := by omega
      cases hxa : (inB 0 16 x && inB 0 (2 ^ x.toNat - 1) a) with
      | false =>
        have HR : Hid (runF x y gs os a b = none) := Lib.hid (runF_3 hxa)
        by_cases hx16 : x ≤ 16
        · obtain ⟨X, rfl⟩ : ∃ X : Nat, x = X := ⟨x.toNat, by omega⟩
          obtain ⟨N, hN, hNi, hN1, hN2⟩ := pow_i (k := X) (by omega)
          have hta : ((X : Nat) : Int).toNat = X := by simp
          have hsa : IntKind.i64.wrap ((N : Int) - 1) = (N : Int) - 1 := by rw [IntKind.wrap_i64] <;> omega
          rw [inB_t (show (0 : Int) ≤ X ∧ (X : Int) ≤ 16 by omega), hta, hNi, Bool.true_and] at hxa
          have HA := Lib.hid hxa
          have g3 : ¬ (16 : Int) < X := by omega
          have g4 : ¬ 16 < X := by omega
          clear hxa hc
          by_cases hy16 : y ≤ 16
          · have g5 : ¬ (16 : Int) < y := by omega
            go_enter Try.func6, Try.ntmps6
            go_wp2_with fail
            refine (IsCircuit_any _ _ Ag ng cg Ao no co gs os _ (hr.1.below hB (Nat.le_refl _)) (hr.2.below hB (Nat.le_refl _)) hng hno).mono ?_
            rintro e v1 ⟨rfl, b1⟩
            rw [H0.out]
            have hq := hx0.below b1; obtain ⟨l0, l1, l2, l3⟩ := hq
            clear k0 k1 k2 k3
            go_wp2_with fail
            refine (within_any _ _ _ false HA.out _).mono ?_
            rintro e v2 ⟨rfl, rfl⟩
            go_wp2
            go_ret2
            exact RetN.none_ HR.out rfl (hB.trans (b1.mono hB.size))
          · have g5 : (16 : Int) < y := by omega
            go_enter Try.func6, Try.ntmps6
            go_wp2_with fail
            refine (IsCircuit_any _ _ Ag ng cg Ao no co gs os _ (hr.1.below hB (Nat.le_refl _)) (hr.2.below hB (Nat.le_refl _)) hng hno).mono ?_
            rintro e v1 ⟨rfl, b1⟩
            rw [H0.out]
            have hq := hx0.below b1; obtain ⟨l0, l1, l2, l3⟩ := hq
            clear k0 k1 k2 k3
            go_wp2
            go_ret2
            exact RetN.none_ HR.out rfl (hB.trans (b1.mono hB.size))
        · have g3 : (16 : Int) < x := by omega
          clear hxa hc
          go_enter Try.func6, Try.ntmps6
          go_wp2_with fail
          refine (IsCircuit_any _ _ Ag ng cg Ao no co gs os _ (hr.1.below hB (Nat.le_refl _)) (hr.2.below hB (Nat.le_refl _)) hng hno).mono ?_
          rintro e v1 ⟨rfl, b1⟩
          rw [H0.out]
          have hq := hx0.below b1; obtain ⟨l0, l1, l2, l3⟩ := hq
          clear k0 k1 k2 k3
          go_wp2
          go_ret2
          exact RetN.none_ HR.out rfl (hB.trans (b1.mono hB.size))
      | true =>
        have hxa2 := hxa
        simp only [Bool.and_eq_true, inB_iff] at hxa2
        obtain ⟨X, rfl⟩ : ∃ X : Nat, x = X := ⟨x.toNat, by omega⟩
        obtain ⟨N, hN, hNi, hN1, hN2⟩ := pow_i (k := X) (by omega)
        have hta : ((X : Nat) : Int).toNat = X := by simp
        have hsa : IntKind.i64.wrap ((N : Int) - 1) = (N : Int) - 1 := by rw [IntKind.wrap_i64] <;> omega
        have hxb := hxa
        rw [inB_t (show (0 : Int) ≤ X ∧ (X : Int) ≤ 16 by omega), hta, hNi, Bool.true_and] at hxb
        have HA := Lib.hid hxb
        have g3 : ¬ (16 : Int) < X := by omega
        have g4 : ¬ 16 < X := by omega
        cases hya : (inB 0 16 y && inB 0 (2 ^ y.toNat - 1) b) with
        | false =>
          have HR : Hid (runF X y gs os a b = none) := Lib.hid (runF_4 hya)
          clear hxa hxb hxa2
          by_cases hy16 : y ≤ 16
          · obtain ⟨Y, rfl⟩ : ∃ Y : Nat, y = Y := ⟨y.toNat, by omega⟩
            obtain ⟨M, hM, hMi, hM1, hM2⟩ := pow_i (k := Y) (by omega)
            have htb : ((Y : Nat) : Int).toNat = Y := by simp
            have hsb : IntKind.i64.wrap ((M : Int) - 1) = (M : Int) - 1 := by rw [IntKind.wrap_i64] <;> omega
            rw [inB_t (show (0 : Int) ≤ Y ∧ (Y : Int) ≤ 16 by omega), htb, hMi, Bool.true_and] at hya
            have HY := Lib.hid hya
            have g5 : ¬ (16 : Int) < Y := by omega
            have g6 : ¬ 16 < Y := by omega
            clear hya hc
            go_enter Try.func6, Try.ntmps6
            go_wp2_with fail
            refine (IsCircuit_any _ _ Ag ng cg Ao no co gs os _ (hr.1.below hB (Nat.le_refl _)) (hr.2.below hB (Nat.le_refl _)) hng hno).mono ?_
            rintro e v1 ⟨rfl, b1⟩
            rw [H0.out]
            have hq := hx0.below b1; obtain ⟨l0, l1, l2, l3⟩ := hq
            clear k0 k1 k2 k3
            go_wp2_with fail
            refine (within_any _ _ _ true HA.out _).mono ?_
            rintro e v2 ⟨rfl, rfl⟩
            go_wp2_with fail
            refine (within_any _ _ _ false HY.out _).mono ?_
            rintro e v2 ⟨rfl, rfl⟩
            go_wp2
            go_ret2
            exact RetN.none_ HR.out rfl (hB.trans (b1.mono hB.size))
          · have g5 : (16 : Int) < y := by omega
            clear hya hc
            go_enter Try.func6, Try.ntmps6
            go_wp2_with fail
            refine (IsCircuit_any _ _ Ag ng cg Ao no co gs os _ (hr.1.below hB (Nat.le_refl _)) (hr.2.below hB (Nat.le_refl _)) hng hno).mono ?_
            rintro e v1 ⟨rfl, b1⟩
            rw [H0.out]
            have hq := hx0.below b1; obtain ⟨l0, l1, l2, l3⟩ := hq
            clear k0 k1 k2 k3
            go_wp2
            go_ret2
            exact RetN.none_ HR.out rfl (hB.trans (b1.mono hB.size))
        | true =>
          obtain ⟨X', Y', u, v, e1, e2, rfl, rfl, hX, hY, hu, hv, hR⟩ := runF_5 hc (by omega) hxa hya
          refine (RunWith_ok X y Ag ng cg Ao no co u v X' Y' gs os w hr hng h16 hc e1 e2 hX hY hu hv).mono ?_
          rintro e w' ⟨h1, h2⟩
          exact ⟨by rw [h1, hR]; rfl, h2⟩
    · have HR : Hid (runF x y gs os a b = none) := Lib.hid (runF_2 (by omega))
      have g1 : (16 : Int) < no := by omega
      have g2 : 16 < no := by omega
      clear hc
      go_enter Try.func6, Try.ntmps6
      go_wp2_with fail
      refine (IsCircuit_any _ _ Ag ng cg Ao no co gs os _ (hr.1.below hB (Nat.le_refl _)) (hr.2.below hB (Nat.le_refl _)) hng hno).mono ?_
      rintro e v1 ⟨rfl, b1⟩
      rw [H0.out]
      have hq := hx0.below b1; obtain ⟨l0, l1, l2, l3⟩ := hq
      clear k0 k1 k2 k3
      go_wp2
      go_ret2
      exact RetN.none_ HR.out rfl (hB.trans (b1.mono hB.size))
set_option maxRecDepth 100000 in
set_option maxHeartbeats 3000000 in
theorem spec_RunWith_any (x y : Int) (Ag : Option Addr) (ng cg : Nat) (Ao : Option Addr) (no co : Nat) (a b : Int) (gs : List G3) (os : List Int) (w : World) (hr : RG w Ag ng gs ∧ RI w Ao no os) (hng : ng ≤ 2097152) (hno : no ≤ 2097152) :
    Calls Try.prog 7 #[.agg #[.int .i64 x, .int .i64 y, .slice Ag ng cg, .slice Ao no co], .int .i64 a, .int .i64 b] w (RetN w (runF x y gs os a b)) := by
  have hB : Below w.heap.size w (w.alloc (.cells #[.int .i64 x, .int .i64 y, .slice Ag ng cg, .slice Ao no co] 27)) := (Below.refl _ _).alloc (Nat.le_refl _) _
  have hx0 : BxC (w.alloc (.cells #[.int .i64 x, .int .i64 y, .slice Ag ng cg, .slice Ao no co] 27)) w.heap.size x y Ag ng cg Ao no co := BxC.new w _
  have hlg := hr.1.len
  have hlo := hr.2.len
  have hq := hx0; obtain ⟨k0, k1, k2, k3⟩ := hq
  cases hc : circB x y gs os with
  | false =>
    have HR : Hid (runF x y gs os a b = none) := Lib.hid (runF_1 hc)
    have H0 := Lib.hid hc; clear hc
    go_enter Try.func7, Try.ntmps7
    go_wp2_with fail
    refine (ciGood_any _ _ Ag ng cg Ao no co gs os _ (hr.1.below hB (Nat.le_refl _)) (hr.2.below hB (Nat.le_refl _)) hng hno).mono ?_
    rintro e v1 ⟨rfl, b1⟩
    rw [H0.out]
    go_wp2
    go_ret2
    exact RetN.none_ HR.out rfl (hB.trans (b1.mono hB.size))
  | true =>
    have hcb := circB_bd hc
    have H0 := Lib.hid hc
    by_cases h16 : no ≤ 16
    · have g1 : ¬ (16 : Int) < no := by omega
      have g2 : ¬ 16 < no := by omega
      cases hxa : (inB 0 16 x && inB 0 (2 ^ x.toNat - 1) a) with
      | false =>
        have HR : Hid (runF x y gs os a b = none) := Lib.hid (runF_3 hxa)
        have HA := Lib.hid hxa
        clear hxa hc
        go_enter Try.func7, Try.ntmps7
        go_wp2_with fail
        refine (ciGood_any _ _ Ag ng cg Ao no co gs os _ (hr.1.below hB (Nat.le_refl _)) (hr.2.below hB (Nat.le_refl _)) hng hno).mono ?_
        rintro e v1 ⟨rfl, b1⟩
        rw [H0.out]
        have hq := hx0.below b1; obtain ⟨l0, l1, l2, l3⟩ := hq
        clear k0 k1 k2 k3
        go_wp2_with fail
        have q9 := btWord_any a x v1
        refine q9.mono ?_
        clear q9
        rintro e v2 ⟨rfl, rfl⟩
        rw [HA.out]
        go_wp2
        go_ret2
        exact RetN.none_ HR.out rfl (hB.trans (b1.mono hB.size))
      | true =>
        have HA := Lib.hid hxa
        cases hya : (inB 0 16 y && inB 0 (2 ^ y.toNat - 1) b) with
        | false =>
          have HR : Hid (runF x y gs os a b = none) := Lib.hid (runF_4 hya)
          have HY := Lib.hid hya
          clear hxa hya hc
          go_enter Try.func7, Try.ntmps7
          go_wp2_with fail
          refine (ciGood_any _ _ Ag ng cg Ao no co gs os _ (hr.1.below hB (Nat.le_refl _)) (hr.2.below hB (Nat.le_refl _)) hng hno).mono ?_
          rintro e v1 ⟨rfl, b1⟩
          rw [H0.out]
          have hq := hx0.below b1; obtain ⟨l0, l1, l2, l3⟩ := hq
          clear k0 k1 k2 k3
          go_wp2_with fail
          have q9 := btWord_any a x v1
          refine q9.mono ?_
          clear q9
          rintro e v2 ⟨rfl, rfl⟩
          rw [HA.out]
          go_wp2_with fail
          have q9 := btWord_any b y v1
          refine q9.mono ?_
          clear q9
          rintro e v2 ⟨rfl, rfl⟩
          rw [HY.out]
          go_wp2
          go_ret2
          exact RetN.none_ HR.out rfl (hB.trans (b1.mono hB.size))
        | true =>
          have HY := Lib.hid hya
          obtain ⟨X, Y, u, v, rfl, rfl, rfl, rfl, hX, hY, hu, hv, hR⟩ := runF_5 hc (by omega) hxa hya
          have HR := Lib.hid hR
          clear hxa hya hR
          obtain ⟨hx, hy, hg3, ho3, _, hao⟩ := hcb
          rw [hlg] at hg3 hao
          obtain ⟨N, hN, hNi, hN1, hN2⟩ := pow_i hX
          obtain ⟨M, hM, hMi, hM1, hM2⟩ := pow_i hY
          rw [hN] at hu
          rw [hM] at hv
          clear hN hNi hM hMi hc
          go_enter Try.func7, Try.ntmps7
          go_wp2_with fail
          refine (ciGood_any _ _ Ag ng cg Ao no co gs os _ (hr.1.below hB (Nat.le_refl _)) (hr.2.below hB (Nat.le_refl _)) hng hno).mono ?_
          rintro e v1 ⟨rfl, b1⟩
          rw [H0.out]
          have B1 := hB.trans (b1.mono hB.size)
          have x1 := hx0.below b1
          have hz1 := B1.size
          clear k0 k1 k2 k3 hx0 b1 hB
          have hbits : allB 0 1 (bitsN u X ++ bitsN v Y) = true := allB_iff.2 fun z hz => (List.mem_append.1 hz).elim (allB_iff.1 (bitsN_bd u X) z) (allB_iff.1 (bitsN_bd v Y) z)
          have hao' : allB 0 (((X + Y + ng : Nat) : Int) - 1) os = true := by rw [show ((X + Y + ng : Nat) : Int) - 1 = (X : Int) + Y + ng - 1 by omega]; exact hao
          obtain ⟨P, hP⟩ : ∃ P, pick (vals gs (bitsN u X ++ bitsN v Y) ng) os = P := ⟨_, rfl⟩
          have hPl : P.length = no := by rw [← hP, pick_len]; exact hlo
          have hgat : gatesB (((X + Y : Nat) : Int)) gs ng = true := by have h := (circB_bd H0.out).2.2.2.2.1; rw [hlg] at h; simpa using h
          have hVb : allB 0 1 (vals gs (bitsN u X ++ bitsN v Y) ng) = true := vals_bd (n := (X : Int) + Y) (by rw [List.length_append, bitsN_len, bitsN_len]; omega) hbits ng ng (Nat.le_refl _) (by have h := (circB_bd H0.out).2.2.2.2.1; rw [hlg] at h; exact h)
          have hPb : allB 0 1 P = true := by rw [← hP]; exact pick_bd hVb (by rw [vals_len, List.length_append, bitsN_len, bitsN_len]; exact hao')
          have hans : ans ⟨gs, os⟩ (bitsN u X ++ bitsN v Y) = numN P := by unfold ans; dsimp only; rw [hlg, hP]
          have HAN := Lib.hid hans; have HP := Lib.hid hP; have HPl := Lib.hid hPl; have HPb := Lib.hid hPb; have Hao := Lib.hid hao'; have Hgat := Lib.hid hgat; have Hbits := Lib.hid hbits
          clear hans hP hPl hPb hao' hgat hbits hao hVb
          have hq := x1; obtain ⟨k0, k1, k2, k3⟩ := hq
          go_wp2_with fail
          have q9 := btWord_any u X v1
          refine q9.mono ?_
          clear q9
          rintro e v2 ⟨rfl, rfl⟩
          rw [HA.out]
          go_wp2_with fail
          have q9 := btWord_any v Y v1
          refine q9.mono ?_
          clear q9
          rintro e v2 ⟨rfl, rfl⟩
          rw [HY.out]
          go_wp2_with fail
          refine wp_region_mem0 (14) [(⟨w.heap.size, 0, none⟩, .int .i64 X), (⟨w.heap.size, 1, none⟩, .int .i64 Y), (⟨w.heap.size, 2, none⟩, .slice Ag ng cg), (⟨w.heap.size, 3, none⟩, .slice Ao no co)] [(4, [], []), (8, [], []), (9, [4, 8], []), (10, [9], []), (11, [10], [])] [11] [(4, Res.row v1.heap.size X (bitsN u X)), (8, Res.row v1.heap.size Y (bitsN v Y)), (9, Res.row v1.heap.size (X + Y) (bitsN u X ++ bitsN v Y)), (10, Res.row v1.heap.size no P), (11, Res.plain (.int .i64 (numN P)))] (by kernel_rfl) (by kernel_rfl) (by kernel_rfl) (by simp only [CellsL, List.mem_cons, forall_eq_or_imp, List.not_mem_nil, false_implies, implies_true, and_true]; repeat (any_goals (apply And.intro)); all_goals (first | assumption | go_simp)) ?_
          simp only [List.take_succ_cons, List.take_zero, List.drop_succ_cons, List.drop_zero, List.take_nil, List.drop_nil, List.take, List.drop]
          repeat (first
            | ((with_reducible refine mem_pure0 ?_ ?_ ?_)
               · exact rfl
               · exact rfl
               intro K hK
               apply Exists.intro
               refine ⟨fun w3 hw3 => ?_, ?_⟩
               · have hcs := hw3
                 simp only [CellsL, List.mem_cons, forall_eq_or_imp, List.not_mem_nil, false_implies, implies_true, and_true] at hcs
                 clear hw3
                 go_simp
                 first | done | exact ⟨rfl, rfl⟩ | rfl
               refine hK _ ?_
               clear hK K
               try simp only [Act.put, List.setIfInBounds_toArray, List.set_cons_zero, List.set_cons_succ])
            | ((with_reducible refine mem_skip ?_ ?_ ?_)
               · exact rfl
               · exact wanted_not rfl rfl rfl rfl
               simp only [Act.put, List.setIfInBounds_toArray, List.set_cons_zero, List.set_cons_succ])
            | ((with_reducible refine mem_pure ?_ ?_ ?_)
               · exact rfl
               · exact wanted_some rfl rfl rfl rfl
               intro K hK
               apply Exists.intro
               refine ⟨fun w3 hw3 => ?_, ?_⟩
               · have hcs := hw3
                 simp only [CellsL, List.mem_cons, forall_eq_or_imp, List.not_mem_nil, false_implies, implies_true, and_true] at hcs
                 clear hw3
                 go_simp
                 first | done | exact ⟨rfl, rfl⟩ | rfl
               refine hK _ ?_
               clear hK K
               try simp only [Act.put, List.setIfInBounds_toArray, List.set_cons_zero, List.set_cons_succ]))
          focus
            (with_reducible refine mem_row v1.heap.size X (bitsN u X) ?_ ?_ ?_ ?_ ?_ (hw := ?_))
            · exact rfl
            · exact rfl
            · omega
            · intro w3 hw3 hc3 hp3
              have hcs := hc3
              simp only [CellsL, List.mem_cons, forall_eq_or_imp, List.not_mem_nil, false_implies, implies_true, and_true] at hcs
              (go_simp; refine (btOf_any u X _ (by omega) (by omega)).mono ?_; rintro e w5 hT; obtain ⟨A9, c9, rfl, ho4, hb4⟩ := hT.open_ (bitsN_len _ _); exact retPost.mk_ (postRow.mk_ ho4 hb4))
            rotate_left
            · first | exact wanted_none rfl | exact wanted_some rfl rfl rfl rfl
            intro A3 c3
            try simp only [Act.put, List.setIfInBounds_toArray, List.set_cons_zero, List.set_cons_succ]
          repeat (first
            | ((with_reducible refine mem_pure0 ?_ ?_ ?_)
               · exact rfl
               · exact rfl
               intro K hK
               apply Exists.intro
               refine ⟨fun w3 hw3 => ?_, ?_⟩
               · have hcs := hw3
                 simp only [CellsL, List.mem_cons, forall_eq_or_imp, List.not_mem_nil, false_implies, implies_true, and_true] at hcs
                 clear hw3
                 go_simp
                 first | done | exact ⟨rfl, rfl⟩ | rfl
               refine hK _ ?_
               clear hK K
               try simp only [Act.put, List.setIfInBounds_toArray, List.set_cons_zero, List.set_cons_succ])
            | ((with_reducible refine mem_skip ?_ ?_ ?_)
               · exact rfl
               · exact wanted_not rfl rfl rfl rfl
               simp only [Act.put, List.setIfInBounds_toArray, List.set_cons_zero, List.set_cons_succ])
            | ((with_reducible refine mem_pure ?_ ?_ ?_)
               · exact rfl
               · exact wanted_some rfl rfl rfl rfl
               intro K hK
               apply Exists.intro
               refine ⟨fun w3 hw3 => ?_, ?_⟩
               · have hcs := hw3
                 simp only [CellsL, List.mem_cons, forall_eq_or_imp, List.not_mem_nil, false_implies, implies_true, and_true] at hcs
                 clear hw3
                 go_simp
                 first | done | exact ⟨rfl, rfl⟩ | rfl
               refine hK _ ?_
               clear hK K
               try simp only [Act.put, List.setIfInBounds_toArray, List.set_cons_zero, List.set_cons_succ]))
          focus
            (with_reducible refine mem_row v1.heap.size Y (bitsN v Y) ?_ ?_ ?_ ?_ ?_ (hw := ?_))
            · exact rfl
            · exact rfl
            · omega
            · intro w3 hw3 hc3 hp3
              have hcs := hc3
              simp only [CellsL, List.mem_cons, forall_eq_or_imp, List.not_mem_nil, false_implies, implies_true, and_true] at hcs
              (go_simp; refine (btOf_any v Y _ (by omega) (by omega)).mono ?_; rintro e w5 hT; obtain ⟨A9, c9, rfl, ho4, hb4⟩ := hT.open_ (bitsN_len _ _); exact retPost.mk_ (postRow.mk_ ho4 hb4))
            rotate_left
            · first | exact wanted_none rfl | exact wanted_some rfl rfl rfl rfl
            intro A5 c5
            try simp only [Act.put, List.setIfInBounds_toArray, List.set_cons_zero, List.set_cons_succ]
          repeat (first
            | ((with_reducible refine mem_pure0 ?_ ?_ ?_)
               · exact rfl
               · exact rfl
               intro K hK
               apply Exists.intro
               refine ⟨fun w3 hw3 => ?_, ?_⟩
               · have hcs := hw3
                 simp only [CellsL, List.mem_cons, forall_eq_or_imp, List.not_mem_nil, false_implies, implies_true, and_true] at hcs
                 clear hw3
                 go_simp
                 first | done | exact ⟨rfl, rfl⟩ | rfl
               refine hK _ ?_
               clear hK K
               try simp only [Act.put, List.setIfInBounds_toArray, List.set_cons_zero, List.set_cons_succ])
            | ((with_reducible refine mem_skip ?_ ?_ ?_)
               · exact rfl
               · exact wanted_not rfl rfl rfl rfl
               simp only [Act.put, List.setIfInBounds_toArray, List.set_cons_zero, List.set_cons_succ])
            | ((with_reducible refine mem_pure ?_ ?_ ?_)
               · exact rfl
               · exact wanted_some rfl rfl rfl rfl
               intro K hK
               apply Exists.intro
               refine ⟨fun w3 hw3 => ?_, ?_⟩
               · have hcs := hw3
                 simp only [CellsL, List.mem_cons, forall_eq_or_imp, List.not_mem_nil, false_implies, implies_true, and_true] at hcs
                 clear hw3
                 go_simp
                 first | done | exact ⟨rfl, rfl⟩ | rfl
               refine hK _ ?_
               clear hK K
               try simp only [Act.put, List.setIfInBounds_toArray, List.set_cons_zero, List.set_cons_succ]))
          focus
            (with_reducible refine mem_row v1.heap.size (X + Y) (bitsN u X ++ bitsN v Y) ?_ ?_ ?_ ?_ ?_ (hw := ?_))
            · exact rfl
            · exact rfl
            · omega
            · intro w3 hw3 hc3 hp3
              have hcs := hc3
              simp only [CellsL, List.mem_cons, forall_eq_or_imp, List.not_mem_nil, false_implies, implies_true, and_true] at hcs
              (have h4 : Own w3 v1.heap.size w3.heap.size (.slice A3 X c3) X (bitsN u X) := hp3.1.1.1; have h8 : Own w3 v1.heap.size w3.heap.size (.slice A5 Y c5) Y (bitsN v Y) := hp3.1.2.1.1; go_simp; refine (ciJoin_any A3 A5 X c3 Y c5 _ _ _ h4.reads h8.reads (by omega) (by omega)).mono ?_; rintro e w5 ⟨A9, c9, rfl, ho4, hb4⟩; exact retPost.mk_ (postRow.mk_ ho4 hb4))
            rotate_left
            · first | exact wanted_none rfl | exact wanted_some rfl rfl rfl rfl
            intro A6 c6
            try simp only [Act.put, List.setIfInBounds_toArray, List.set_cons_zero, List.set_cons_succ]
          repeat (first
            | ((with_reducible refine mem_pure0 ?_ ?_ ?_)
               · exact rfl
               · exact rfl
               intro K hK
               apply Exists.intro
               refine ⟨fun w3 hw3 => ?_, ?_⟩
               · have hcs := hw3
                 simp only [CellsL, List.mem_cons, forall_eq_or_imp, List.not_mem_nil, false_implies, implies_true, and_true] at hcs
                 clear hw3
                 go_simp
                 first | done | exact ⟨rfl, rfl⟩ | rfl
               refine hK _ ?_
               clear hK K
               try simp only [Act.put, List.setIfInBounds_toArray, List.set_cons_zero, List.set_cons_succ])
            | ((with_reducible refine mem_skip ?_ ?_ ?_)
               · exact rfl
               · exact wanted_not rfl rfl rfl rfl
               simp only [Act.put, List.setIfInBounds_toArray, List.set_cons_zero, List.set_cons_succ])
            | ((with_reducible refine mem_pure ?_ ?_ ?_)
               · exact rfl
               · exact wanted_some rfl rfl rfl rfl
               intro K hK
               apply Exists.intro
               refine ⟨fun w3 hw3 => ?_, ?_⟩
               · have hcs := hw3
                 simp only [CellsL, List.mem_cons, forall_eq_or_imp, List.not_mem_nil, false_implies, implies_true, and_true] at hcs
                 clear hw3
                 go_simp
                 first | done | exact ⟨rfl, rfl⟩ | rfl
               refine hK _ ?_
               clear hK K
               try simp only [Act.put, List.setIfInBounds_toArray, List.set_cons_zero, List.set_cons_succ]))
          focus
            (with_reducible refine mem_row v1.heap.size no P ?_ ?_ ?_ ?_ ?_ (hw := ?_))
            · exact rfl
            · exact rfl
            · omega
            · intro w3 hw3 hc3 hp3
              have hcs := hc3
              simp only [CellsL, List.mem_cons, forall_eq_or_imp, List.not_mem_nil, false_implies, implies_true, and_true] at hcs
              (have h4 : Own w3 v1.heap.size w3.heap.size (.slice A6 (X + Y) c6) (X + Y) (bitsN u X ++ bitsN v Y) := hp3.1.1.1; go_simp; have q9 := ciOuts_any X Y Ag ng cg Ao no co A6 (X + Y) c6 gs os (bitsN u X ++ bitsN v Y) w3 ⟨hr.1.below (B1.trans ((alt_below hw3).mono B1.size)) (Nat.le_refl _), hr.2.below (B1.trans ((alt_below hw3).mono B1.size)) (Nat.le_refl _)⟩ h4.reads Hbits.out Hgat.out Hao.out (by omega) (by omega) (by omega); rw [HP.out] at q9; refine q9.mono ?_; rintro e w5 hT; obtain ⟨A9, c9, rfl, ho4, hb4⟩ := hT.open_ HPl.out; exact retPost.mk_ (postRow.mk_ ho4 hb4))
            rotate_left
            · first | exact wanted_none rfl | exact wanted_some rfl rfl rfl rfl
            intro A8 c8
            try simp only [Act.put, List.setIfInBounds_toArray, List.set_cons_zero, List.set_cons_succ]
          repeat (first
            | ((with_reducible refine mem_pure0 ?_ ?_ ?_)
               · exact rfl
               · exact rfl
               intro K hK
               apply Exists.intro
               refine ⟨fun w3 hw3 => ?_, ?_⟩
               · have hcs := hw3
                 simp only [CellsL, List.mem_cons, forall_eq_or_imp, List.not_mem_nil, false_implies, implies_true, and_true] at hcs
                 clear hw3
                 go_simp
                 first | done | exact ⟨rfl, rfl⟩ | rfl
               refine hK _ ?_
               clear hK K
               try simp only [Act.put, List.setIfInBounds_toArray, List.set_cons_zero, List.set_cons_succ])
            | ((with_reducible refine mem_skip ?_ ?_ ?_)
               · exact rfl
               · exact wanted_not rfl rfl rfl rfl
               simp only [Act.put, List.setIfInBounds_toArray, List.set_cons_zero, List.set_cons_succ])
            | ((with_reducible refine mem_pure ?_ ?_ ?_)
               · exact rfl
               · exact wanted_some rfl rfl rfl rfl
               intro K hK
               apply Exists.intro
               refine ⟨fun w3 hw3 => ?_, ?_⟩
               · have hcs := hw3
                 simp only [CellsL, List.mem_cons, forall_eq_or_imp, List.not_mem_nil, false_implies, implies_true, and_true] at hcs
                 clear hw3
                 go_simp
                 first | done | exact ⟨rfl, rfl⟩ | rfl
               refine hK _ ?_
               clear hK K
               try simp only [Act.put, List.setIfInBounds_toArray, List.set_cons_zero, List.set_cons_succ]))
          focus
            (with_reducible refine mem_plain (.int .i64 (numN P)) ?_ ?_ ?_ ?_ (hw := ?_))
            · exact rfl
            · exact rfl
            · intro w3 hw3 hc3 hp3
              have hcs := hc3
              simp only [CellsL, List.mem_cons, forall_eq_or_imp, List.not_mem_nil, false_implies, implies_true, and_true] at hcs
              (have h4 : Own w3 v1.heap.size w3.heap.size (.slice A8 no c8) no P := hp3.1.1.1; go_simp; refine (btNum_any A8 no c8 P w3 h4.reads (by omega) HPb.out).mono ?_; rintro e w5 ⟨rfl, rfl⟩; exact retPost.mk_ (postPlain.mk_ (Below.refl _ _)))
            rotate_left
            · first | exact wanted_none rfl | exact wanted_some rfl rfl rfl rfl
            try simp only [Act.put, List.setIfInBounds_toArray, List.set_cons_zero, List.set_cons_succ]
          repeat (first
            | ((with_reducible refine mem_pure0 ?_ ?_ ?_)
               · exact rfl
               · exact rfl
               intro K hK
               apply Exists.intro
               refine ⟨fun w3 hw3 => ?_, ?_⟩
               · have hcs := hw3
                 simp only [CellsL, List.mem_cons, forall_eq_or_imp, List.not_mem_nil, false_implies, implies_true, and_true] at hcs
                 clear hw3
                 go_simp
                 first | done | exact ⟨rfl, rfl⟩ | rfl
               refine hK _ ?_
               clear hK K
               try simp only [Act.put, List.setIfInBounds_toArray, List.set_cons_zero, List.set_cons_succ])
            | ((with_reducible refine mem_skip ?_ ?_ ?_)
               · exact rfl
               · exact wanted_not rfl rfl rfl rfl
               simp only [Act.put, List.setIfInBounds_toArray, List.set_cons_zero, List.set_cons_succ])
            | ((with_reducible refine mem_pure ?_ ?_ ?_)
               · exact rfl
               · exact wanted_some rfl rfl rfl rfl
               intro K hK
               apply Exists.intro
               refine ⟨fun w3 hw3 => ?_, ?_⟩
               · have hcs := hw3
                 simp only [CellsL, List.mem_cons, forall_eq_or_imp, List.not_mem_nil, false_implies, implies_true, and_true] at hcs
                 clear hw3
                 go_simp
                 first | done | exact ⟨rfl, rfl⟩ | rfl
               refine hK _ ?_
               clear hK K
               try simp only [Act.put, List.setIfInBounds_toArray, List.set_cons_zero, List.set_cons_succ]))
          refine wpSep_end ?_
          intro wy hwy hcy hfin hap
          have hbz := alt_below hwy
          clear hfin hap hcy hwy k0 k1 k2 k3
          go_wp2
          go_ret2
          exact ⟨by rw [HR.out, HAN.out]; rfl, B1.trans (hbz.mono B1.size)⟩
    · have HR : Hid (runF x y gs os a b = none) := Lib.hid (runF_2 (by omega))
      have g1 : (16 : Int) < no := by omega
      have g2 : 16 < no := by omega
      clear hc
      go_enter Try.func7, Try.ntmps7
      go_wp2_with fail
      refine (ciGood_any _ _ Ag ng cg Ao no co gs os _ (hr.1.below hB (Nat.le_refl _)) (hr.2.below hB (Nat.le_refl _)) hng hno).mono ?_
      rintro e v1 ⟨rfl, b1⟩
      rw [H0.out]
      have hq := hx0.below b1; obtain ⟨l0, l1, l2, l3⟩ := hq
      clear k0 k1 k2 k3
      go_wp2
      go_ret2
      exact RetN.none_ HR.out rfl (hB.trans (b1.mono hB.size))
end Go.Proofs.Ytimmjppkaadggaa
namespace Go.Proofs.Ytimmjppkaadggaa
open Go.RowKit
set_option linter.unusedVariables false
set_option linter.unusedSimpArgs false
def ctrIn (X : Int) (g0 : List G3) (os : List Int) (c0 : Int) : Nat → Ad
  | 0 => ⟨g0, [], c0⟩
  | i + 1 => ⟨(ctrIn X g0 os c0 i).g ++ [⟨0, gi os i, (ctrIn X g0 os c0 i).c⟩] ++ [⟨1, gi os i, (ctrIn X g0 os c0 i).c⟩], (ctrIn X g0 os c0 i).o ++ [X + (ctrIn X g0 os c0 i).g.length], X + (ctrIn X g0 os c0 i).g.length + 1⟩
theorem ctrIn_o (X : Int) (g0 : List G3) (os : List Int) (c0 : Int) (i : Nat) : (ctrIn X g0 os c0 i).o.length = i := by
  induction i with
  | zero => rfl
  | succ i ih => simp [ctrIn, ih]
theorem ctrIn_g (X : Int) (g0 : List G3) (os : List Int) (c0 : Int) (i : Nat) : (ctrIn X g0 os c0 i).g.length = g0.length + 2 * i := by
  induction i with
  | zero => rfl
  | succ i ih => simp [ctrIn, ih]; omega
def ctrS (X : Int) : Nat → Go2
  | 0 => ⟨[], [0]⟩
  | k + 1 => ⟨(ctrIn X (ctrS X k).g (ctrS X k).o ((k : Int) + 1) (ctrS X k).o.length).g, if 2 ^ (ctrS X k).o.length ≤ k + 2 then (ctrIn X (ctrS X k).g (ctrS X k).o ((k : Int) + 1) (ctrS X k).o.length).o ++ [(ctrIn X (ctrS X k).g (ctrS X k).o ((k : Int) + 1) (ctrS X k).o.length).c] else (ctrIn X (ctrS X k).g (ctrS X k).o ((k : Int) + 1) (ctrS X k).o.length).o⟩
def ctrL : Nat → Nat
  | 0 => 1
  | k + 1 => if 2 ^ ctrL k ≤ k + 2 then ctrL k + 1 else ctrL k
theorem ctrS_o (X : Int) (k : Nat) : (ctrS X k).o.length = ctrL k := by
  induction k with
  | zero => rfl
  | succ k ih =>
    simp only [ctrS, ctrL, ih]
    split
    · rw [List.length_append, ctrIn_o]; rfl
    · rw [ctrIn_o]
theorem ctrL_bd (k : Nat) (h : k ≤ 15) : 1 ≤ ctrL k ∧ ctrL k ≤ 5 := by
  rcases (show k = 0 ∨ k = 1 ∨ k = 2 ∨ k = 3 ∨ k = 4 ∨ k = 5 ∨ k = 6 ∨ k = 7 ∨ k = 8 ∨ k = 9 ∨ k = 10 ∨ k = 11 ∨ k = 12 ∨ k = 13 ∨ k = 14 ∨ k = 15 by omega) with rfl | rfl | rfl | rfl | rfl | rfl | rfl | rfl | rfl | rfl | rfl | rfl | rfl | rfl | rfl | rfl <;> decide
theorem ctrS_g (X : Int) (k : Nat) (h : k ≤ 15) : (ctrS X k).g.length ≤ 10 * k := by
  induction k with
  | zero => simp [ctrS]
  | succ k ih =>
    have h1 := ih (by omega)
    have h2 := ctrL_bd k (by omega)
    simp only [ctrS]
    rw [ctrIn_g, ctrS_o]
    omega
def ctrG (n : Nat) : Go2 := ctrS n (n - 1)
theorem ctrG_ok : ∀ n : Nat, 1 ≤ n → n ≤ 16 → circB (n : Nat) 0 (ctrG n).g (ctrG n).o = true := by
  intro n h1 h2
  rcases (show n = 1 ∨ n = 2 ∨ n = 3 ∨ n = 4 ∨ n = 5 ∨ n = 6 ∨ n = 7 ∨ n = 8 ∨ n = 9 ∨ n = 10 ∨ n = 11 ∨ n = 12 ∨ n = 13 ∨ n = 14 ∨ n = 15 ∨ n = 16 by omega) with rfl | rfl | rfl | rfl | rfl | rfl | rfl | rfl | rfl | rfl | rfl | rfl | rfl | rfl | rfl | rfl <;> kernel_rfl
theorem ctrG_all : ∀ n : Nat, 1 ≤ n → n ≤ 16 → ans (ctrG n) (bitsN (2 ^ n - 1) n ++ bitsN 0 0) = n := by
  intro n h1 h2
  rcases (show n = 1 ∨ n = 2 ∨ n = 3 ∨ n = 4 ∨ n = 5 ∨ n = 6 ∨ n = 7 ∨ n = 8 ∨ n = 9 ∨ n = 10 ∨ n = 11 ∨ n = 12 ∨ n = 13 ∨ n = 14 ∨ n = 15 ∨ n = 16 by omega) with rfl | rfl | rfl | rfl | rfl | rfl | rfl | rfl | rfl | rfl | rfl | rfl | rfl | rfl | rfl | rfl <;> kernel_rfl
theorem ctrG_none : ∀ n : Nat, 1 ≤ n → n ≤ 16 → ans (ctrG n) (bitsN 0 n ++ bitsN 0 0) = 0 := by
  intro n h1 h2
  rcases (show n = 1 ∨ n = 2 ∨ n = 3 ∨ n = 4 ∨ n = 5 ∨ n = 6 ∨ n = 7 ∨ n = 8 ∨ n = 9 ∨ n = 10 ∨ n = 11 ∨ n = 12 ∨ n = 13 ∨ n = 14 ∨ n = 15 ∨ n = 16 by omega) with rfl | rfl | rfl | rfl | rfl | rfl | rfl | rfl | rfl | rfl | rfl | rfl | rfl | rfl | rfl | rfl <;> kernel_rfl
def ctrF (a : Int) : Option Ci := if inB 1 16 a then some ⟨a, 0, (ctrG a.toNat).g, (ctrG a.toNat).o⟩ else none
end Go.Proofs.Ytimmjppkaadggaa
