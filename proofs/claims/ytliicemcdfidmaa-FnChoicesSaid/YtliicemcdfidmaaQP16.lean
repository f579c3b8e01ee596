/- Contracts of ConstantCircuit: both hands return the circuit of the number, or none. -/
import Derived.Test.YtliicemcdfidmaaQP13
import Derived.Test.YtliicemcdfidmaaQP15
namespace Go.Proofs.Ytliicemcdfidmaa
open Go.RowKit
set_option linter.unusedVariables false
set_option linter.unusedSimpArgs false
def cstF' (n w : Int) : Option Ci := if inB 1 16 w && inB 0 (2 ^ w.toNat - 1) n then some ⟨0, 0, (cstC n.toNat w.toNat).g, (cstC n.toNat w.toNat).o⟩ else none
theorem cst_law {n w : Int} {M : Ci} (h : cstF' n w = some M) : M.i0 = 0 ∧ M.i1 = 0 ∧ circB 0 0 M.gs M.os = true ∧ M.os.length ≤ 16 ∧ ans ⟨M.gs, M.os⟩ (bitsN 0 0 ++ bitsN 0 0) = n := by
  unfold cstF' at h
  split at h
  · rename_i hb
    simp only [Bool.and_eq_true, inB_iff] at hb
    injection h with h
    subst h
    obtain ⟨k, hk⟩ : ∃ k : Nat, w = k := ⟨w.toNat, by omega⟩
    subst hk
    obtain ⟨v, hv⟩ : ∃ v : Nat, n = v := ⟨n.toNat, by omega⟩
    subst hv
    have hlt : v < 2 ^ k := by
      have h2 := hb.2.2
      have h3 : (2 : Int) ^ ((k : Nat) : Int).toNat = ((2 ^ k : Nat) : Int) := by simp
      rw [h3] at h2
      have : 1 ≤ 2 ^ k := Nat.one_le_two_pow
      omega
    refine ⟨rfl, rfl, cstC_ok (by omega), ?_, ?_⟩
    · show ((bitsN _ _).map _).length ≤ 16
      simp [bitsN_len]; omega
    · exact cstC_v hlt
  · cases h
set_option maxRecDepth 100000 in
set_option maxHeartbeats 4000000 in
theorem ConstantCircuit_any (a k : Int) (w : World) : Calls Try.prog 17 #[.int .i64 a, .int .i64 k] w (RetC w (cstF' a k)) := by
  have hB : Below w.heap.size w (w.alloc (.cells #[.int .i64 0, .int .i64 0, .slice none 0 0, .slice none 0 0] 28)) := (Below.refl _ _).alloc (Nat.le_refl _) _
  have hx0 : BxC (w.alloc (.cells #[.int .i64 0, .int .i64 0, .slice none 0 0, .slice none 0 0] 28)) w.heap.size 0 0 none 0 0 none 0 0 := BxC.new w _
  cases h0 : inB 1 16 k with
  | false =>
    have HR : Hid (cstF' a k = none) := Lib.hid (by simp [cstF', h0])
    have H0 := Lib.hid h0; clear h0
    go_enter Try.func17, Try.ntmps17
    go_wp2_with fail
    refine (within_any _ _ _ false H0.out _).mono ?_
    rintro e w1 ⟨rfl, rfl⟩
    go_wp2
    have hq9 := BxC.set4 (hx0) 0 0 none 0 0 none 0 0
    obtain ⟨q0, q1, q2, q3⟩ := hq9
    refine bodyPost_ret (v := .tuple #[.agg #[.int .i64 0, .int .i64 0, .slice none 0 0, .slice none 0 0], .bool false]) (by simp [results, Try.results17, go_sem, q0, q1, q2, q3]) rfl ?_
    exact RetC.none_ hB HR.out rfl
  | true =>
    have hab := inB_iff.1 h0
    obtain ⟨n, rfl⟩ : ∃ n : Nat, k = n := ⟨k.toNat, by omega⟩
    have h1 : 1 ≤ n := by omega
    have h8 : n ≤ 16 := by omega
    have hp1 : (2 : Nat) ^ n ≤ 65536 := Nat.le_trans (Nat.pow_le_pow_right (by omega) h8) (by decide)
    obtain ⟨N, hN⟩ : ∃ N : Nat, 2 ^ n = N := ⟨_, rfl⟩
    have hN1 : 1 ≤ N := by rw [← hN]; exact Nat.one_le_two_pow
    rw [hN] at hp1
    have hNi : (2 : Int) ^ n = N := by rw [← hN]; simp
    have hta : ((n : Nat) : Int).toNat = n := by simp
    have hsa : IntKind.i64.wrap ((N : Int) - 1) = (N : Int) - 1 := by rw [IntKind.wrap_i64] <;> omega
    cases h2 : inB 0 ((N : Int) - 1) a with
    | false =>
      have HR : Hid (cstF' a n = none) := Lib.hid (by simp only [cstF', hta, hNi, h2, Bool.and_false]; rfl)
      have H0 := Lib.hid h0; have H2 := Lib.hid h2; clear h0 h2 hab
      go_enter Try.func17, Try.ntmps17
      go_wp2_with fail
      refine (within_any _ _ _ true H0.out _).mono ?_
      rintro e w1 ⟨rfl, rfl⟩
      go_wp2_with fail
      refine (within_any _ _ _ false H2.out _).mono ?_
      rintro e w1 ⟨rfl, rfl⟩
      go_wp2
      have hq9 := BxC.set4 (hx0) 0 0 none 0 0 none 0 0
      obtain ⟨q0, q1, q2, q3⟩ := hq9
      refine bodyPost_ret (v := .tuple #[.agg #[.int .i64 0, .int .i64 0, .slice none 0 0, .slice none 0 0], .bool false]) (by simp [results, Try.results17, go_sem, q0, q1, q2, q3]) rfl ?_
      exact RetC.none_ hB HR.out rfl
    | true =>
      have hab2 := inB_iff.1 h2
      obtain ⟨v, rfl⟩ : ∃ v : Nat, a = v := ⟨a.toNat, by omega⟩
      have hv : v ≤ 70000 := by omega
      have HR : Hid (cstF' (v : Int) n = some ⟨0, 0, (cstC v n).g, (cstC v n).o⟩) := Lib.hid (by simp only [cstF', hta, hNi, h2, h0, Bool.and_self]; rfl)
      have H0 := Lib.hid h0; have H2 := Lib.hid h2; clear h0 h2 hab hab2
      have HOK : Hid (circB 0 0 (cstC v n).g (cstC v n).o = true) := Lib.hid (cstC_ok (by omega))
      have HF : ∀ (lo b : Nat) (w1 : World), lo ≤ w1.heap.size → Mk w1 lo b 0 0 [] none → Calls Try.prog 43 #[.pointer (some ⟨b, 0, none⟩), .int .i64 v, .int .i64 n] w1 (RetRow lo b 0 0 (cstC v n).g (cstC v n).o none w1) :=
        fun lo b w1 hlo hm => maker_constant_any lo b 0 0 [] none v n w1 hm (by omega) (by omega) (by simp) hv h1 (by omega) hlo
      have HF := Lib.hid HF
      have hl : (cstC v n).g.length ≤ 300 ∧ (cstC v n).o.length ≤ 40 := by have := circB_bd HOK.out; omega
      generalize cstC v n = T at *
      obtain ⟨gs, os⟩ := T
      dsimp only at hl
      obtain ⟨m, hm⟩ : ∃ m, Hid (os.length = m) := ⟨_, Lib.hid rfl⟩
      have hm0 := Mk.new (w.alloc (.cells #[.int .i64 0, .int .i64 0, .slice none 0 0, .slice none 0 0] 28)) (w.heap.size + 1) 0 0 48
      have hB2 := hB.alloc hB.size (.cells #[.int .i64 0, .int .i64 0, .slice none 0 0, .slice none 0 0] 48)
      have hx2 := hx0.below ((Below.refl _ _).alloc (Nat.le_refl _) (.cells #[.int .i64 0, .int .i64 0, .slice none 0 0, .slice none 0 0] 48))
      simp only [World.size_alloc] at hm0
      go_enter Try.func17, Try.ntmps17
      go_wp2_with fail
      refine (within_any _ _ _ true H0.out _).mono ?_
      rintro e w1 ⟨rfl, rfl⟩
      go_wp2_with fail
      refine (within_any _ _ _ true H2.out _).mono ?_
      rintro e w1 ⟨rfl, rfl⟩
      clear hN hNi hta hsa
      go_wp2_with fail
      refine (HF.out (w.heap.size + 1) (w.heap.size + 1) _ (by simp) hm0).mono ?_
      rintro e w5 hT
      obtain ⟨G5, O5, oc5, rfl, hm5, hv5, ho5⟩ := hT.open_ hm.out
      have hz4 := hB2.size
      have hx5 : BxC w5 w.heap.size 0 0 none 0 0 none 0 0 := ⟨hv5.cellF hx2.1 ⟨by simp, by simp⟩, hv5.cellF hx2.2.1 ⟨by simp, by simp⟩, hv5.cellF hx2.2.2.1 ⟨by simp, by simp⟩, hv5.cellF hx2.2.2.2 ⟨by simp, by simp⟩⟩
      have hB5 := hv5.toBelow hB2 (by omega) (by simp) hz4
      obtain ⟨Ag, cg, hx6, hx7, hw7, hfz⟩ := hm5.circuit ho5 (by simp)
      have hB7 := hB5.setCell (p := ⟨w.heap.size + 1, 3, none⟩) (by show w.heap.size ≤ w.heap.size + 1; omega) (.slice O5 m oc5)
      have hx8 : BxC (w5.setCell ⟨w.heap.size + 1, 3, none⟩ (.slice O5 m oc5)) w.heap.size 0 0 none 0 0 none 0 0 := ⟨(World.cell?_setCell_other _ _ _ _ (by simp)).trans hx5.1, (World.cell?_setCell_other _ _ _ _ (by simp)).trans hx5.2.1, (World.cell?_setCell_other _ _ _ _ (by simp)).trans hx5.2.2.1, (World.cell?_setCell_other _ _ _ _ (by simp)).trans hx5.2.2.2⟩
      obtain ⟨i0, i1, i2, i3⟩ := hx7
      obtain ⟨j0, j1, j2, j3⟩ := hx6
      have hz5 := hv5.size
      simp only [World.size_alloc] at hz5
      clear hm5 ho5 hx5 hm0
      have hmo := hm.out
      go_wp2_with fail
      refine (valid_t 0 0 Ag gs.length cg O5 m oc5 gs os _ hw7.reads.1 hw7.reads.2 (by omega) (by omega) HOK.out).mono ?_
      rintro e w8 ⟨rfl, hb8⟩
      have hB8 := hB7.trans (hb8.mono hB7.size)
      have f8 : Fz w8 w.heap.size := ((((Fz.new w _ _).below ((Below.refl _ _).alloc (Nat.le_refl _) (.cells #[.int .i64 0, .int .i64 0, .slice none 0 0, .slice none 0 0] 48)) (by simp)).mv hv5 (by simp; omega) ⟨by simp, by simp⟩).set _ _).below hb8 (by simp; omega)
      have g0 := f8 0; have g1 := f8 1; have g2 := f8 2; have g3 := f8 3
      have hx9 := hx8.below hb8
      have hy9 := hx9; obtain ⟨l0, l1, l2, l3⟩ := hy9
      have hw8 := (hw7.below hb8 (.inl (Nat.le_refl _))).hi_ (show w5.heap.size ≤ w8.heap.size by simpa using hb8.size)
      go_wp2
      have hq9 := BxC.set4 (hx9) 0 0 Ag gs.length cg O5 m oc5
      obtain ⟨q0, q1, q2, q3⟩ := hq9
      refine bodyPost_ret (v := .tuple #[.agg #[.int .i64 0, .int .i64 0, .slice Ag gs.length cg, .slice O5 m oc5], .bool true]) (by simp [results, Try.results17, go_sem, q0, q1, q2, q3]) rfl ?_
      exact RetC.some_ (below_set4 hB8 (Nat.le_refl _) _ _ _ _ _ _ _ _) HR.out rfl hm.out rfl (by rw [set4_size]; exact ((hw8.set4 (.inl (by omega)) _ _ _ _ _ _ _ _).lo_ (by omega)))
theorem btWord_any (a k : Int) (w : World) : Calls Try.prog 44 #[.int .i64 a, .int .i64 k] w fun e w' => e = .returned (.bool (inB 0 16 k && inB 0 (2 ^ k.toNat - 1) a)) ∧ w = w' := by
  cases h0 : inB 0 16 k with
  | false =>
    have H0 := Lib.hid h0; clear h0
    go_enter Try.func44, Try.ntmps44
    go_wp2_with fail
    refine (l1In_any _ _ _ false H0.out _).mono ?_
    rintro e w1 ⟨rfl, rfl⟩
    go_wp2
    go_ret
    exact ⟨rfl, rfl⟩
  | true =>
    have hab := inB_iff.1 h0
    obtain ⟨n, rfl⟩ : ∃ n : Nat, k = n := ⟨k.toNat, by omega⟩
    have hp1 : (2 : Nat) ^ n ≤ 65536 := Nat.le_trans (Nat.pow_le_pow_right (by omega) (show n ≤ 16 by omega)) (by decide)
    obtain ⟨N, hN⟩ : ∃ N : Nat, 2 ^ n = N := ⟨_, rfl⟩
    have hN1 : 1 ≤ N := by rw [← hN]; exact Nat.one_le_two_pow
    rw [hN] at hp1
    have hNi : (2 : Int) ^ n = N := by rw [← hN]; simp
    have hta : ((n : Nat) : Int).toNat = n := by simp
    have hsa : IntKind.i64.wrap ((N : Int) - 1) = (N : Int) - 1 := by rw [IntKind.wrap_i64] <;> omega
    have HR : Hid ((true && inB 0 (2 ^ ((n : Nat) : Int).toNat - 1) a) = inB 0 ((N : Int) - 1) a) := Lib.hid (by rw [hta, hNi, Bool.true_and])
    rw [HR.out]
    have H0 := Lib.hid h0; clear h0 HR
    go_enter Try.func44, Try.ntmps44
    go_wp2_with fail
    refine (l1In_any _ _ _ true H0.out _).mono ?_
    rintro e w1 ⟨rfl, rfl⟩
    go_wp2_with fail
    refine (l1In_any _ _ _ _ rfl _).mono ?_
    rintro e w1 ⟨rfl, rfl⟩
    go_wp2
    go_ret
    exact ⟨rfl, rfl⟩
set_option maxRecDepth 100000 in
set_option maxHeartbeats 4000000 in
theorem spec_ConstantCircuit_any (a k : Int) (w : World) : Calls Try.prog 18 #[.int .i64 a, .int .i64 k] w (RetC w (cstF' a k)) := by
  have hB : Below w.heap.size w (w.alloc (.cells #[.int .i64 0, .int .i64 0, .slice none 0 0, .slice none 0 0] 28)) := (Below.refl _ _).alloc (Nat.le_refl _) _
  have hx0 : BxC (w.alloc (.cells #[.int .i64 0, .int .i64 0, .slice none 0 0, .slice none 0 0] 28)) w.heap.size 0 0 none 0 0 none 0 0 := BxC.new w _
  by_cases hk1 : k < 1
  · have HR : Hid (cstF' a k = none) := Lib.hid (by
      have h0 : inB 1 16 k = false := by cases h : inB 1 16 k with
        | false => rfl
        | true => have := inB_iff.1 h; omega
      simp [cstF', h0])
    go_enter Try.func18, Try.ntmps18
    go_wp2
    have hq9 := BxC.set4 (hx0) 0 0 none 0 0 none 0 0
    obtain ⟨q0, q1, q2, q3⟩ := hq9
    refine bodyPost_ret (v := .tuple #[.agg #[.int .i64 0, .int .i64 0, .slice none 0 0, .slice none 0 0], .bool false]) (by simp [results, Try.results18, go_sem, q0, q1, q2, q3]) rfl ?_
    exact RetC.none_ hB HR.out rfl
  cases h0 : (inB 0 16 k && inB 0 (2 ^ k.toNat - 1) a) with
  | false =>
    have HR : Hid (cstF' a k = none) := Lib.hid (by
      unfold cstF'
      rw [if_neg]
      intro hc
      simp only [Bool.and_eq_true] at hc
      have := inB_iff.1 hc.1
      rw [inB_t (show 0 ≤ k ∧ k ≤ 16 by omega), hc.2] at h0
      cases h0)
    have H0 := Lib.hid h0; clear h0
    go_enter Try.func18, Try.ntmps18
    go_wp2_with fail
    have q9 := btWord_any a k (w.alloc (.cells #[.int .i64 0, .int .i64 0, .slice none 0 0, .slice none 0 0] 28))
    refine q9.mono ?_
    clear q9
    rintro e w1 ⟨rfl, rfl⟩
    rw [H0.out]
    go_wp2
    have hq9 := BxC.set4 (hx0) 0 0 none 0 0 none 0 0
    obtain ⟨q0, q1, q2, q3⟩ := hq9
    refine bodyPost_ret (v := .tuple #[.agg #[.int .i64 0, .int .i64 0, .slice none 0 0, .slice none 0 0], .bool false]) (by simp [results, Try.results18, go_sem, q0, q1, q2, q3]) rfl ?_
    exact RetC.none_ hB HR.out rfl
  | true =>
    have h00 := h0
    simp only [Bool.and_eq_true] at h00
    have hab := inB_iff.1 h00.1
    have hab2 := inB_iff.1 h00.2
    obtain ⟨n, rfl⟩ : ∃ n : Nat, k = n := ⟨k.toNat, by omega⟩
    obtain ⟨v, rfl⟩ : ∃ v : Nat, a = v := ⟨a.toNat, by omega⟩
    have h1 : 1 ≤ n := by omega
    have h8 : n ≤ 16 := by omega
    have hp1 : (2 : Nat) ^ n ≤ 65536 := Nat.le_trans (Nat.pow_le_pow_right (by omega) h8) (by decide)
    have hta : ((n : Nat) : Int).toNat = n := by simp
    rw [hta] at hab2
    have hNi : (2 : Int) ^ n = ((2 ^ n : Nat) : Int) := by simp
    have hv : v ≤ 70000 := by rw [hNi] at hab2; omega
    have HR : Hid (cstF' (v : Int) n = some ⟨0, 0, (cstC v n).g, (cstC v n).o⟩) := Lib.hid (by
      unfold cstF'
      rw [if_pos (by rw [inB_t (show (1 : Int) ≤ n ∧ (n : Int) ≤ 16 by omega), h00.2]; rfl)]; rfl)
    have HOK : Hid (circB 0 0 (cstC v n).g (cstC v n).o = true) := Lib.hid (cstC_ok (by omega))
    have HF : ∀ (lo b : Nat) (w1 : World), lo ≤ w1.heap.size → Mk w1 lo b 0 0 [] none → Calls Try.prog 46 #[.pointer (some ⟨b, 0, none⟩), .int .i64 v, .int .i64 n] w1 (RetRow lo b 0 0 (cstC v n).g (cstC v n).o none w1) :=
      fun lo b w1 hlo hm => gdConst_any lo b 0 0 [] none v n w1 hm (by omega) (by omega) (by simp) hv h1 (by omega) hlo
    have HF := Lib.hid HF
    have H0 := Lib.hid h0; clear h0 h00 hab hab2 hNi hta hp1
    have hl : (cstC v n).g.length ≤ 300 ∧ (cstC v n).o.length ≤ 40 := by have := circB_bd HOK.out; omega
    generalize cstC v n = T at *
    obtain ⟨gs, os⟩ := T
    dsimp only at hl
    obtain ⟨m, hm⟩ : ∃ m, Hid (os.length = m) := ⟨_, Lib.hid rfl⟩
    have hm0 := Mk.new (w.alloc (.cells #[.int .i64 0, .int .i64 0, .slice none 0 0, .slice none 0 0] 28)) (w.heap.size + 1) 0 0 69
    have hB2 := hB.alloc hB.size (.cells #[.int .i64 0, .int .i64 0, .slice none 0 0, .slice none 0 0] 69)
    have hx2 := hx0.below ((Below.refl _ _).alloc (Nat.le_refl _) (.cells #[.int .i64 0, .int .i64 0, .slice none 0 0, .slice none 0 0] 69))
    simp only [World.size_alloc] at hm0
    have hk2 : ¬ (n : Int) < 1 := by omega
    have hk3 : ¬ n < 1 := by omega
    clear hk1
    go_enter Try.func18, Try.ntmps18
    go_wp2_with fail
    have q9 := btWord_any v n (w.alloc (.cells #[.int .i64 0, .int .i64 0, .slice none 0 0, .slice none 0 0] 28))
    refine q9.mono ?_
    clear q9
    rintro e w1 ⟨rfl, rfl⟩
    rw [H0.out]
    go_wp2_with fail
    refine (ciNew_any 0 0 _).mono ?_
    rintro e w3 ⟨rfl, rfl⟩
    go_wp2_with fail
    refine (HF.out (w.heap.size + 1) (w.heap.size + 1) _ (by simp) hm0).mono ?_
    rintro e w5 hT
    obtain ⟨G5, O5, oc5, rfl, hm5, hv5, ho5⟩ := hT.open_ hm.out
    have hz4 := hB2.size
    have hx5 : BxC w5 w.heap.size 0 0 none 0 0 none 0 0 := ⟨hv5.cellF hx2.1 ⟨by simp, by simp⟩, hv5.cellF hx2.2.1 ⟨by simp, by simp⟩, hv5.cellF hx2.2.2.1 ⟨by simp, by simp⟩, hv5.cellF hx2.2.2.2 ⟨by simp, by simp⟩⟩
    have hB5 := hv5.toBelow hB2 (by omega) (by simp) hz4
    obtain ⟨Ag, cg, hx6, hx7, hw7, hfz⟩ := hm5.circuit ho5 (by simp)
    have hB7 := hB5.setCell (p := ⟨w.heap.size + 1, 3, none⟩) (by show w.heap.size ≤ w.heap.size + 1; omega) (.slice O5 m oc5)
    have hx8 : BxC (w5.setCell ⟨w.heap.size + 1, 3, none⟩ (.slice O5 m oc5)) w.heap.size 0 0 none 0 0 none 0 0 := ⟨(World.cell?_setCell_other _ _ _ _ (by simp)).trans hx5.1, (World.cell?_setCell_other _ _ _ _ (by simp)).trans hx5.2.1, (World.cell?_setCell_other _ _ _ _ (by simp)).trans hx5.2.2.1, (World.cell?_setCell_other _ _ _ _ (by simp)).trans hx5.2.2.2⟩
    obtain ⟨i0, i1, i2, i3⟩ := hx7
    obtain ⟨j0, j1, j2, j3⟩ := hx6
    have hz5 := hv5.size
    simp only [World.size_alloc] at hz5
    have f8 : Fz (w5.setCell ⟨w.heap.size + 1, 3, none⟩ (.slice O5 m oc5)) w.heap.size := (((Fz.new w _ _).below ((Below.refl _ _).alloc (Nat.le_refl _) (.cells #[.int .i64 0, .int .i64 0, .slice none 0 0, .slice none 0 0] 69)) (by simp)).mv hv5 (by simp; omega) ⟨by simp, by simp⟩).set _ _
    have g0 := f8 0; have g1 := f8 1; have g2 := f8 2; have g3 := f8 3
    have hy9 := hx8; obtain ⟨l0, l1, l2, l3⟩ := hy9
    have hmo := hm.out
    clear hm5 ho5 hx5 hm0 hmo
    go_wp2
    have hq9 := BxC.set4 (hx8) 0 0 Ag gs.length cg O5 m oc5
    obtain ⟨q0, q1, q2, q3⟩ := hq9
    refine bodyPost_ret (v := .tuple #[.agg #[.int .i64 0, .int .i64 0, .slice Ag gs.length cg, .slice O5 m oc5], .bool true]) (by simp [results, Try.results18, go_sem, q0, q1, q2, q3]) rfl ?_
    exact RetC.some_ (below_set4 hB7 (Nat.le_refl _) _ _ _ _ _ _ _ _) HR.out rfl hm.out rfl (by rw [set4_size]; exact (((hw7.hi_ (by simp)).set4 (.inl (by omega)) _ _ _ _ _ _ _ _).lo_ (by omega)))
end Go.Proofs.Ytliicemcdfidmaa
