/- The contract of the reference's values of lines. Texts below 2^21 bytes. -/
import Derived.Test.YtenknpcbbcbciaaGreatQS42
namespace Go.Proofs.YtenknpcbbcbciaaGreat
open Go.RowKit
set_option linter.unusedVariables false
set_option linter.unusedSimpArgs false
theorem tmod_ok {z : Int} {N : Nat} (h : 0 ≤ z) : z.tmod N = z % N := Int.tmod_eq_emod_of_nonneg h
set_option maxHeartbeats 1600000 in
theorem laApply_43 (W A B : Nat) (w : World) (h1 : 1 ≤ W) (h10 : W ≤ 10) (ha : A ≤ 1023) (hb : B ≤ 1023) :
 Calls Tryz.prog 158 #[.string (bs [43]), .int .i64 (W : Int), .int .i64 (A : Int), .int .i64 (B : Int)] w fun e w' => e = .returned (.int .i64 (opV [43] W A B)) ∧ w = w' := by
 have t43 : ((bs [43]).toList == [43]) = true := bs_is rfl
 have t45 : ((bs [43]).toList == [45]) = false := Zac (by decide)
 have t42 : ((bs [43]).toList == [42]) = false := Zac (by decide)
 have t60 : ((bs [43]).toList == [60]) = false := Zac (by decide)
 have t61 : ((bs [43]).toList == [61]) = false := Zac (by decide)
 have t38 : ((bs [43]).toList == [38]) = false := Zac (by decide)
 have t124 : ((bs [43]).toList == [124]) = false := Zac (by decide)
 have t94 : ((bs [43]).toList == [94]) = false := Zac (by decide)
 obtain ⟨N2, hN⟩ : ∃ N2, Hid (N2 = 2 ^ W) := ⟨_, zH rfl⟩
 have hN2 : Hid ((2 : Int) ^ W = (N2 : Int)) := zH (by rw [hN.out, Int.natCast_pow]; rfl)
 have hNb := (Zbl hN.out h10).1
 have hN1 : 1 ≤ N2 := by rw [hN.out]; exact Nat.one_le_two_pow
 have hR : Hid (opV [43] W A B = (A + B : Int) % N2) := zH (by unfold opV; rw [if_pos rfl, hN2.out])
 have hw1 : IntKind.i64.wrap ((A : Int) + B) = A + B := by rw [IntKind.wrap_i64] <;> omega
 have hz : ¬ (N2 : Int) = 0 := by omega
 have htm : ((A : Int) + B).tmod N2 = (A + B) % N2 := tmod_ok (by omega)
 have hs := hN2.out
 have hs2 : ((W : Nat) : Int).toNat = W := by omega
 rw [hR.out]
 go_enter Tryz.func158, Tryz.ntmps158
 go_wp2
 go_ret
 exact ⟨rfl, rfl⟩
set_option maxHeartbeats 1600000 in
theorem laApply_45 (W A B : Nat) (w : World) (h1 : 1 ≤ W) (h10 : W ≤ 10) (ha : A ≤ 1023) (hb : B ≤ 1023) :
 Calls Tryz.prog 158 #[.string (bs [45]), .int .i64 (W : Int), .int .i64 (A : Int), .int .i64 (B : Int)] w fun e w' => e = .returned (.int .i64 (opV [45] W A B)) ∧ w = w' := by
 have t43 : ((bs [45]).toList == [43]) = false := Zac (by decide)
 have t45 : ((bs [45]).toList == [45]) = true := bs_is rfl
 have t42 : ((bs [45]).toList == [42]) = false := Zac (by decide)
 have t60 : ((bs [45]).toList == [60]) = false := Zac (by decide)
 have t61 : ((bs [45]).toList == [61]) = false := Zac (by decide)
 have t38 : ((bs [45]).toList == [38]) = false := Zac (by decide)
 have t124 : ((bs [45]).toList == [124]) = false := Zac (by decide)
 have t94 : ((bs [45]).toList == [94]) = false := Zac (by decide)
 obtain ⟨N2, hN⟩ : ∃ N2, Hid (N2 = 2 ^ W) := ⟨_, zH rfl⟩
 have hN2 : Hid ((2 : Int) ^ W = (N2 : Int)) := zH (by rw [hN.out, Int.natCast_pow]; rfl)
 have hNb := (Zbl hN.out h10).1
 have hN1 : 1 ≤ N2 := by rw [hN.out]; exact Nat.one_le_two_pow
 have hR : Hid (opV [45] W A B = (A - B : Int) % N2) := zH (by unfold opV; rw [if_neg (by decide), if_pos rfl, hN2.out])
 have hw1 : IntKind.i64.wrap ((A : Int) - B) = A - B := by rw [IntKind.wrap_i64] <;> omega
 have hs := hN2.out
 have hs2 : ((W : Nat) : Int).toNat = W := by omega
 rw [hR.out]
 go_enter Tryz.func158, Tryz.ntmps158
 go_wp2_with fail
 refine (btMod_any ((A : Int) - B) N2 _ (by omega) (by omega) (by omega) (by omega)).mono ?_
 rintro e w1 ⟨rfl, rfl⟩
 go_wp2
 go_ret
 exact ⟨rfl, rfl⟩
set_option maxHeartbeats 1600000 in
theorem laApply_42 (W A B : Nat) (w : World) (h1 : 1 ≤ W) (h10 : W ≤ 10) (ha : A ≤ 1023) (hb : B ≤ 1023) :
 Calls Tryz.prog 158 #[.string (bs [42]), .int .i64 (W : Int), .int .i64 (A : Int), .int .i64 (B : Int)] w fun e w' => e = .returned (.int .i64 (opV [42] W A B)) ∧ w = w' := by
 have t43 : ((bs [42]).toList == [43]) = false := Zac (by decide)
 have t45 : ((bs [42]).toList == [45]) = false := Zac (by decide)
 have t42 : ((bs [42]).toList == [42]) = true := bs_is rfl
 have t60 : ((bs [42]).toList == [60]) = false := Zac (by decide)
 have t61 : ((bs [42]).toList == [61]) = false := Zac (by decide)
 have t38 : ((bs [42]).toList == [38]) = false := Zac (by decide)
 have t124 : ((bs [42]).toList == [124]) = false := Zac (by decide)
 have t94 : ((bs [42]).toList == [94]) = false := Zac (by decide)
 obtain ⟨N2, hN⟩ : ∃ N2, Hid (N2 = 2 ^ W) := ⟨_, zH rfl⟩
 have hN2 : Hid ((2 : Int) ^ W = (N2 : Int)) := zH (by rw [hN.out, Int.natCast_pow]; rfl)
 have hNb := (Zbl hN.out h10).1
 have hN1 : 1 ≤ N2 := by rw [hN.out]; exact Nat.one_le_two_pow
 have hR : Hid (opV [42] W A B = (A * B : Int)) := zH (by unfold opV; rfl)
 have hm : A * B ≤ 1023 * 1023 := Nat.mul_le_mul ha hb
 have hw1 : IntKind.i64.wrap ((A : Int) * B) = A * B := by rw [← Int.natCast_mul]; exact IntWalk.i64_in _ (by omega)
 rw [hR.out]
 go_enter Tryz.func158, Tryz.ntmps158
 go_wp2
 go_ret
 exact ⟨rfl, rfl⟩
set_option maxHeartbeats 1600000 in
theorem laApply_60 (W A B : Nat) (w : World) (h1 : 1 ≤ W) (h10 : W ≤ 10) (ha : A ≤ 1023) (hb : B ≤ 1023) :
 Calls Tryz.prog 158 #[.string (bs [60]), .int .i64 (W : Int), .int .i64 (A : Int), .int .i64 (B : Int)] w fun e w' => e = .returned (.int .i64 (opV [60] W A B)) ∧ w = w' := by
 have t43 : ((bs [60]).toList == [43]) = false := Zac (by decide)
 have t45 : ((bs [60]).toList == [45]) = false := Zac (by decide)
 have t42 : ((bs [60]).toList == [42]) = false := Zac (by decide)
 have t60 : ((bs [60]).toList == [60]) = true := bs_is rfl
 have t61 : ((bs [60]).toList == [61]) = false := Zac (by decide)
 have t38 : ((bs [60]).toList == [38]) = false := Zac (by decide)
 have t124 : ((bs [60]).toList == [124]) = false := Zac (by decide)
 have t94 : ((bs [60]).toList == [94]) = false := Zac (by decide)
 obtain ⟨N2, hN⟩ : ∃ N2, Hid (N2 = 2 ^ W) := ⟨_, zH rfl⟩
 have hN2 : Hid ((2 : Int) ^ W = (N2 : Int)) := zH (by rw [hN.out, Int.natCast_pow]; rfl)
 have hNb := (Zbl hN.out h10).1
 have hN1 : 1 ≤ N2 := by rw [hN.out]; exact Nat.one_le_two_pow
 have hR : Hid (opV [60] W A B = if (A : Int) < B then 1 else 0) := zH (by unfold opV; rfl)
 rw [hR.out]
 by_cases hc : A < B
 ·rw [if_pos (by omega)]
  have hd : decide (A < B) = true := decide_eq_true hc
  clear hc
  go_enter Tryz.func158, Tryz.ntmps158
  go_wp2
  go_ret
  exact ⟨rfl, rfl⟩
 ·rw [if_neg (by omega)]
  have hd : decide (A < B) = false := decide_eq_false hc
  clear hc
  go_enter Tryz.func158, Tryz.ntmps158
  go_wp2
  go_ret
  exact ⟨rfl, rfl⟩
set_option maxHeartbeats 1600000 in
theorem laApply_61 (W A B : Nat) (w : World) (h1 : 1 ≤ W) (h10 : W ≤ 10) (ha : A ≤ 1023) (hb : B ≤ 1023) :
 Calls Tryz.prog 158 #[.string (bs [61]), .int .i64 (W : Int), .int .i64 (A : Int), .int .i64 (B : Int)] w fun e w' => e = .returned (.int .i64 (opV [61] W A B)) ∧ w = w' := by
 have t43 : ((bs [61]).toList == [43]) = false := Zac (by decide)
 have t45 : ((bs [61]).toList == [45]) = false := Zac (by decide)
 have t42 : ((bs [61]).toList == [42]) = false := Zac (by decide)
 have t60 : ((bs [61]).toList == [60]) = false := Zac (by decide)
 have t61 : ((bs [61]).toList == [61]) = true := bs_is rfl
 have t38 : ((bs [61]).toList == [38]) = false := Zac (by decide)
 have t124 : ((bs [61]).toList == [124]) = false := Zac (by decide)
 have t94 : ((bs [61]).toList == [94]) = false := Zac (by decide)
 obtain ⟨N2, hN⟩ : ∃ N2, Hid (N2 = 2 ^ W) := ⟨_, zH rfl⟩
 have hN2 : Hid ((2 : Int) ^ W = (N2 : Int)) := zH (by rw [hN.out, Int.natCast_pow]; rfl)
 have hNb := (Zbl hN.out h10).1
 have hN1 : 1 ≤ N2 := by rw [hN.out]; exact Nat.one_le_two_pow
 have hR : Hid (opV [61] W A B = if (A : Int) = B then 1 else 0) := zH (by unfold opV; rfl)
 rw [hR.out]
 by_cases hc : A = B
 ·rw [if_pos (by omega)]
  obtain rfl : A = B := by omega
  have hd : ((A : Int) == A) = true := by simp
  clear hc hR
  go_enter Tryz.func158, Tryz.ntmps158
  go_wp2
  go_ret
  exact ⟨rfl, rfl⟩
 ·rw [if_neg (by omega)]
  have hd : ((A : Int) == B) = false := by simp; omega
  clear hc
  go_enter Tryz.func158, Tryz.ntmps158
  go_wp2
  go_ret
  exact ⟨rfl, rfl⟩
set_option maxHeartbeats 1600000 in
theorem laApply_38 (W A B : Nat) (w : World) (h1 : 1 ≤ W) (h10 : W ≤ 10) (ha : A ≤ 1023) (hb : B ≤ 1023) :
 Calls Tryz.prog 158 #[.string (bs [38]), .int .i64 (W : Int), .int .i64 (A : Int), .int .i64 (B : Int)] w fun e w' => e = .returned (.int .i64 (opV [38] W A B)) ∧ w = w' := by
 have t43 : ((bs [38]).toList == [43]) = false := Zac (by decide)
 have t45 : ((bs [38]).toList == [45]) = false := Zac (by decide)
 have t42 : ((bs [38]).toList == [42]) = false := Zac (by decide)
 have t60 : ((bs [38]).toList == [60]) = false := Zac (by decide)
 have t61 : ((bs [38]).toList == [61]) = false := Zac (by decide)
 have t38 : ((bs [38]).toList == [38]) = true := bs_is rfl
 have t124 : ((bs [38]).toList == [124]) = false := Zac (by decide)
 have t94 : ((bs [38]).toList == [94]) = false := Zac (by decide)
 obtain ⟨N2, hN⟩ : ∃ N2, Hid (N2 = 2 ^ W) := ⟨_, zH rfl⟩
 have hN2 : Hid ((2 : Int) ^ W = (N2 : Int)) := zH (by rw [hN.out, Int.natCast_pow]; rfl)
 have hNb := (Zbl hN.out h10).1
 have hN1 : 1 ≤ N2 := by rw [hN.out]; exact Nat.one_le_two_pow
 have hR : Hid (opV [38] W A B = ((A &&& B : Nat) : Int)) := zH (by unfold opV; rw [Int.toNat_natCast, Int.toNat_natCast]; rfl)
 have hbn : bits .and .i64 (A : Int) (B : Int) = ((A &&& B : Nat) : Int) := band_nat (by omega) (by omega)
 rw [hR.out]
 go_enter Tryz.func158, Tryz.ntmps158
 go_wp2
 go_ret
 exact ⟨rfl, rfl⟩
set_option maxHeartbeats 1600000 in
theorem laApply_124 (W A B : Nat) (w : World) (h1 : 1 ≤ W) (h10 : W ≤ 10) (ha : A ≤ 1023) (hb : B ≤ 1023) :
 Calls Tryz.prog 158 #[.string (bs [124]), .int .i64 (W : Int), .int .i64 (A : Int), .int .i64 (B : Int)] w fun e w' => e = .returned (.int .i64 (opV [124] W A B)) ∧ w = w' := by
 have t43 : ((bs [124]).toList == [43]) = false := Zac (by decide)
 have t45 : ((bs [124]).toList == [45]) = false := Zac (by decide)
 have t42 : ((bs [124]).toList == [42]) = false := Zac (by decide)
 have t60 : ((bs [124]).toList == [60]) = false := Zac (by decide)
 have t61 : ((bs [124]).toList == [61]) = false := Zac (by decide)
 have t38 : ((bs [124]).toList == [38]) = false := Zac (by decide)
 have t124 : ((bs [124]).toList == [124]) = true := bs_is rfl
 have t94 : ((bs [124]).toList == [94]) = false := Zac (by decide)
 obtain ⟨N2, hN⟩ : ∃ N2, Hid (N2 = 2 ^ W) := ⟨_, zH rfl⟩
 have hN2 : Hid ((2 : Int) ^ W = (N2 : Int)) := zH (by rw [hN.out, Int.natCast_pow]; rfl)
 have hNb := (Zbl hN.out h10).1
 have hN1 : 1 ≤ N2 := by rw [hN.out]; exact Nat.one_le_two_pow
 have hR : Hid (opV [124] W A B = ((A ||| B : Nat) : Int)) := zH (by unfold opV; rw [Int.toNat_natCast, Int.toNat_natCast]; rfl)
 have hbn : bits .or .i64 (A : Int) (B : Int) = ((A ||| B : Nat) : Int) := bor_nat (by omega) (by omega)
 rw [hR.out]
 go_enter Tryz.func158, Tryz.ntmps158
 go_wp2
 go_ret
 exact ⟨rfl, rfl⟩
set_option maxHeartbeats 1600000 in
theorem laApply_94 (W A B : Nat) (w : World) (h1 : 1 ≤ W) (h10 : W ≤ 10) (ha : A ≤ 1023) (hb : B ≤ 1023) :
 Calls Tryz.prog 158 #[.string (bs [94]), .int .i64 (W : Int), .int .i64 (A : Int), .int .i64 (B : Int)] w fun e w' => e = .returned (.int .i64 (opV [94] W A B)) ∧ w = w' := by
 have t43 : ((bs [94]).toList == [43]) = false := Zac (by decide)
 have t45 : ((bs [94]).toList == [45]) = false := Zac (by decide)
 have t42 : ((bs [94]).toList == [42]) = false := Zac (by decide)
 have t60 : ((bs [94]).toList == [60]) = false := Zac (by decide)
 have t61 : ((bs [94]).toList == [61]) = false := Zac (by decide)
 have t38 : ((bs [94]).toList == [38]) = false := Zac (by decide)
 have t124 : ((bs [94]).toList == [124]) = false := Zac (by decide)
 have t94 : ((bs [94]).toList == [94]) = true := bs_is rfl
 obtain ⟨N2, hN⟩ : ∃ N2, Hid (N2 = 2 ^ W) := ⟨_, zH rfl⟩
 have hN2 : Hid ((2 : Int) ^ W = (N2 : Int)) := zH (by rw [hN.out, Int.natCast_pow]; rfl)
 have hNb := (Zbl hN.out h10).1
 have hN1 : 1 ≤ N2 := by rw [hN.out]; exact Nat.one_le_two_pow
 have hR : Hid (opV [94] W A B = ((A ^^^ B : Nat) : Int)) := zH (by unfold opV; rw [Int.toNat_natCast, Int.toNat_natCast]; rfl)
 have hbn : bits .xor .i64 (A : Int) (B : Int) = ((A ^^^ B : Nat) : Int) := bxor_nat (by omega) (by omega)
 rw [hR.out]
 go_enter Tryz.func158, Tryz.ntmps158
 go_wp2
 go_ret
 exact ⟨rfl, rfl⟩
theorem laApply_any (op : Str) (W : Nat) (a b : Int) (w : World) (ho : opB op = true) (h1 : 1 ≤ W) (h10 : W ≤ 10) (ha : 0 ≤ a ∧ a ≤ 1023) (hb : 0 ≤ b ∧ b ≤ 1023) :
 Calls Tryz.prog 158 #[.string (bs op), .int .i64 (W : Int), .int .i64 a, .int .i64 b] w fun e w' => e = .returned (.int .i64 (opV op W a b)) ∧ w = w' := by
 obtain ⟨A, rfl⟩ := Int.eq_ofNat_of_zero_le ha.1
 obtain ⟨B, rfl⟩ := Int.eq_ofNat_of_zero_le hb.1
 rcases opB_cases ho with rfl | rfl | rfl | rfl | rfl | rfl | rfl | rfl
 ·exact laApply_43 W A B w h1 h10 (by omega) (by omega)
 ·exact laApply_45 W A B w h1 h10 (by omega) (by omega)
 ·exact laApply_42 W A B w h1 h10 (by omega) (by omega)
 ·exact laApply_60 W A B w h1 h10 (by omega) (by omega)
 ·exact laApply_61 W A B w h1 h10 (by omega) (by omega)
 ·exact laApply_38 W A B w h1 h10 (by omega) (by omega)
 ·exact laApply_124 W A B w h1 h10 (by omega) (by omega)
 ·exact laApply_94 W A B w h1 h10 (by omega) (by omega)
attribute [local go_sem] sepAt sepUpon pureAt pureUpon
theorem gi_dropV (xs : List Int) (a j : Nat) : gi (xs.drop a) j = gi xs (a + j) := by
 unfold gi; rw [List.getD_eq_getElem?_getD, List.getD_eq_getElem?_getD, List.getElem?_drop]
set_option maxRecDepth 100000 in
set_option maxHeartbeats 8000000 in
theorem laValues_any (A B C : Option Addr) (n c m d r q0 : Nat) (l : List Ln) (xs ys : List Int) (w : World) (ha : RLn w A n l) (hcap : n ≤ c) (hsh : ∀ x ∈ l, shortL x) (hg : goodP l) (hb : RI w B m xs) (hmd : m ≤ d) (hc : RI w C r ys) (hrq : r ≤ q0) (f0 : fitB (insL l 0) xs = true) (f1 : fitB (insL l 1) ys = true) :
 Calls Tryz.prog 139 #[.slice A n c, .slice B m d, .slice C r q0] w (RetI w (valK l xs ys n)) := by
 have hl := ha.len
 have hn : n ≤ 30 := by have := hg.1; omega
 have hxl := fitB_lenV f0
 have hyl := fitB_lenV f1
 have hbl := hb.len
 have hcl := hc.len
 have hwl : (wids sW l).length = n := by rw [wids_len]; exact hl
 have hvlen := valK_len l xs ys
 have hbdA := zH (fun k (hk : k ≤ l.length) j (hj : j < k) => valK_1023 hg f0 f1 hk hj)
 have hbdB := zH (fun k (hk : k ≤ l.length) j (hj : j < k) => valK_bd hg f0 f1 hk hj)
 have hfit := zH (fun k (hk : k < l.length) => line_fit hg.2.1 hk)
 go_enter Tryz.func139, Tryz.ntmps139
 go_wp2_with fail
 refine (laWidths_any A n c l _ ha (by omega) hcap hsh).mono ?_
 rintro e w1 hT
 obtain ⟨WA, wc, rfl, hoW, b1⟩ := hT.open_ hwl
 have hWr := hoW.reads
 have ha1 := ha.below b1 lR
 have hb1' := hb.below b1 lR
 have hc1' := hc.below b1 lR
 clear hoW ha hb hc f0 f1 hT
 go_wp2
 go_loopw [1, 2, 8, 20] (fun a b r9 i wr => ∃ (k : Nat) (O : Option Addr) (oc t0 t1 M0 D0 M1 D1 : Nat) (BA CA : Option Addr), k ≤ n ∧ i = .int .i64 k ∧ r9 = .slice O k oc ∧ a = .slice BA M0 D0 ∧ b = .slice CA M1 D1 ∧ Own wr w1.heap.size wr.heap.size (.slice O k oc) k (valK l xs ys k) ∧ RI w1 BA M0 (xs.drop t0) ∧ RI w1 CA M1 (ys.drop t1) ∧ Hid (M0 + t0 = m ∧ M0 ≤ D0) ∧ Hid (M1 + t1 = r ∧ M1 ≤ D1) ∧ Hid (t0 = cntI l 0 k) ∧ Hid (t1 = cntI l 1 k) ∧ Below w1.heap.size w1 wr) (fun _ _ _ i _ => n - (intOf i).toNat)
 case atStart => exact ⟨0, none, 0, 0, 0, m, d, r, q0, B, C, Nat.zero_le _, rfl, rfl, rfl, rfl, Own.none_ _ _ _, hb1', hc1', zH ⟨rfl, hmd⟩, zH ⟨rfl, hrq⟩, zH rfl, zH rfl, Below.refl _ _⟩
 case round =>
  obtain ⟨k, O, oc, t0, t1, M0, D0, M1, D1, BA, CA, hk, rfl, rfl, rfl, rfl, hO, hBA, hCA, hM0, hM1, ht0, ht1, hbw⟩ := hrel
  have hzw := hbw.size
  by_cases hlt : k < n
  ·have hvl := hvlen k
   have hbd1 := zH (fun j (hj : j < k) => hbdA.out k (by omega) j hj)
   have hbd2 := zH (fun j (hj : j < k) => hbdB.out k (by omega) j hj)
   obtain ⟨hfd, hf⟩ := hfit.out k (by omega)
   have hs0 := cntI_succ (l := l) 0 (show k < l.length by omega)
   have hs1 := cntI_succ (l := l) 1 (show k < l.length by omega)
   have hc0 := cntI_lt (l := l) (p := 0) (show k < l.length by omega)
   have hc1 := cntI_lt (l := l) (p := 1) (show k < l.length by omega)
   have hvs : Hid (valK l xs ys (k + 1) = valK l xs ys k ++ [stepV l xs ys k (valK l xs ys k)]) := zH rfl
   have hv1 := fun h => stepV_1 (l := l) (xs := xs) (ys := ys) (k := k) (vs := valK l xs ys k) h
   have hvo := fun h => stepV_o (l := l) (xs := xs) (ys := ys) (k := k) (vs := valK l xs ys k) h
   rw [← ht0.out] at hs0 hc0 hv1
   rw [← ht1.out] at hs1 hc1 hv1
   clear ht0 ht1
   obtain ⟨V, hV⟩ := lT (stepV l xs ys k (valK l xs ys k))
   rw [hV.out] at hvs hv1 hvo
   obtain ⟨vs, hvs2⟩ := lT (valK l xs ys k)
   rw [hvs2.out] at hO hbd1 hbd2 hvs hvo hvl
   have hrl := ha1.below hbw lR
   obtain ⟨pb, po, P, q, hA, hpbB, hat, hxr⟩ := hrl.at_ hlt
   obtain ⟨X, hX⟩ := lT (lx l k)
   rw [hX.out] at hat hxr hfd hf hs0 hs1 hc0 hc1 hv1 hvo
   have hpl3 : X.parts.length ≤ 3 := by unfold LFit at hf; omega
   have al : Below wr.heap.size wr (wr.alloc (.cells #[.int .i64 X.kind, .string (bs X.name), .string (bs X.op), .slice P X.parts.length q, .int .i64 X.party, .int .i64 X.width, .int .i64 X.value] 89)) := bA
   have hone : LnAt (wr.alloc (.cells #[.int .i64 X.kind, .string (bs X.name), .string (bs X.op), .slice P X.parts.length q, .int .i64 X.party, .int .i64 X.width, .int .i64 X.value] 89)) wr.heap.size 0 X P q := LnAt.new wr X P q 89
   have hszb : (wr.alloc (.cells #[.int .i64 X.kind, .string (bs X.name), .string (bs X.op), .slice P X.parts.length q, .int .i64 X.party, .int .i64 X.width, .int .i64 X.value] 89)).heap.size = wr.heap.size + 1 := by simp
   subst hA
   obtain ⟨c0, c1, c2, c3, c4, c5, c6⟩ := hat
   go_wp2_with fail
   clear c0 c1 c2 c3 c4 c5 c6
   generalize hwb : wr.alloc (.cells #[.int .i64 X.kind, .string (bs X.name), .string (bs X.op), .slice P X.parts.length q, .int .i64 X.party, .int .i64 X.width, .int .i64 X.value] 89) = wb at *
   clear hwb
   generalize hS0 : wr.heap.size = S0 at *
   have hSz := zH hS0
   have hCle := Nat.le_of_eq hS0
   clear hS0
   go_loopw [11, 12, 27] (fun p u9 i w3 => ∃ (j : Nat) (PA : Option Addr) (pc : Nat) (wl : Int), j ≤ X.parts.length ∧ i = .int .i64 j ∧ p = .slice PA j pc ∧ u9 = .int .i64 wl ∧ Own w3 (S0 + 1) w3.heap.size (.slice PA j pc) j ((pvsL l vs X).take j) ∧ Hid (0 < j → wl = gi (pvsL l (wids sW l) X) (j - 1)) ∧ Below (S0 + 1) wb w3) (fun _ _ i _ => X.parts.length - (intOf i).toNat)
   case atStart => exact ⟨0, none, 0, 0, Nat.zero_le _, rfl, rfl, rfl, Own.none_ _ _ _, zH (fun h => absurd h (Nat.lt_irrefl _)), (Below.refl _ _)⟩
   case round =>
    obtain ⟨j, PA, pc, wl, hj, rfl, rfl, rfl, hP, hwl9, hb4⟩ := hrel
    generalize wr = w3 at *
    have hz4 := hb4.size
    have alq := al.trans (hb4.mono (by omega))
    have hrl4 := hrl.below alq hCle
    have hO4 := hO.below alq (.inl hCle)
    have hW4 := (hWr.below hbw lR).below alq hCle
    by_cases hjl : j < X.parts.length
    ·obtain ⟨nb, no, hPq, hnb, hnc⟩ := (hxr.below alq hCle).at_ hjl
     subst hPq
     have hfj := hfd _ (sx_memV hjl)
     have hsn : Hid ((pvsL l vs X).take (j + 1) = (pvsL l vs X).take j ++ [gi vs (sFind l (sx X.parts j)).toNat]) := zH (pvsL_take hjl)
     have hsw : Hid (gi (pvsL l (wids sW l) X) j = gi (wids sW l) (sFind l (sx X.parts j)).toNat) := zH (pvsL_at hjl)
     obtain ⟨nm, hnm⟩ := lT (sx X.parts j)
     rw [hnm.out] at hnc hfj hsn hsw
     obtain ⟨F, hF⟩ := Int.eq_ofNat_of_zero_le hfj.1
     have hFk : F < k := by omega
     have hF2 : Hid (sFind l nm = (F : Int)) := zH hF
     rw [show (sFind l nm).toNat = F by omega] at hsn hsw
     clear hF hfj
     go_wp2_with fail
     refine (Zbe (some ⟨pb, po, none⟩) n c l nm _ hrl4 (by omega)).mono ?_
     rintro e w5 ⟨he5, hb5⟩
     rw [hF2.out] at he5
     obtain rfl := he5
     have hO5 := hO4.below hb5 (.inl lR)
     have hP5 := hP.below hb5 (.inl lR)
     have hz5 := hb5.size
     obtain ⟨og, oo, hOA, hog, e1⟩ := hO5.reads.at_ hFk
     obtain ⟨u, hu⟩ := lT (gi vs F)
     obtain ⟨z, hz⟩ := lT (gi (wids sW l) F)
     rw [hu.out] at e1 hsn
     rw [hz.out] at hsw
     obtain ⟨Pj, hPj⟩ := lT ((pvsL l vs X).take j)
     rw [hPj.out] at hP5 hsn
     have hFi : (F : Int) < (k : Int) := by omega
     have hFw : (F : Int) < (n : Int) := by omega
     have hF0 : (0 : Int) ≤ (F : Int) := by omega
     have hFn : F < n := by omega
     have hb45 := hb4.trans (hb5.mono (by omega))
     have hPA5 := hP5.alloc (.cells #[.int .i64 u] 3)
     have hBA5 := hb45.alloc (by omega) (.cells #[.int .i64 u] 3)
     subst hOA
     clear hP hb5 hO4 hrl4
     go_wp2_with (at_builtin; refine Zal _ rfl _ _ rfl rfl hPA5 rfl (Zaj _ _ _ _ (by simp)) (by omega) oM ?_; intro A6 c6 w6 hown6 hg6 hat6)
     have hb6 := Zah hBA5 hPA5 hg6 (by simp; omega) lR
     have alq6 := al.trans (hb6.mono (by omega))
     have hrl6 := hrl.below alq6 hCle
     clear hBA5 hPA5 hg6 hat6 e1 hO5 hP5 hb45 hW4 alq
     go_wp2_with fail
     refine (Zbe (some ⟨pb, po, none⟩) n c l nm _ hrl6 (by omega)).mono ?_
     rintro e w7 ⟨he7, hb7⟩
     rw [hF2.out] at he7
     obtain rfl := he7
     have hb67 := hb6.trans (hb7.mono (by have := hb6.size; omega))
     have alq7 := al.trans (hb67.mono (by omega))
     have hP7 := hown6.below hb7 (.inl lR)
     have hW7 := (hWr.below hbw lR).below alq7 hCle
     obtain ⟨wg, wo, hWAe, hwg, e2⟩ := hW7.at_ hFn
     rw [hz.out] at e2
     subst hWAe
     clear hown6 hb6 alq6 hrl6 hb7 hW7
     go_wp2
     go_roundw
     case rel => exact ⟨j + 1, A6, c6, z, by omega, by go_num, rfl, rfl, by rw [hsn.out]; exact hP7.now, zH (fun _ => hsw.out.symm), hb67⟩
     case measure => simp [intOf]; omega
    ·obtain rfl : j = X.parts.length := by omega
     rw [List.take_of_length_le (by rw [pvsL_len]; omega)] at hP
     have hone4 := hone.below hb4 (by show S0 < S0 + 1; omega)
     have hB4 := hbw.trans (alq.mono (by omega))
     have hb4r := hBA.below hB4 lR
     have hc4r := hCA.below hB4 lR
     have hpv := fun j (hj : j < X.parts.length) => pvsL_at (l := l) (vs := vs) (x := X) hj
     have hpw := fun j (hj : j < X.parts.length) => pvsL_at (l := l) (vs := wids sW l) (x := X) hj
     have hpl := pvsL_len l vs X
     have hpwk : ∀ j, j < X.parts.length → gi (pvsL l (wids sW l) X) j = pwK l X j := fun j hj => hpw j hj
     have hwlk : Hid (0 < X.parts.length → wl = pwK l X (X.parts.length - 1)) := zH (fun h => (hwl9.out h).trans (hpwk _ (by omega)))
     have hpb : ∀ j, j < X.parts.length → 0 ≤ gi (pvsL l vs X) j ∧ gi (pvsL l vs X) j ≤ 1023 := fun j hj => by rw [hpv j hj]; exact hbd1.out _ (by have := hfd _ (sx_memV hj); omega)
     have hp1 : pwK l X 0 = 1 → 0 < X.parts.length → gi (pvsL l vs X) 0 = 0 ∨ gi (pvsL l vs X) 0 = 1 := fun hw hj => by
      have h9 := hbd2.out (sFind l (sx X.parts 0)).toNat (by have := hfd _ (sx_memV hj); omega)
      rw [show gi (wids sW l) (sFind l (sx X.parts 0)).toNat = 1 from hw] at h9
      rw [hpv 0 hj]
      have : (2 : Int) ^ (1 : Int).toNat = 2 := by decide
      omega
     obtain ⟨ps, hps⟩ := lT (pvsL l vs X)
     rw [hps.out] at hP hpb hp1 hvo hpl
     have hPr := hP.reads
     clear hP hone hb4 hrl hxr al hfd hpv hpw hbd1 hbd2 hrl4 hW4 alq hO hwl9 hpwk
     obtain ⟨e0, e1, e2, e3, e4, e5, e6⟩ := hone4
     simp only [Nat.zero_add] at e1 e2 e3 e4 e5 e6
     rcases hf with ⟨k1, hpt, hp⟩ | ⟨k1, hpt, hv0, hvm⟩ | ⟨k1, hp2, hw1, hw2, hwe, hop⟩ | ⟨k1, hp1l, hw1, hw2⟩ | ⟨k1, hp3, hw0⟩ | ⟨k1, hp1l⟩
     ·have hv2 := hv1 k1
      clear hvo hv1
      rcases hp with hp | hp
      ·rw [hp] at e4
       rw [if_pos hp] at hv2
       have q1 : (X.kind == 1) = true := by rw [k1]; decide
       have q2 : (X.kind == 2) = false := by rw [k1]; decide
       have q3 : (X.kind == 3) = false := by rw [k1]; decide
       have q4 : (X.kind == 4) = false := by rw [k1]; decide
       have q5 : (X.kind == 5) = false := by rw [k1]; decide
       have q6 : (X.kind == 6) = false := by rw [k1]; decide
       have hin := hc0 k1 hp
       obtain ⟨hMa, hMb⟩ := hM0.out
       have hpos : 0 < M0 := by omega
       have hposi : (0 : Int) < (M0 : Int) := by omega
       obtain ⟨bb, bo, hBe, hbB, cb⟩ := hb4r.at_ (k := 0) hpos
       rw [gi_dropV, show t0 + 0 = t0 from rfl, ← hv2] at cb
       simp only [Nat.add_zero] at cb
       subst hBe
       obtain ⟨TA, hT1, hT2⟩ := slice_from bb bo M0 D0 1 hpos hMb
       have hT3 : ∀ W : World, (Instr.slice 24 (.slice (some ⟨bb, bo, none⟩) M0 D0) (some (.int .i64 1)) none none).run Tryz.prog W = .ok (.slice TA (M0 - 1) (D0 - 1)) W := hT2
       have hRn := hT1 w1 _ hBA
       rw [List.drop_drop] at hRn
       have hMn : Hid (M0 - 1 + (t0 + 1) = m ∧ M0 - 1 ≤ D0 - 1) := zH ⟨by omega, by omega⟩
       clear hT1 hT2 hMa hMb
       have hoA := hO4.alloc (.cells #[.int .i64 V] 3)
       have hBB := hB4.alloc hB4.size (.cells #[.int .i64 V] 3)
       have N0 := zH (show (t0 + 1) = cntI l 0 (k + 1) from by rw [hs0, if_pos ⟨k1, hp⟩])
       have N1 := zH (show t1 = cntI l 1 (k + 1) from by rw [hs1, if_neg (by rintro ⟨_, h⟩; omega)]; rfl)
       clear hs0 hs1 hc0 hc1 hpb hp1 hwlk hO4 hB4 hv2
       go_wp2_with (at_builtin; refine Zal _ rfl _ _ rfl rfl hoA rfl (Zaj _ _ _ _ (by simp)) (by omega) oM ?_; intro A5 c5 w5 hown5 hg5 hat5)
       have hb5 := Zah hBB hoA hg5 (by simp; omega) lR
       rw [← hvs.out] at hown5
       clear hoA hBB hg5 hat5
       go_wp2
       go_roundw
       case rel => exact ⟨k + 1, A5, c5, (t0 + 1), t1, _, _, _, _, _, _, by omega, by go_num, rfl, rfl, rfl, hown5, hRn, hCA, hMn, hM1, N0, N1, hb5⟩
       case measure => simp [intOf]; omega
      ·rw [hp] at e4
       rw [if_neg (by omega)] at hv2
       have q1 : (X.kind == 1) = true := by rw [k1]; decide
       have q2 : (X.kind == 2) = false := by rw [k1]; decide
       have q3 : (X.kind == 3) = false := by rw [k1]; decide
       have q4 : (X.kind == 4) = false := by rw [k1]; decide
       have q5 : (X.kind == 5) = false := by rw [k1]; decide
       have q6 : (X.kind == 6) = false := by rw [k1]; decide
       have hin := hc1 k1 hp
       obtain ⟨hMa, hMb⟩ := hM1.out
       have hpos : 0 < M1 := by omega
       have hposi : (0 : Int) < (M1 : Int) := by omega
       obtain ⟨bb, bo, hBe, hbB, cb⟩ := hc4r.at_ (k := 0) hpos
       rw [gi_dropV, show t1 + 0 = t1 from rfl, ← hv2] at cb
       simp only [Nat.add_zero] at cb
       subst hBe
       obtain ⟨TA, hT1, hT2⟩ := slice_from bb bo M1 D1 1 hpos hMb
       have hT3 : ∀ W : World, (Instr.slice 24 (.slice (some ⟨bb, bo, none⟩) M1 D1) (some (.int .i64 1)) none none).run Tryz.prog W = .ok (.slice TA (M1 - 1) (D1 - 1)) W := hT2
       have hRn := hT1 w1 _ hCA
       rw [List.drop_drop] at hRn
       have hMn : Hid (M1 - 1 + (t1 + 1) = r ∧ M1 - 1 ≤ D1 - 1) := zH ⟨by omega, by omega⟩
       clear hT1 hT2 hMa hMb
       have hoA := hO4.alloc (.cells #[.int .i64 V] 3)
       have hBB := hB4.alloc hB4.size (.cells #[.int .i64 V] 3)
       have N0 := zH (show t0 = cntI l 0 (k + 1) from by rw [hs0, if_neg (by rintro ⟨_, h⟩; omega)]; rfl)
       have N1 := zH (show (t1 + 1) = cntI l 1 (k + 1) from by rw [hs1, if_pos ⟨k1, hp⟩])
       clear hs0 hs1 hc0 hc1 hpb hp1 hwlk hO4 hB4 hv2
       go_wp2_with (at_builtin; refine Zal _ rfl _ _ rfl rfl hoA rfl (Zaj _ _ _ _ (by simp)) (by omega) oM ?_; intro A5 c5 w5 hown5 hg5 hat5)
       have hb5 := Zah hBB hoA hg5 (by simp; omega) lR
       rw [← hvs.out] at hown5
       clear hoA hBB hg5 hat5
       go_wp2
       go_roundw
       case rel => exact ⟨k + 1, A5, c5, t0, (t1 + 1), _, _, _, _, _, _, by omega, by go_num, rfl, rfl, rfl, hown5, hBA, hRn, hM0, hMn, N0, N1, hb5⟩
       case measure => simp [intOf]; omega
     ·have hv2 := hvo (by omega)
      clear hvo hv1
      rw [lineV_2 k1] at hv2
      have q1 : (X.kind == 1) = false := by rw [k1]; decide
      have q2 : (X.kind == 2) = true := by rw [k1]; decide
      have q3 : (X.kind == 3) = false := by rw [k1]; decide
      have q4 : (X.kind == 4) = false := by rw [k1]; decide
      have q5 : (X.kind == 5) = false := by rw [k1]; decide
      have q6 : (X.kind == 6) = false := by rw [k1]; decide
      rw [← hv2] at e6
      clear hv2
      have hoA := hO4.alloc (.cells #[.int .i64 V] 3)
      have hBB := hB4.alloc hB4.size (.cells #[.int .i64 V] 3)
      have N0 := zH (show t0 = cntI l 0 (k + 1) from by rw [hs0, if_neg (by rintro ⟨h, _⟩; omega)]; rfl)
      have N1 := zH (show t1 = cntI l 1 (k + 1) from by rw [hs1, if_neg (by rintro ⟨h, _⟩; omega)]; rfl)
      clear hs0 hs1 hc0 hc1 hpb hp1 hwlk hO4 hB4 
      go_wp2_with (at_builtin; refine Zal _ rfl _ _ rfl rfl hoA rfl (Zaj _ _ _ _ (by simp)) (by omega) oM ?_; intro A5 c5 w5 hown5 hg5 hat5)
      have hb5 := Zah hBB hoA hg5 (by simp; omega) lR
      rw [← hvs.out] at hown5
      clear hoA hBB hg5 hat5
      go_wp2
      go_roundw
      case rel => exact ⟨k + 1, A5, c5, t0, t1, _, _, _, _, _, _, by omega, by go_num, rfl, rfl, rfl, hown5, hBA, hCA, hM0, hM1, N0, N1, hb5⟩
      case measure => simp [intOf]; omega
     ·have hv2 := hvo (by omega)
      clear hvo hv1
      rw [lineV_3 k1] at hv2
      have q1 : (X.kind == 1) = false := by rw [k1]; decide
      have q2 : (X.kind == 2) = false := by rw [k1]; decide
      have q3 : (X.kind == 3) = true := by rw [k1]; decide
      have q4 : (X.kind == 4) = false := by rw [k1]; decide
      have q5 : (X.kind == 5) = false := by rw [k1]; decide
      have q6 : (X.kind == 6) = false := by rw [k1]; decide
      have h0 := hpb 0 (by omega)
      have h1 := hpb 1 (by omega)
      have hwl2 := hwlk.out (by omega)
      rw [show X.parts.length - 1 = 1 by omega, hwe] at hwl2
      obtain ⟨W, hWw2⟩ : ∃ W : Nat, pwK l X 0 = W := ⟨(pwK l X 0).toNat, by omega⟩
      rw [hWw2] at hwl2 hw1 hw2 hv2
      simp only [Int.toNat_natCast] at hv2
      subst hwl2
      obtain ⟨pg, pq, hPe, hpg, hpc⟩ := hPr.2 (by omega)
      have g0 := hpc 0 (by omega)
      have g1 := hpc 1 (by omega)
      subst hPe
      generalize gi ps 0 = a0 at *
      generalize gi ps 1 = a1 at *
      have hlp : (1 : Int) < (X.parts.length : Int) := by omega
      have hlp0 : (0 : Int) < (X.parts.length : Int) := by omega
      have hlpn : 1 < X.parts.length := by omega
      simp only [Nat.add_zero] at g0
      have Hv := zH hv2
      have HW1 : 1 ≤ W := by omega
      have HW2 : W ≤ 10 := by omega
      clear hv2 hw1 hw2 hwe hWw2 hpc
      go_wp2_with fail
      refine Zbu (11) [(⟨S0, 2, none⟩, .string (bs X.op)), (⟨pg, pq, none⟩, .int .i64 a0), (⟨pg, pq + 1, none⟩, .int .i64 a1)] [(9, [], [])] [] [(9, Res.plain (.int .i64 V))] (by kernel_rfl) (by kernel_rfl) (by kernel_rfl) (by simp only [cD, cC, and_true]; repeat (any_goals (apply And.intro)); all_goals (first | assumption | go_simp)) ?_
      simp only [List.take_succ_cons, List.take_zero, List.drop_succ_cons, List.drop_zero, List.take_nil, List.drop_nil, List.take, List.drop]
      repeat (first
       | ((first
        | ((with_reducible refine Zan ?_ ?_ ?_)
           ·exact rfl
           ·exact rfl)
        | ((with_reducible refine Zas ?_ ?_ ?_)
           ·exact rfl
           ·exact Zad rfl rfl rfl rfl))
          intro K hK
          apply Exists.intro
          refine ⟨fun w3 hw3 => ?_, ?_⟩
          ·have hcs := hw3
           simp only [cD, cC, and_true] at hcs
           clear hw3
           go_simp
           first | done | exact ⟨rfl, rfl⟩ | rfl
          refine hK _ ?_
          clear hK K
          try simp only [pA, pB, sA, sB, sC])
       | ((with_reducible refine Zar ?_ ?_ ?_)
          ·exact rfl
          ·exact Zak rfl rfl rfl rfl
          simp only [pA, pB, sA, sB, sC]))
      focus
       (with_reducible refine mem_plain (.int .i64 V) ?_ ?_ ?_ ?_ (hw := ?_))
       ·exact rfl
       ·exact rfl
       ·intro w3 hw3 hc3 hp3
        have hcs := hc3
        simp only [cD, cC, and_true] at hcs
        (go_simp; refine (laApply_any X.op W a0 a1 _ hop HW1 HW2 h0 h1).mono ?_; rintro e w4 ⟨rfl, rfl⟩; rw [← Hv.out]; exact retPost.mk_ (postPlain.mk_ (Below.refl _ _)))
       rotate_left
       ·first | exact Zao rfl | exact Zad rfl rfl rfl rfl
       try simp only [pA, pB, sA, sB, sC]
      repeat (first
       | ((first
        | ((with_reducible refine Zan ?_ ?_ ?_)
           ·exact rfl
           ·exact rfl)
        | ((with_reducible refine Zas ?_ ?_ ?_)
           ·exact rfl
           ·exact Zad rfl rfl rfl rfl))
          intro K hK
          apply Exists.intro
          refine ⟨fun w3 hw3 => ?_, ?_⟩
          ·have hcs := hw3
           simp only [cD, cC, and_true] at hcs
           clear hw3
           go_simp
           first | done | exact ⟨rfl, rfl⟩ | rfl
          refine hK _ ?_
          clear hK K
          try simp only [pA, pB, sA, sB, sC])
       | ((with_reducible refine Zar ?_ ?_ ?_)
          ·exact rfl
          ·exact Zak rfl rfl rfl rfl
          simp only [pA, pB, sA, sB, sC]))
      refine Zbs ?_
      intro wy hwy hcy hfin hap
      have bwy := Zco hwy
      have zwy := bwy.size
      have hloy : w1.heap.size ≤ wy.heap.size := by omega
      have hO6 := (hO4.below bwy (.inl lR)).now
      have hB6 := hB4.trans (bwy.mono hB4.size)
      clear hfin hap hcy hwy bwy g0 g1
      have hoA := hO6.alloc (.cells #[.int .i64 V] 3)
      have hBB := hB6.alloc hB6.size (.cells #[.int .i64 V] 3)
      have N0 := zH (show t0 = cntI l 0 (k + 1) from by rw [hs0, if_neg (by rintro ⟨h, _⟩; omega)]; rfl)
      have N1 := zH (show t1 = cntI l 1 (k + 1) from by rw [hs1, if_neg (by rintro ⟨h, _⟩; omega)]; rfl)
      clear hs0 hs1 hc0 hc1 hpb hp1 hwlk hO4 hB4 
      go_wp2_with (at_builtin; refine Zal _ rfl _ _ rfl rfl hoA rfl (Zaj _ _ _ _ (by simp)) (by omega) oM ?_; intro A5 c5 w5 hown5 hg5 hat5)
      have hb5 := Zah hBB hoA hg5 (by simp; omega) lR
      rw [← hvs.out] at hown5
      clear hoA hBB hg5 hat5
      go_wp2
      go_roundw
      case rel => exact ⟨k + 1, A5, c5, t0, t1, _, _, _, _, _, _, by omega, by go_num, rfl, rfl, rfl, hown5, hBA, hCA, hM0, hM1, N0, N1, hb5⟩
      case measure => simp [intOf]; omega
     ·have hv2 := hvo (by omega)
      clear hvo hv1
      rw [lineV_4 k1] at hv2
      have q1 : (X.kind == 1) = false := by rw [k1]; decide
      have q2 : (X.kind == 2) = false := by rw [k1]; decide
      have q3 : (X.kind == 3) = false := by rw [k1]; decide
      have q4 : (X.kind == 4) = true := by rw [k1]; decide
      have q5 : (X.kind == 5) = false := by rw [k1]; decide
      have q6 : (X.kind == 6) = false := by rw [k1]; decide
      have h0 := hpb 0 (by omega)
      have hwl2 := hwlk.out (by omega)
      rw [show X.parts.length - 1 = 0 by omega] at hwl2
      obtain ⟨W, hWw2⟩ : ∃ W : Nat, pwK l X 0 = W := ⟨(pwK l X 0).toNat, by omega⟩
      rw [hWw2] at hwl2 hw1 hw2 hv2
      simp only [Int.toNat_natCast] at hv2
      subst hwl2
      obtain ⟨pg, pq, hPe, hpg, hpc⟩ := hPr.2 (by omega)
      have g0 := hpc 0 (by omega)
      subst hPe
      generalize gi ps 0 = a0 at *
      have hlp0 : (0 : Int) < (X.parts.length : Int) := by omega
      have hlpn : 0 < X.parts.length := by omega
      simp only [Nat.add_zero] at g0
      obtain ⟨N2, hN⟩ : ∃ N2, Hid (N2 = 2 ^ W) := ⟨_, zH rfl⟩
      have hN2 : Hid ((2 : Int) ^ W = (N2 : Int)) := zH (by rw [hN.out, Int.natCast_pow]; rfl)
      have hNb := (Zbl hN.out (by omega)).1
      rw [hN2.out] at hv2
      have Hv := zH hv2
      have hwa : IntKind.i64.wrap ((N2 : Int) - 1) = N2 - 1 := by rw [IntKind.wrap_i64] <;> omega
      have hwb : IntKind.i64.wrap ((N2 : Int) - 1 - a0) = N2 - 1 - a0 := by rw [IntKind.wrap_i64] <;> omega
      clear hv2 hpc hWw2 hN
      have hs := hN2.out
      have hs2 : ((W : Nat) : Int).toNat = W := by omega
      have hO6 := hO4.alloc (.cells #[.int .i64 ((N2 : Int) - 1 - a0)] 3)
      rw [Hv.out] at hvs
      have hBA9 := hBA
      clear hBA
      have hCA9 := hCA
      have hoA := hO4.alloc (.cells #[.int .i64 ((N2 : Int) - 1 - a0)] 3)
      have hBB := hB4.alloc hB4.size (.cells #[.int .i64 ((N2 : Int) - 1 - a0)] 3)
      have N0 := zH (show t0 = cntI l 0 (k + 1) from by rw [hs0, if_neg (by rintro ⟨h, _⟩; omega)]; rfl)
      have N1 := zH (show t1 = cntI l 1 (k + 1) from by rw [hs1, if_neg (by rintro ⟨h, _⟩; omega)]; rfl)
      clear hs0 hs1 hc0 hc1 hpb hp1 hwlk hO4 hB4 hO6
      go_wp2_with (at_builtin; refine Zal _ rfl _ _ rfl rfl hoA rfl (Zaj _ _ _ _ (by simp)) (by omega) oM ?_; intro A5 c5 w5 hown5 hg5 hat5)
      clear hs hs2
      have hb5 := Zah hBB hoA hg5 (by simp; omega) lR
      rw [← hvs.out] at hown5
      clear hoA hBB hg5 hat5
      go_wp2
      go_roundw
      case rel => exact ⟨k + 1, A5, c5, t0, t1, _, _, _, _, _, _, by omega, by go_num, rfl, rfl, rfl, hown5, hBA9, hCA9, hM0, hM1, N0, N1, hb5⟩
      case measure => simp [intOf]; omega
     ·have hv2 := hvo (by omega)
      clear hvo hv1
      rw [lineV_5 k1] at hv2
      have q1 : (X.kind == 1) = false := by rw [k1]; decide
      have q2 : (X.kind == 2) = false := by rw [k1]; decide
      have q3 : (X.kind == 3) = false := by rw [k1]; decide
      have q4 : (X.kind == 4) = false := by rw [k1]; decide
      have q5 : (X.kind == 5) = true := by rw [k1]; decide
      have q6 : (X.kind == 6) = false := by rw [k1]; decide
      have hsel := hp1 hw0 (by omega)
      obtain ⟨pg, pq, hPe, hpg, hpc⟩ := hPr.2 (by omega)
      have g0 := hpc 0 (by omega)
      have g1 := hpc 1 (by omega)
      have g2 := hpc 2 (by omega)
      subst hPe
      simp only [Nat.add_zero] at g0
      have hlp : (2 : Int) < (X.parts.length : Int) := by omega
      have hlp1 : (1 : Int) < (X.parts.length : Int) := by omega
      have hlp0 : (0 : Int) < (X.parts.length : Int) := by omega
      have hlpn : 2 < X.parts.length := by omega
      rcases hsel with hz | hz
      ·rw [hz] at g0 hv2
       rw [show ((2 : Int) - 0).toNat = 2 by decide] at hv2
       rw [← hv2] at g2
       clear hpc hz hv2
       have hoA := hO4.alloc (.cells #[.int .i64 V] 3)
       have hBB := hB4.alloc hB4.size (.cells #[.int .i64 V] 3)
       have N0 := zH (show t0 = cntI l 0 (k + 1) from by rw [hs0, if_neg (by rintro ⟨h, _⟩; omega)]; rfl)
       have N1 := zH (show t1 = cntI l 1 (k + 1) from by rw [hs1, if_neg (by rintro ⟨h, _⟩; omega)]; rfl)
       clear hs0 hs1 hc0 hc1 hpb hp1 hwlk hO4 hB4 
       go_wp2_with (at_builtin; refine Zal _ rfl _ _ rfl rfl hoA rfl (Zaj _ _ _ _ (by simp)) (by omega) oM ?_; intro A5 c5 w5 hown5 hg5 hat5)
       have hb5 := Zah hBB hoA hg5 (by simp; omega) lR
       rw [← hvs.out] at hown5
       clear hoA hBB hg5 hat5
       go_wp2
       go_roundw
       case rel => exact ⟨k + 1, A5, c5, t0, t1, _, _, _, _, _, _, by omega, by go_num, rfl, rfl, rfl, hown5, hBA, hCA, hM0, hM1, N0, N1, hb5⟩
       case measure => simp [intOf]; omega
      ·rw [hz] at g0 hv2
       rw [show ((2 : Int) - 1).toNat = 1 by decide] at hv2
       rw [← hv2] at g1
       clear hpc hz hv2
       have hoA := hO4.alloc (.cells #[.int .i64 V] 3)
       have hBB := hB4.alloc hB4.size (.cells #[.int .i64 V] 3)
       have N0 := zH (show t0 = cntI l 0 (k + 1) from by rw [hs0, if_neg (by rintro ⟨h, _⟩; omega)]; rfl)
       have N1 := zH (show t1 = cntI l 1 (k + 1) from by rw [hs1, if_neg (by rintro ⟨h, _⟩; omega)]; rfl)
       clear hs0 hs1 hc0 hc1 hpb hp1 hwlk hO4 hB4 
       go_wp2_with (at_builtin; refine Zal _ rfl _ _ rfl rfl hoA rfl (Zaj _ _ _ _ (by simp)) (by omega) oM ?_; intro A5 c5 w5 hown5 hg5 hat5)
       have hb5 := Zah hBB hoA hg5 (by simp; omega) lR
       rw [← hvs.out] at hown5
       clear hoA hBB hg5 hat5
       go_wp2
       go_roundw
       case rel => exact ⟨k + 1, A5, c5, t0, t1, _, _, _, _, _, _, by omega, by go_num, rfl, rfl, rfl, hown5, hBA, hCA, hM0, hM1, N0, N1, hb5⟩
       case measure => simp [intOf]; omega
     ·have hv2 := hvo (by omega)
      clear hvo hv1
      rw [lineV_6 k1] at hv2
      have q1 : (X.kind == 1) = false := by rw [k1]; decide
      have q2 : (X.kind == 2) = false := by rw [k1]; decide
      have q3 : (X.kind == 3) = false := by rw [k1]; decide
      have q4 : (X.kind == 4) = false := by rw [k1]; decide
      have q5 : (X.kind == 5) = false := by rw [k1]; decide
      have q6 : (X.kind == 6) = true := by rw [k1]; decide
      obtain ⟨pg, pq, hPe, hpg, hpc⟩ := hPr.2 (by omega)
      have g0 := hpc 0 (by omega)
      subst hPe
      simp only [Nat.add_zero] at g0
      have hlp0 : (0 : Int) < (X.parts.length : Int) := by omega
      have hlpn : 0 < X.parts.length := by omega
      rw [← hv2] at g0
      clear hpc hv2
      have hoA := hO4.alloc (.cells #[.int .i64 V] 3)
      have hBB := hB4.alloc hB4.size (.cells #[.int .i64 V] 3)
      have N0 := zH (show t0 = cntI l 0 (k + 1) from by rw [hs0, if_neg (by rintro ⟨h, _⟩; omega)]; rfl)
      have N1 := zH (show t1 = cntI l 1 (k + 1) from by rw [hs1, if_neg (by rintro ⟨h, _⟩; omega)]; rfl)
      clear hs0 hs1 hc0 hc1 hpb hp1 hwlk hO4 hB4 
      go_wp2_with (at_builtin; refine Zal _ rfl _ _ rfl rfl hoA rfl (Zaj _ _ _ _ (by simp)) (by omega) oM ?_; intro A5 c5 w5 hown5 hg5 hat5)
      have hb5 := Zah hBB hoA hg5 (by simp; omega) lR
      rw [← hvs.out] at hown5
      clear hoA hBB hg5 hat5
      go_wp2
      go_roundw
      case rel => exact ⟨k + 1, A5, c5, t0, t1, _, _, _, _, _, _, by omega, by go_num, rfl, rfl, rfl, hown5, hBA, hCA, hM0, hM1, N0, N1, hb5⟩
      case measure => simp [intOf]; omega
  ·obtain rfl : n = k := by omega
   have hb9 := b1.trans (hbw.mono b1.size)
   go_wp2
   go_ret
   exact RetI.mk_ (hvlen _) rfl (hO.lo_ b1.size) hb9
end Go.Proofs.YtenknpcbbcbciaaGreat
