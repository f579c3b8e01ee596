/- Contracts: BitsOf and NumberOf where they answer; the drawn number of lines. -/
import Derived.Test.YtjeojnfpeppclaaQR12
namespace Go.Proofs.Ytjeojnfpeppclaa
open Go.RowKit
set_option linter.unusedVariables false
set_option linter.unusedSimpArgs false
attribute [local go_sem] sepAt sepUpon pureAt pureUpon
theorem topN_stop {n f t : Nat} (h : ¬ 2 * t < n) : topN n f t = t := by cases f <;> simp [topN, h]
theorem topN_go {n f t : Nat} (h : 2 * t < n) : topN n (f + 1) t = topN n f (2 * t) := by simp [topN, h]
theorem mOut_pos {n top f p : Nat} (hp : 1 ≤ p) : mOut n top (f + 1) p = mMid n p 5 top 0 p ++ mOut n top f (p / 2) := by rw [mOut, if_neg (by omega)]
theorem mOut_zero (n top f : Nat) : mOut n top f 0 = [] := by cases f <;> simp [mOut]
theorem mFr_yes {d p r i c : Nat} (h : i &&& p = r) : mFr d p r i (c + 1) = ⟨(i : Int), (i : Int) + (d : Int)⟩ :: mFr d p r (i + 1) c := by rw [mFr, if_pos h, Int.natCast_add]
theorem mFr_no {d p r i c : Nat} (h : ¬ i &&& p = r) : mFr d p r i (c + 1) = mFr d p r (i + 1) c := by rw [mFr, if_neg h]
theorem le_len {α : Type} {L R M : List α} {b : Nat} (h : L ++ R = M) (hb : M.length ≤ b) : L.length ≤ b := by subst h; rw [List.length_append] at hb; omega
set_option maxRecDepth 100000 in
set_option maxHeartbeats 4000000 in
theorem MergeNetwork_any (n : Int) (w : World) : Calls Try.prog 6 #[.int .i64 n] w (RetOS w (mgnF n)) := by
 cases h1 : inB 1 12 n with
 | false =>
  have HR : Hid (mgnF n = none) := zH (by simp [mgnF, h1])
  go_enter Try.func6, Try.ntmps6
  go_wp2_with fail
  refine (Zac n 1 12 _ h1 _).mono ?_
  rintro e w1 ⟨rfl, rfl⟩
  go_wp2
  go_ret2
  exact RetOS.none_ HR.out (bA)
 | true =>
  have hn := inB_iff.1 h1
  obtain ⟨N, rfl⟩ : ∃ N : Nat, n = N := ⟨n.toNat, by omega⟩
  have hR : mgnF N = some (mgn N) := by simp [mgnF, h1]
  have hl60 : (mgn N).length ≤ 60 := by obtain ⟨_, _, _, _, _, _, h60, _⟩ := mgn_law hR; exact h60
  have HR := zH hR; clear hR
  have hN1 : 1 ≤ N := by omega
  have hN : N ≤ 12 := by omega
  clear hn
  go_enter Try.func6, Try.ntmps6
  go_wp2_with fail
  refine (Zac N 1 12 _ h1 _).mono ?_
  rintro e w1 ⟨rfl, rfl⟩
  clear h1
  have hE0 : OwnS (w.alloc (.cells #[] 54)) w.heap.size (w.alloc (.cells #[] 54)).heap.size (.slice (some ⟨w.heap.size, 0, none⟩) 0 0) 0 [] := (OwnS.new0 w w.heap.size lR).now
  have hB0 : Below w.heap.size w (w.alloc (.cells #[] 54)) := bA
  go_wp2_with fail
  go_loop [5] (fun t => ∃ T f : Nat, t = .int .i64 T ∧ Hid (topN N f T = topN N 4 1) ∧ (T = 1 ∧ f = 4 ∨ T = 2 ∧ f = 3 ∨ T = 4 ∧ f = 2 ∨ T = 8 ∧ f = 1) ∧ (T < N ∨ N = 1)) (fun t => N - (intOf t).toNat)
  case atStart => exact ⟨1, 4, rfl, zH rfl, by omega, by omega⟩
  case round =>
   obtain ⟨T, f, rfl, hT, hTf, hTN⟩ := hrel
   have hw1 : IntKind.i64.wrap (2 * (T : Int)) = 2 * (T : Int) := by rw [IntKind.wrap_i64] <;> omega
   have hw2 : IntKind.i64.wrap ((T : Int) * 2) = (T : Int) * 2 := by rw [IntKind.wrap_i64] <;> omega
   by_cases hlt : 2 * T < N
   ·have hlt' : 2 * (T : Int) < (N : Int) := by omega
    obtain ⟨f', rfl⟩ : ∃ f', f = f' + 1 := ⟨f - 1, by omega⟩
    have hT2 : Hid (topN N f' (2 * T) = topN N 4 1) := zH (by rw [← topN_go hlt]; exact hT.out)
    clear hT
    go_wp2
    go_round
    case rel => exact ⟨2 * T, f', congrArg (Value.int .i64) (by omega), hT2, by omega, by omega⟩
    case measure => simp [intOf]; omega
   ·have hlt' : ¬ 2 * (T : Int) < (N : Int) := by omega
    have HT : Hid (topN N 4 1 = T) := zH (by rw [← hT.out, topN_stop hlt])
    have hT8 : T ≤ 8 := by omega
    have hTp : (T = 1 ∨ T = 2 ∨ T = 4 ∨ T = 8) := by omega
    clear hT hTf
    by_cases hN2 : N = 1
    ·subst hN2
     clear hlt
     go_wp2
     go_ret2
     exact RetOS.some_ (ls := []) HR.out rfl hE0 hB0
    ·have HG : Hid (mOut N T 5 T = mgn N) := zH (by unfold mgn; rw [if_neg hN2, HT.out])
     have hTN2 : T < N := by omega
     have hN2' : ¬ (N : Int) = 1 := by omega
     have hN2b : ((N : Int) == 1) = false := by simpa using hN2'
     clear HT hTN hw1 hw2
     go_wp2_with fail
     clear hlt hlt'
     go_loopw [4, 6] (fun v i wr => ∃ (p f : Nat) (L : List Sp) (A' : Option Addr) (c' : Nat), (p = 0 ∨ (p = 1 ∨ p = 2 ∨ p = 4 ∨ p = 8)) ∧ p ≤ T ∧ p < 2 ^ f ∧ i = .int .i64 p ∧ v = .slice A' L.length c' ∧ OwnS wr w.heap.size wr.heap.size (.slice A' L.length c') L.length L ∧ Hid (L ++ mOut N T f p = mgn N) ∧ Below w.heap.size w wr) (fun _ i _ => (intOf i).toNat)
     case atStart => exact ⟨T, 5, [], _, _, by omega, Nat.le_refl _, by omega, rfl, rfl, hE0, HG, hB0⟩
     case round =>
      clear hE0 hB0 HG
      obtain ⟨p, f, L, A', c', hp2, hpT, hpf, rfl, rfl, ho, hL, hb⟩ := hrel
      have hz := hb.size
      by_cases hp : 1 ≤ p
      ·have hp' : (1 : Int) ≤ (p : Int) := by omega
       have hpp : (p = 1 ∨ p = 2 ∨ p = 4 ∨ p = 8) := by omega
       obtain ⟨f', rfl⟩ : ∃ f', f = f' + 1 := ⟨f - 1, by cases f with | zero => simp at hpf; omega | succ f => rfl⟩
       have hpf' : p / 2 < 2 ^ f' := by rw [Nat.pow_succ] at hpf; omega
       obtain ⟨R, hR⟩ := lT (mOut N T f' (p / 2))
       have hL2 : Hid (L ++ (mMid N p 5 T 0 p ++ R) = mgn N) := zH (by rw [← hR.out, ← mOut_pos hp]; exact hL.out)
       clear hL hp2 hpf
       go_wp2_with fail
       go_loopw [4, 7, 8, 9] (fun v q r d wr => ∃ (Q rr D g : Nat) (L : List Sp) (A' : Option Addr) (c' : Nat), ((Q = 1 ∨ Q = 2 ∨ Q = 4 ∨ Q = 8) ∧ p ≤ Q ∧ Q ≤ T ∧ Q < 2 ^ g ∧ 1 ≤ D ∧ D ≤ T ∧ rr ≤ 8) ∧ q = .int .i64 Q ∧ r = .int .i64 rr ∧ d = .int .i64 D ∧ v = .slice A' L.length c' ∧ OwnS wr w.heap.size wr.heap.size (.slice A' L.length c') L.length L ∧ Hid (L ++ (mMid N p g Q rr D ++ R) = mgn N) ∧ Below w.heap.size w wr) (fun _ q _ _ _ => (intOf q).toNat)
       case atStart => exact ⟨T, 0, p, 5, L, _, _, ⟨hTp, hpT, Nat.le_refl _, by omega, hp, hpT, by omega⟩, rfl, rfl, rfl, rfl, ho, hL2, hb⟩
       case round =>
        clear ho hL2 hb hz
        obtain ⟨Q, rr, D, g, L, A', c', ⟨hQ2, hpQ, hQT, hQg, hD1, hDT, hrr⟩, rfl, rfl, rfl, rfl, ho, hL, hb⟩ := hrel
        have hz := hb.size
        obtain ⟨g', rfl⟩ : ∃ g', g = g' + 1 := ⟨g - 1, by cases g with | zero => simp at hQg; omega | succ g => rfl⟩
        have hQg' : Q / 2 < 2 ^ g' := by rw [Nat.pow_succ] at hQg; omega
        obtain ⟨X, hX⟩ : ∃ X, Hid ((if Q = p then [] else mMid N p g' (Q / 2) p (Q - p)) = X) := ⟨_, zH rfl⟩
        have hL2 : Hid (L ++ (mFr D p rr 0 (N - D) ++ (X ++ R)) = mgn N) := zH (by
         have h := hL.out
         rw [mMid, hX.out, List.append_assoc] at h
         exact h)
        obtain ⟨C, hC⟩ : ∃ C, N - D = C := ⟨_, rfl⟩
        have hCi : (N : Int) - (D : Int) = (C : Int) := by omega
        have hw3 : IntKind.i64.wrap ((N : Int) - (D : Int)) = (C : Int) := by rw [hCi, IntKind.wrap_i64] <;> omega
        rw [hC] at hL2
        clear hL hQg hC
        go_wp2_with fail
        try rw [hCi]
        go_loopw [4, 34] (fun v j wr => ∃ (i : Nat) (L : List Sp) (A' : Option Addr) (c' : Nat), i ≤ C ∧ j = .int .i64 i ∧ v = .slice A' L.length c' ∧ OwnS wr w.heap.size wr.heap.size (.slice A' L.length c') L.length L ∧ Hid (L ++ (mFr D p rr i (C - i) ++ (X ++ R)) = mgn N) ∧ Below w.heap.size w wr) (fun _ j _ => C - (intOf j).toNat)
        case atStart => exact ⟨0, L, _, _, Nat.zero_le _, rfl, rfl, ho, hL2, hb⟩
        case round =>
         clear ho hL2 hb hz
         obtain ⟨i, M, A2, c2, hi, rfl, rfl, ho, hM, hb⟩ := hrel
         have hz := hb.size
         by_cases hlt : i < C
         ·have hlt' : (i : Int) < (C : Int) := by omega
          have hCs : C - i = (C - (i + 1)) + 1 := by omega
          have hbn := band_nat (a := i) (b := p) (by omega) (by omega)
          have hM1 := hM.out
          rw [hCs] at hM1
          by_cases ha : i &&& p = rr
          ·have hbe : (bits .and .i64 (i : Int) (p : Int) == (rr : Int)) = true := by rw [hbn, ha]; simp
           rw [mFr_yes ha, List.cons_append, ← snoc_app] at hM1
           have hM2 := zH hM1
           have hlen := le_len hM.out hl60
           clear hM1 hM ha hbn
           have hl5 : Hid ((M ++ [(⟨(i : Int), (i : Int) + (D : Int)⟩ : Sp)]).length = M.length + 1) := zH (by simp)
           obtain ⟨q, hq⟩ : ∃ q, M.length = q := ⟨_, rfl⟩
           rw [hq] at ho hlen hl5 ⊢
           clear hq
           have hoA := ho.alloc (.cells #[.int .i64 (i : Int), .int .i64 ((i : Int) + (D : Int))] 54)
           have hbA := hb.alloc hz (.cells #[.int .i64 (i : Int), .int .i64 ((i : Int) + (D : Int))] 54)
           have t0 := Zaa wr #[.int .i64 (i : Int), .int .i64 ((i : Int) + (D : Int))] (T := 54) 0 (.int .i64 (i : Int)) rfl
           have t1 := Zaa wr #[.int .i64 (i : Int), .int .i64 ((i : Int) + (D : Int))] (T := 54) 1 (.int .i64 ((i : Int) + (D : Int))) rfl
           have hw4 : IntKind.i64.wrap ((i : Int) + (D : Int)) = (i : Int) + (D : Int) := by rw [IntKind.wrap_i64] <;> omega
           go_wp2_with (at_builtin; refine Zal (p := ⟨(i : Int), (i : Int) + (D : Int)⟩) rfl _ _ rfl rfl hoA rfl t0 t1 (by omega) oM ?_; intro A5 c5 w5 hown5 hg5 hat5)
           have hb5 := Zbg hbA hoA hg5 (by simp; omega) (by omega)
           clear t0 t1 ho hb hoA hbA hg5 hat5
           go_wp2
           go_roundw
           case rel => exact ⟨i + 1, _, A5, c5, by omega, by go_num, by rw [hl5.out], by rw [hl5.out]; exact hown5, hM2, hb5⟩
           case measure => simp [intOf] <;> omega
          ·have hbe : (bits .and .i64 (i : Int) (p : Int) == (rr : Int)) = false := by
            rw [hbn]
            have : ¬ ((i &&& p : Nat) : Int) = (rr : Int) := fun h => ha (by omega)
            simpa using this
           rw [mFr_no ha] at hM1
           have hM2 := zH hM1
           clear hM1 hM ha hbn
           go_wp2
           go_roundw
           case rel => exact ⟨i + 1, M, A2, c2, by omega, by go_num, rfl, ho, hM2, hb⟩
           case measure => simp [intOf]; omega
         ·obtain rfl : i = C := by omega
          have hM1 := hM.out
          rw [Nat.sub_self, mFr, List.nil_append] at hM1
          clear hM
          by_cases hq : Q = p
          ·subst hq
           rw [← hX.out, if_pos rfl, List.nil_append, ← hR.out] at hM1
           have hM2 := zH hM1
           clear hM1 hX hlt hw3 hCi
           have hqq : ((Q : Int) == (Q : Int)) = true := by simp
           go_wp2
           go_roundw
           case rel => exact ⟨Q / 2, f', M, A2, c2, by omega, by omega, hpf', congrArg (Value.int .i64) (by omega), rfl, ho, hM2, hb⟩
           case measure => simp [intOf] <;> omega
          ·rw [← hX.out, if_neg hq] at hM1
           have hM2 := zH hM1
           have hqi : ¬ (Q : Int) = (p : Int) := by omega
           have hqq : ((Q : Int) == (p : Int)) = false := by simpa using hqi
           have hw5 : IntKind.i64.wrap ((Q : Int) - (p : Int)) = (Q : Int) - (p : Int) := by rw [IntKind.wrap_i64] <;> omega
           clear hM1 hX hlt hw3 hCi
           go_wp2
           go_roundw
           case rel => exact ⟨Q / 2, p, Q - p, g', M, A2, c2, ⟨by omega, by omega, by omega, hQg', by omega, by omega, by omega⟩, congrArg (Value.int .i64) (by omega), rfl, congrArg (Value.int .i64) (by omega), rfl, ho, hM2, hb⟩
           case measure => simp [intOf] <;> omega
      ·obtain rfl : p = 0 := by omega
       have hp' : ¬ (1 : Int) ≤ ((0 : Nat) : Int) := by omega
       have hM1 := hL.out
       rw [mOut_zero, List.append_nil] at hM1
       subst hM1
       clear hL
       obtain ⟨q, hq⟩ : ∃ q, (mgn N).length = q := ⟨_, rfl⟩
       rw [hq] at ho hl60 ⊢
       have hq2 := zH hq; clear hq
       have h61 : ¬ (60 : Int) < (q : Int) := by omega
       go_wp2
       go_ret2
       exact RetOS.some_ HR.out hq2.out ho hb
end Go.Proofs.Ytjeojnfpeppclaa
namespace Go.Proofs.Ytjeojnfpeppclaa
open Go.RowKit
set_option linter.unusedVariables false
set_option linter.unusedSimpArgs false
attribute [local go_sem] sepAt sepUpon pureAt pureUpon
set_option maxRecDepth 100000 in
set_option maxHeartbeats 4000000 in
theorem soMerge_any (N : Nat) (hN1 : 1 ≤ N) (hN : N ≤ 12) (hl60 : (mgn N).length ≤ 60) (w : World) : Calls Try.prog 29 #[.int .i64 N] w fun e w' => ∃ A c, e = .returned (.slice A (mgn N).length c) ∧ OwnS w' w.heap.size w'.heap.size (.slice A (mgn N).length c) (mgn N).length (mgn N) ∧ Below w.heap.size w w' := by
 go_enter Try.func29, Try.ntmps29
 have hE0 : OwnS w w.heap.size w.heap.size (.slice none 0 0) 0 [] := OwnS.none_ _ _ _
 have hB0 : Below w.heap.size w w := Below.refl _ _
 go_wp2_with fail
 go_loop [4] (fun t => ∃ T f : Nat, t = .int .i64 T ∧ Hid (topN N f T = topN N 4 1) ∧ (T = 1 ∧ f = 4 ∨ T = 2 ∧ f = 3 ∨ T = 4 ∧ f = 2 ∨ T = 8 ∧ f = 1) ∧ (T < N ∨ N = 1)) (fun t => N - (intOf t).toNat)
 case atStart => exact ⟨1, 4, rfl, zH rfl, by omega, by omega⟩
 case round =>
  obtain ⟨T, f, rfl, hT, hTf, hTN⟩ := hrel
  have hw1 : IntKind.i64.wrap (2 * (T : Int)) = 2 * (T : Int) := by rw [IntKind.wrap_i64] <;> omega
  have hw2 : IntKind.i64.wrap ((T : Int) * 2) = (T : Int) * 2 := by rw [IntKind.wrap_i64] <;> omega
  by_cases hlt : 2 * T < N
  ·have hlt' : 2 * (T : Int) < (N : Int) := by omega
   obtain ⟨f', rfl⟩ : ∃ f', f = f' + 1 := ⟨f - 1, by omega⟩
   have hT2 : Hid (topN N f' (2 * T) = topN N 4 1) := zH (by rw [← topN_go hlt]; exact hT.out)
   clear hT
   go_wp2
   go_round
   case rel => exact ⟨2 * T, f', congrArg (Value.int .i64) (by omega), hT2, by omega, by omega⟩
   case measure => simp [intOf]; omega
  ·have hlt' : ¬ 2 * (T : Int) < (N : Int) := by omega
   have HT : Hid (topN N 4 1 = T) := zH (by rw [← hT.out, topN_stop hlt])
   have hT8 : T ≤ 8 := by omega
   have hTp : (T = 1 ∨ T = 2 ∨ T = 4 ∨ T = 8) := by omega
   clear hT hTf
   by_cases hN2 : N = 1
   ·subst hN2
    clear hlt
    have hpz : (0 : Int) < (T : Int) := by omega
    go_wp2_with fail
    go_loop [3, 5] (fun v p => v = .slice none 0 0 ∧ ∃ P : Nat, p = .int .i64 P) (fun _ _ => 0)
    case atStart => exact ⟨rfl, T, rfl⟩
    case round =>
     obtain ⟨rfl, P, rfl⟩ := hrel
     by_cases hp0 : (0 : Int) < (P : Int)
     ·go_wp2
      go_ret
      exact ⟨none, 0, rfl, hE0, hB0⟩
     ·go_wp2
      go_ret
      exact ⟨none, 0, rfl, hE0, hB0⟩
   ·have HG : Hid (mOut N T 5 T = mgn N) := zH (by unfold mgn; rw [if_neg hN2, HT.out])
    have hTN2 : T < N := by omega
    have hN2' : ¬ (N : Int) = 1 := by omega
    have hN2b : ((N : Int) == 1) = false := by simpa using hN2'
    clear HT hTN hw1 hw2
    go_wp2_with fail
    clear hlt hlt'
    go_loopw [3, 5] (fun v i wr => ∃ (p f : Nat) (L : List Sp) (A' : Option Addr) (c' : Nat), (p = 0 ∨ (p = 1 ∨ p = 2 ∨ p = 4 ∨ p = 8)) ∧ p ≤ T ∧ p < 2 ^ f ∧ i = .int .i64 p ∧ v = .slice A' L.length c' ∧ OwnS wr w.heap.size wr.heap.size (.slice A' L.length c') L.length L ∧ Hid (L ++ mOut N T f p = mgn N) ∧ Below w.heap.size w wr) (fun _ i _ => (intOf i).toNat)
    case atStart => exact ⟨T, 5, [], _, _, by omega, Nat.le_refl _, by omega, rfl, rfl, hE0, HG, hB0⟩
    case round =>
     clear hE0 hB0 HG
     obtain ⟨p, f, L, A', c', hp2, hpT, hpf, rfl, rfl, ho, hL, hb⟩ := hrel
     have hz := hb.size
     by_cases hp : 1 ≤ p
     ·have hp' : (0 : Int) < (p : Int) := by omega
      have hN3 : (1 : Int) < (N : Int) := by omega
      have hpp : (p = 1 ∨ p = 2 ∨ p = 4 ∨ p = 8) := by omega
      obtain ⟨f', rfl⟩ : ∃ f', f = f' + 1 := ⟨f - 1, by cases f with | zero => simp at hpf; omega | succ f => rfl⟩
      have hpf' : p / 2 < 2 ^ f' := by rw [Nat.pow_succ] at hpf; omega
      obtain ⟨R, hR⟩ := lT (mOut N T f' (p / 2))
      have hL2 : Hid (L ++ (mMid N p 5 T 0 p ++ R) = mgn N) := zH (by rw [← hR.out, ← mOut_pos hp]; exact hL.out)
      clear hL hp2 hpf
      go_wp2_with fail
      go_loopw [3, 6, 7, 8] (fun v q r d wr => ∃ (Q rr D g : Nat) (L : List Sp) (A' : Option Addr) (c' : Nat), ((Q = 1 ∨ Q = 2 ∨ Q = 4 ∨ Q = 8) ∧ p ≤ Q ∧ Q ≤ T ∧ Q < 2 ^ g ∧ 1 ≤ D ∧ D ≤ T ∧ rr ≤ 8) ∧ q = .int .i64 Q ∧ r = .int .i64 rr ∧ d = .int .i64 D ∧ v = .slice A' L.length c' ∧ OwnS wr w.heap.size wr.heap.size (.slice A' L.length c') L.length L ∧ Hid (L ++ (mMid N p g Q rr D ++ R) = mgn N) ∧ Below w.heap.size w wr) (fun _ q _ _ _ => (intOf q).toNat)
      case atStart => exact ⟨T, 0, p, 5, L, _, _, ⟨hTp, hpT, Nat.le_refl _, by omega, hp, hpT, by omega⟩, rfl, rfl, rfl, rfl, ho, hL2, hb⟩
      case round =>
       clear ho hL2 hb hz
       obtain ⟨Q, rr, D, g, L, A', c', ⟨hQ2, hpQ, hQT, hQg, hD1, hDT, hrr⟩, rfl, rfl, rfl, rfl, ho, hL, hb⟩ := hrel
       have hz := hb.size
       obtain ⟨g', rfl⟩ : ∃ g', g = g' + 1 := ⟨g - 1, by cases g with | zero => simp at hQg; omega | succ g => rfl⟩
       have hQg' : Q / 2 < 2 ^ g' := by rw [Nat.pow_succ] at hQg; omega
       obtain ⟨X, hX⟩ : ∃ X, Hid ((if Q = p then [] else mMid N p g' (Q / 2) p (Q - p)) = X) := ⟨_, zH rfl⟩
       have hL2 : Hid (L ++ (mFr D p rr 0 (N - D) ++ (X ++ R)) = mgn N) := zH (by
        have h := hL.out
        rw [mMid, hX.out, List.append_assoc] at h
        exact h)
       obtain ⟨C, hC⟩ : ∃ C, N - D = C := ⟨_, rfl⟩
       have hCi : (N : Int) - (D : Int) = (C : Int) := by omega
       have hw3 : IntKind.i64.wrap ((N : Int) - (D : Int)) = (N : Int) - (D : Int) := by rw [IntKind.wrap_i64] <;> omega
       rw [hC] at hL2
       clear hL hQg hC
       go_wp2_with fail
       go_loopw [3, 9] (fun v j wr => ∃ (i : Nat) (L : List Sp) (A' : Option Addr) (c' : Nat), i ≤ C ∧ j = .int .i64 i ∧ v = .slice A' L.length c' ∧ OwnS wr w.heap.size wr.heap.size (.slice A' L.length c') L.length L ∧ Hid (L ++ (mFr D p rr i (C - i) ++ (X ++ R)) = mgn N) ∧ Below w.heap.size w wr) (fun _ j _ => C - (intOf j).toNat)
       case atStart => exact ⟨0, L, _, _, Nat.zero_le _, rfl, rfl, ho, hL2, hb⟩
       case round =>
        clear ho hL2 hb hz
        obtain ⟨i, M, A2, c2, hi, rfl, rfl, ho, hM, hb⟩ := hrel
        have hz := hb.size
        by_cases hlt : i < C
        ·have hlt' : (i : Int) < (N : Int) - (D : Int) := by omega
         have hCs : C - i = (C - (i + 1)) + 1 := by omega
         have hbn := band_nat (a := i) (b := p) (by omega) (by omega)
         have hM1 := hM.out
         rw [hCs] at hM1
         by_cases ha : i &&& p = rr
         ·have hbe : (bits .and .i64 (i : Int) (p : Int) == (rr : Int)) = true := by rw [hbn, ha]; simp
          rw [mFr_yes ha, List.cons_append, ← snoc_app] at hM1
          have hM2 := zH hM1
          have hlen := le_len hM.out hl60
          clear hM1 hM ha hbn
          have hl5 : Hid ((M ++ [(⟨(i : Int), (i : Int) + (D : Int)⟩ : Sp)]).length = M.length + 1) := zH (by simp)
          obtain ⟨q, hq⟩ : ∃ q, M.length = q := ⟨_, rfl⟩
          rw [hq] at ho hlen hl5 ⊢
          clear hq
          have hoA := ho.alloc (.cells #[.int .i64 (i : Int), .int .i64 ((i : Int) + (D : Int))] 54)
          have hbA := hb.alloc hz (.cells #[.int .i64 (i : Int), .int .i64 ((i : Int) + (D : Int))] 54)
          have t0 := Zaa wr #[.int .i64 (i : Int), .int .i64 ((i : Int) + (D : Int))] (T := 54) 0 (.int .i64 (i : Int)) rfl
          have t1 := Zaa wr #[.int .i64 (i : Int), .int .i64 ((i : Int) + (D : Int))] (T := 54) 1 (.int .i64 ((i : Int) + (D : Int))) rfl
          have hw4 : IntKind.i64.wrap ((i : Int) + (D : Int)) = (i : Int) + (D : Int) := by rw [IntKind.wrap_i64] <;> omega
          go_wp2_with (at_builtin; refine Zal (p := ⟨(i : Int), (i : Int) + (D : Int)⟩) rfl _ _ rfl rfl hoA rfl t0 t1 (by omega) oM ?_; intro A5 c5 w5 hown5 hg5 hat5)
          have hb5 := Zbg hbA hoA hg5 (by simp; omega) (by omega)
          clear t0 t1 ho hb hoA hbA hg5 hat5
          go_wp2
          go_roundw
          case rel => exact ⟨i + 1, _, A5, c5, by omega, by go_num, by rw [hl5.out], by rw [hl5.out]; exact hown5, hM2, hb5⟩
          case measure => simp [intOf] <;> omega
         ·have hbe : (bits .and .i64 (i : Int) (p : Int) == (rr : Int)) = false := by
           rw [hbn]
           have : ¬ ((i &&& p : Nat) : Int) = (rr : Int) := fun h => ha (by omega)
           simpa using this
          rw [mFr_no ha] at hM1
          have hM2 := zH hM1
          clear hM1 hM ha hbn
          go_wp2
          go_roundw
          case rel => exact ⟨i + 1, M, A2, c2, by omega, by go_num, rfl, ho, hM2, hb⟩
          case measure => simp [intOf]; omega
        ·have hlt' : ¬ (i : Int) < (N : Int) - (D : Int) := by omega
         obtain rfl : i = C := by omega
         have hM1 := hM.out
         rw [Nat.sub_self, mFr, List.nil_append] at hM1
         clear hM
         by_cases hq : Q = p
         ·subst hq
          rw [← hX.out, if_pos rfl, List.nil_append, ← hR.out] at hM1
          have hM2 := zH hM1
          clear hM1 hX hlt
          have hqq : ((Q : Int) == (Q : Int)) = true := by simp
          go_wp2
          go_roundw
          case rel => exact ⟨Q / 2, f', M, A2, c2, by omega, by omega, hpf', congrArg (Value.int .i64) (by omega), rfl, ho, hM2, hb⟩
          case measure => simp [intOf] <;> omega
         ·rw [← hX.out, if_neg hq] at hM1
          have hM2 := zH hM1
          have hqi : ¬ (Q : Int) = (p : Int) := by omega
          have hqq : ((Q : Int) == (p : Int)) = false := by simpa using hqi
          have hw5 : IntKind.i64.wrap ((Q : Int) - (p : Int)) = (Q : Int) - (p : Int) := by rw [IntKind.wrap_i64] <;> omega
          clear hM1 hX hlt
          go_wp2
          go_roundw
          case rel => exact ⟨Q / 2, p, Q - p, g', M, A2, c2, ⟨by omega, by omega, by omega, hQg', by omega, by omega, by omega⟩, congrArg (Value.int .i64) (by omega), rfl, congrArg (Value.int .i64) (by omega), rfl, ho, hM2, hb⟩
          case measure => simp [intOf] <;> omega
     ·obtain rfl : p = 0 := by omega
      have hp' : ¬ (0 : Int) < ((0 : Nat) : Int) := by omega
      have hM1 := hL.out
      rw [mOut_zero, List.append_nil] at hM1
      subst hM1
      clear hL
      go_wp2
      go_ret
      exact ⟨_, _, rfl, ho, hb⟩
theorem spec_MergeNetwork_any (n : Int) (w : World) : Calls Try.prog 7 #[.int .i64 n] w (RetOS w (mgnF n)) := by
 cases h1 : inB 1 12 n with
 | false =>
  have HR : Hid (mgnF n = none) := zH (by simp [mgnF, h1])
  go_enter Try.func7, Try.ntmps7
  go_wp2_with fail
  refine (Zad n 1 12 _ h1 _).mono ?_
  rintro e w1 ⟨rfl, rfl⟩
  go_wp2
  go_ret2
  exact RetOS.none_ HR.out (Below.refl _ _)
 | true =>
  have hn := inB_iff.1 h1
  obtain ⟨N, rfl⟩ : ∃ N : Nat, n = N := ⟨n.toNat, by omega⟩
  have hR : mgnF N = some (mgn N) := by simp [mgnF, h1]
  have hl60 : (mgn N).length ≤ 60 := by obtain ⟨_, _, _, _, _, _, h60, _⟩ := mgn_law hR; exact h60
  have HR := zH hR; clear hR
  have hN1 : 1 ≤ N := by omega
  have hN : N ≤ 12 := by omega
  clear hn
  go_enter Try.func7, Try.ntmps7
  go_wp2_with fail
  refine (Zad N 1 12 _ h1 _).mono ?_
  rintro e w1 ⟨rfl, rfl⟩
  go_wp2_with fail
  refine (soMerge_any N hN1 hN hl60 _).mono ?_
  rintro e w2 ⟨A, c, rfl, ho, hb⟩
  go_wp2
  go_ret2
  exact RetOS.some_ HR.out rfl ho hb
end Go.Proofs.Ytjeojnfpeppclaa
namespace Go.Proofs.Ytjeojnfpeppclaa
open Go.RowKit
set_option linter.unusedVariables false
set_option linter.unusedSimpArgs false
attribute [local go_sem] sepAt sepUpon pureAt pureUpon
set_option maxHeartbeats 1600000 in
theorem Zbr (A B : Option Addr) (n c d : Nat) (ls : List Sp) (w : World) (ha : RS w A n ls) (hb : RS w B n ls) (hn : n ≤ 2097152) :
 Calls Try.prog 10 #[.slice A n c, .slice B n d] w fun e w' => e = .returned (.bool true) ∧ Below w.heap.size w w' := by
 have hl := ha.len
 go_enter Try.func10, Try.ntmps10
 go_wp2_with fail
 go_loopw [13] (fun i wr => ∃ k : Nat, k ≤ n ∧ i = .int .i64 k ∧ Below w.heap.size w wr) (fun i _ => n - (intOf i).toNat)
 case atStart => exact ⟨0, Nat.zero_le _, rfl, Below.refl _ _⟩
 case round =>
  obtain ⟨k, hk, rfl, hbw⟩ := hrel
  by_cases hlt : k < n
  ·obtain ⟨b1, o1, hA, hb1, c1, c2⟩ := (ha.below hbw lR).at_ hlt
   obtain ⟨b2, o2, hB, hb2, d1, d2⟩ := (hb.below hbw lR).at_ hlt
   subst hA; subst hB
   clear ha hb
   obtain ⟨s, hs⟩ := lT (ss ls k)
   rw [hs.out] at c1 c2 d1 d2
   obtain ⟨sl, sh⟩ := s
   dsimp only at c1 c2 d1 d2
   have hki : (k : Int) < (n : Int) := by omega
   generalize wr = W0 at *
   go_wp2_with fail
   go_wp2_with fail
   refine Zau (9) [(⟨b1, o1 + k * 2, none⟩, .int .i64 sl), (⟨b1, o1 + k * 2 + 1, none⟩, .int .i64 sh), (⟨b2, o2 + k * 2, none⟩, .int .i64 sl), (⟨b2, o2 + k * 2 + 1, none⟩, .int .i64 sh)] [] [] [] (by kernel_rfl) (by kernel_rfl) (by kernel_rfl) (by simp only [cD, cC, and_true]; repeat (any_goals (apply And.intro)); all_goals (first | assumption | go_simp)) ?_
   simp only [List.take_succ_cons, List.take_zero, List.drop_succ_cons, List.drop_zero, List.take_nil, List.drop_nil, List.take, List.drop]
   repeat (first
    | ((first
     | ((with_reducible refine Zam ?_ ?_ ?_)
        ·exact rfl
        ·exact rfl)
     | ((with_reducible refine Zar ?_ ?_ ?_)
        ·exact rfl
        ·exact Zab rfl rfl rfl rfl))
       intro K hK
       apply Exists.intro
       refine ⟨fun w3 hw3 => ?_, ?_⟩
       ·have hcs := hw3
        simp only [cD, cC, and_true] at hcs
        clear hw3
        go_simp
        first | done | exact ⟨rfl, rfl⟩ | rfl
       refine hK _ ?_
       clear hK K
       try simp only [pA, pB, sA, sB, sC])
    | ((with_reducible refine Zaq ?_ ?_ ?_)
       ·exact rfl
       ·exact Zah rfl rfl rfl rfl
       simp only [pA, pB, sA, sB, sC]))
   refine Zbj ?_
   intro wy hwy hcy hfin hap
   have bwy := Zbh hwy
   have hby := hbw.trans (bwy.mono hbw.size)
   clear hfin hap hcy hwy bwy hbw c1 c2 d1 d2
   go_wp2
   go_roundw
   case rel => exact ⟨k + 1, by omega, by go_num, hby⟩
   case measure => simp [intOf]; omega
  ·obtain rfl : n = k := by omega
   go_wp2
   go_ret
   exact ⟨rfl, hbw⟩
end Go.Proofs.Ytjeojnfpeppclaa
namespace Go.Proofs.Ytjeojnfpeppclaa
open Go.RowKit
set_option linter.unusedVariables false
set_option linter.unusedSimpArgs false
attribute [local go_sem] sepAt sepUpon pureAt pureUpon
def tblkW (A : Option Addr) (n : Nat) : Nat → Prop := fun i => 0 < n ∧ ∃ o, A = some ⟨i, o, none⟩
theorem tblkW_lt {w : World} {Y : Option Addr} {n : Nat} (hY : RY w Y n) : ∀ i, tblkW Y n i → i < w.heap.size := by
 rintro i ⟨hn, o, hq⟩
 obtain ⟨b, o', h1, h2, _⟩ := hY.2 hn
 rw [hq] at h1; injection h1 with h1; injection h1 with h3 h4; omega
theorem Cur.newW {w : World} {Y : Option Addr} {n c : Nat} (hY : RY w Y n) : Cur (w.alloc (.cells #[.slice Y n c, .int .i64 0, .int .u64 0] 68)) w.heap.size (tblkW Y n) 0 := by
 have h2 := hY.alt (Alt.of_new (S := fun _ => False) ((Below.refl w.heap.size w).alloc lR (.cells #[.slice Y n c, .int .i64 0, .int .u64 0] 68))) (fun _ _ _ _ h => h)
 refine ⟨Fz.new w _ _, by simp, Y, n, c, 0, 0, Zaa _ _ 0 _ rfl, Zaa _ _ 1 _ rfl, Zaa _ _ 2 _ rfl, Nat.le_refl _, h2, fun hn q o hA => ⟨⟨hn, o, hA⟩, ?_⟩⟩
 have := tblkW_lt hY q ⟨hn, o, hA⟩
 omega
def RetIb (lo hi : Int) (w : World) (e : Ending) (w' : World) : Prop := ∃ x : Int, lo ≤ x ∧ x ≤ hi ∧ e = .returned (.int .i64 x) ∧ Below w.heap.size w w'
end Go.Proofs.Ytjeojnfpeppclaa
namespace Go.Proofs.Ytjeojnfpeppclaa
open Go.RowKit
set_option linter.unusedVariables false
set_option linter.unusedSimpArgs false
attribute [local go_sem] sepAt sepUpon pureAt pureUpon
theorem BitsOf_ok (v W : Nat) (w : World) (hW : W ≤ 12) (hv : v < 2 ^ W) :
 Calls Try.prog 23 #[.int .i64 v, .int .i64 W] w (RetO w (some (bitsN v W))) := by
 obtain ⟨P, hP⟩ : ∃ P, P = 2 ^ W := ⟨_, rfl⟩
 rw [← hP] at hv
 obtain ⟨hP1, hsh⟩ := pow_wrapS hP hW
 clear hP
 have h1 : inB 0 16 (W : Int) = true := inB_iff.2 (by omega)
 have h2 : inB 0 ((P : Int) - 1) (v : Int) = true := inB_iff.2 (by omega)
 have H2 := zH h2
 go_enter Try.func23, Try.ntmps23
 go_wp2_with fail
 refine (Zac W 0 16 _ h1 _).mono ?_
 rintro e w1 ⟨rfl, rfl⟩
 clear h2
 have hw1 : IntKind.i64.wrap ((P : Int) - 1) = (P : Int) - 1 := by rw [IntKind.wrap_i64] <;> omega
 go_wp2_with fail
 rw [hsh]
 try rw [hw1]
 refine (Zac v 0 ((P : Int) - 1) _ H2.out _).mono ?_
 rintro e w1 ⟨rfl, rfl⟩
 go_wp2_with fail
 refine (bitsOf_any v W _ (by omega) (by omega)).mono ?_
 rintro e w2 hT
 obtain ⟨A, c, rfl, ho, hb⟩ := RetI.open_ hT (Zat _ _)
 go_wp2
 go_ret2
 exact RetO.some_ hb rfl (Zat _ _) rfl ho
theorem NumberOf_ok (A : Option Addr) (n c : Nat) (xs : List Int) (w : World) (ha : RI w A n xs) (hn : n ≤ 16) (hx : allB 0 1 xs = true) :
 Calls Try.prog 25 #[.slice A n c] w fun e w' => e = .returned (.tuple #[.int .i64 (numN xs), .bool true]) ∧ Below w.heap.size w w' := by
 have h1 : bitsB n 64 xs = true := by unfold bitsB; rw [hx, decide_eq_true (show n ≤ 64 by omega)]; rfl
 have H1 := zH h1; clear h1
 have HX := zH hx; clear hx
 go_enter Try.func25, Try.ntmps25
 go_wp2_with fail
 refine (AreBits_any A n c xs _ ha (by omega)).mono ?_
 rintro e w1 ⟨rfl, hb1⟩
 rw [H1.out]
 have hn' : ¬ (16 : Int) < (n : Int) := by omega
 go_wp2_with fail
 refine (number_any A n c xs _ (ha.below hb1 lR) (by omega) HX.out).mono ?_
 rintro e w2 ⟨rfl, rfl⟩
 go_wp2
 go_ret2
 exact ⟨rfl, hb1⟩
set_option maxRecDepth 100000 in
set_option maxHeartbeats 1000000 in
theorem Zbx (Y : Option Addr) (n c : Nat) (w : World) (hY : RY w Y n) :
 Calls Try.prog 26 #[.slice Y n c] w (RetIb (-1) 100 w) := by
 have hc0 := Cur.newW (c := c) hY
 have hA2 : Below w.heap.size w (w.alloc (.cells #[.slice Y n c, .int .i64 0, .int .u64 0] 68)) := bA
 go_enter Try.func26, Try.ntmps26
 go_wp2_with fail
 refine (Zap 15 w.heap.size (tblkW Y n) 0 _ hc0 (by omega) (by omega)).mono ?_
 rintro e a1 ⟨x, h1, h2, rfl, c1, k1, z1⟩
 have hx : x ≤ 15 := by omega
 have kw : Alt (fun i => i = w.heap.size) w a1 := (Alt.of_new (S := fun i => i = w.heap.size) hA2).trans_ k1 (fun _ _ h => h)
 have hw1 : IntKind.i64.wrap ((x : Int) - 1) = (x : Int) - 1 := by rw [IntKind.wrap_i64] <;> omega
 have hB := kw.below_ lR (fun i hi e => by omega)
 clear hc0 c1 k1 kw hA2
 go_wp2
 go_ret
 exact ⟨(x : Int) - 1, by omega, by omega, rfl, hB⟩
theorem DrawMergeNetwork_any (Y : Option Addr) (n c : Nat) (w : World) (hY : RY w Y n) :
 Calls Try.prog 5 #[.slice Y n c] w (RetIb (-1) 100 w) := by
 go_enter Try.func5, Try.ntmps5
 go_wp2_with fail
 refine (Zbx Y n c w hY).mono ?_
 rintro e a1 ⟨x, h1, h2, rfl, B1⟩
 go_wp2
 go_ret
 exact ⟨x, h1, h2, rfl, B1⟩
end Go.Proofs.Ytjeojnfpeppclaa
