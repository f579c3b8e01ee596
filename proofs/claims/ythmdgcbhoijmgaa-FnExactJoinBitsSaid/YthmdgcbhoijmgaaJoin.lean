/- Contracts of JoinBits. -/
import Derived.Test.YthmdgcbhoijmgaaXor
import Derived.Test.YthmdgcbhoijmgaaLaw
namespace Go.Proofs.Ythmdgcbhoijmgaa
open Go.RowKit
set_option linter.unusedVariables false
set_option linter.unusedSimpArgs false

theorem xorF_len (n m : Nat) (xs ys : List Int) : ((xorF n m xs ys).getD []).length ≤ 64 := by
  unfold xorF
  split
  · rename_i h
    simp only [Bool.and_eq_true, decide_eq_true_eq] at h
    simpa [tab_len] using (bitsB_bd h.1.1).1
  · simp

theorem JoinBits_any {A B : Option Addr} {n c m d : Nat} {xs ys : List Int} {w : World} (r0 : RI w A n xs) (b0 : n ≤ 2097152) (r1 : RI w B m ys) (b1 : m ≤ 2097152) :
    Calls Try.prog 18 #[.slice A n c, .slice B m d] w (RetO w (xorF n m xs ys)) := by
  go_enter Try.func18, Try.ntmps18
  go_wp2_with fail
  refine (XorBits_any A B n c m d xs ys _ r0 r1 b0 b1).mono ?_
  rintro e w1 ⟨A1, c1, rfl, hown1, hb1⟩
  go_wp2
  go_ret2
  exact ⟨_, _, rfl, hown1, hb1⟩

theorem spec_JoinBits_any {A B : Option Addr} {n c m d : Nat} {xs ys : List Int} {w : World} (r0 : RI w A n xs) (b0 : n ≤ 2097152) (r1 : RI w B m ys) (b1 : m ≤ 2097152) :
    Calls Try.prog 16 #[.slice A n c, .slice B m d] w (RetO w (xorF n m xs ys)) := by
  go_enter Try.func16, Try.ntmps16
  go_wp2_with fail
  refine (spec_XorBits_any A B n c m d xs ys _ r0 r1 b0 b1).mono ?_
  rintro e w1 ⟨A1, c1, rfl, hown1, hb1⟩
  go_wp2
  go_ret2
  exact ⟨_, _, rfl, hown1, hb1⟩

end Go.Proofs.Ythmdgcbhoijmgaa
