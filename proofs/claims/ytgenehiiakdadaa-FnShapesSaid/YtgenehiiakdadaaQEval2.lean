/- Contracts of the values of an arithmetic circuit's wires, and of the elements of a list at places. -/
import Derived.Test.YtgenehiiakdadaaQEval
namespace Go.Proofs.Ytgenehiiakdadaa
open Go.RowKit
set_option linter.unusedVariables false
set_option linter.unusedSimpArgs false

set_option maxRecDepth 100000 in
set_option maxHeartbeats 800000 in
theorem ciPick_any (A B : Option Addr) (n c m d : Nat) (l os : List Int) (w : World) (ha : RI w A n l) (hb : RI w B m os) (hn : n ≤ 2097152) (hm : m ≤ 2097152) (hos : allB 0 ((n : Int) - 1) os = true) :
    Calls Try.prog 34 #[.slice A n c, .slice B m d] w (RetI w (pick l os)) := by
  have hl := ha.len
  have hlo := hb.len
  have HP := Lib.hid (pick_tab (l := l) hlo)
  go_enter Try.func34, Try.ntmps34
  go_wp2
  go_loopw [5, 10] (fun v i wr => ∃ (k : Nat) (A' : Option Addr) (c' : Nat), k ≤ m ∧ i = .int .i64 k ∧ v = .slice A' k c' ∧ Own wr w.heap.size wr.heap.size (.slice A' k c') k (tab k fun i => gi l (gi os i).toNat) ∧ Below w.heap.size w wr) (fun _ i _ => m - (intOf i).toNat)
  case atStart => first | exact ⟨0, _, _, Nat.zero_le _, rfl, rfl, Own.none_ _ _ _, Below.refl _ _⟩ | exact ⟨0, _, _, Nat.zero_le _, rfl, rfl, by simpa [tab_zero] using Own_new0 w w.heap.size (Nat.le_refl _), (Below.refl _ _).alloc (Nat.le_refl _) _⟩
  case round =>
    obtain ⟨k, A', c', hk, rfl, rfl, hown, hbw⟩ := hrel
    by_cases hlt : k < m
    · have hsn : Hid (tab (k + 1) (fun i => gi l (gi os i).toNat) = tab k (fun i => gi l (gi os i).toNat) ++ [gi l (gi os k).toNat]) := Lib.hid (tab_snoc k _)
      obtain ⟨h0, h1⟩ := allB_gi hos (j := k) (by omega)
      obtain ⟨b, o, rfl, hbB, c1⟩ := hb.at_ hlt
      have e1 := (hbw.cell (p := ⟨b, o + k, none⟩) hbB).trans c1
      have hz := hbw.size
      generalize gi os k = X at *
      obtain ⟨a, rfl⟩ := Int.eq_ofNat_of_zero_le h0
      obtain ⟨b', o', rfl, hbB', c2⟩ := ha.at_ (k := a) (by omega)
      have e2 := (hbw.cell (p := ⟨b', o' + a, none⟩) hbB').trans c2
      have hlt2 : (a : Int) < n := by omega
      have hst : ((a : Int).toNat) = a := rfl
      rw [hst] at hsn
      clear ha hb c1 c2 hst
      generalize gi l a = Y at *
      have hownA := hown.alloc (.cells #[.int .i64 Y] 3)
      have hbA := hbw.alloc hz (.cells #[.int .i64 Y] 3)
      clear hown hbw
      go_wp2_with (at_builtin; refine wpList_app _ rfl _ _ rfl rfl hownA rfl (RI_one _ _ _ _ (by simp)) (by omega) (by first | omega | (simp; done) | (simp; omega)) ?_; intro A5 c5 w5 hown5 hg5 hat5)
      have hb5 := below_app hbA hownA hg5 (by simp; omega) (Nat.le_refl _)
      rw [← hsn.out] at hown5
      clear hbA hownA hg5 hat5
      go_wp2
      go_roundw
      case rel => exact ⟨k + 1, _, _, by omega, by go_num, rfl, hown5, hb5⟩
      case measure => simp [intOf]; omega
    · obtain rfl : k = m := by omega
      rw [← HP.out] at hown
      go_wp2
      go_ret
      exact RetI.mk_ (by rw [pick_len]; exact hlo) rfl hown hbw

end Go.Proofs.Ytgenehiiakdadaa
