/- The contract of slices.Clone at gates. Lengths below 2^21. -/
import Derived.Test.YtadgmbkpbgcdjaaAo
namespace Go.Proofs.Ytadgmbkpbgcdjaa
open Go.RowKit
set_option linter.unusedVariables false
set_option linter.unusedSimpArgs false

theorem CloneG_any (A : Option Addr) (n c : Nat) (gs : List G3) (w : World) (ha : RG w A n gs) (hn : n ≤ 2097152) :
    Calls Try.prog 45 #[.slice A n c] w fun e w' => ∃ A' c', e = .returned (.slice A' n c') ∧ OwnG w' w.heap.size w'.heap.size (.slice A' n c') n gs ∧ Below w.heap.size w w' := by
  have hl := ha.len
  rcases A with _ | ad
  · have h0 : n = 0 := by
      rcases Nat.eq_zero_or_pos n with h | h
      · exact h
      · obtain ⟨b, o, h', _⟩ := ha.2 h
        cases h'
    subst h0
    obtain rfl : gs = [] := List.eq_nil_of_length_eq_zero hl
    have he := fun W => Lib.run_eql_slice_nil (P := Try.prog) W (t := 27) (e := 60) none 0 c 0 0 Try.underlying27
    go_enter Try.func45, Try.ntmps45
    go_wp2
    go_ret
    exact ⟨_, _, rfl, OwnG.none_ _ _ _, Below.refl _ _⟩
  · have he := fun W => Lib.run_eql_slice_nil (P := Try.prog) W (t := 27) (e := 60) (some ad) n c 0 0 Try.underlying27
    have hB : Below w.heap.size w (w.alloc (.cells #[] 60)) := (Below.refl _ _).alloc (Nat.le_refl _) _
    have h0 := OwnG_new0 w w.heap.size (Nat.le_refl _)
    go_enter Try.func45, Try.ntmps45
    go_wp2_with (at_builtin; refine wpList_appG _ rfl _ _ rfl rfl h0 rfl (ha.alloc _) (by omega) (by simp) ?_; intro A' c' w1 hown hg hat hk)
    simp only [Nat.zero_add, List.nil_append] at hown
    go_wp2
    go_ret
    exact ⟨_, _, by simp, hown, below_appG hB h0 hg (by simp) (Nat.le_refl _)⟩

end Go.Proofs.Ytadgmbkpbgcdjaa
