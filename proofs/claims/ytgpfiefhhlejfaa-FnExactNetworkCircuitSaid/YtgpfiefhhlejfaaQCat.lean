/- slices.Grow of the nil slice, slices.Concat of lists of numbers. Lengths below 2^20. -/
import Derived.Test.YtgpfiefhhlejfaaQNest2
import Derived.Lib.AppendZerosOnto
namespace Go.Proofs.Ytgpfiefhhlejfaa
open Go.RowKit
set_option linter.unusedVariables false
set_option linter.unusedSimpArgs false

set_option maxHeartbeats 2000000 in
theorem Grow0_any (n : Nat) (w : World) (hn : n ≤ 1000000) :
    Calls Try.prog 72 #[.slice none 0 0, .int .i64 n] w fun e w' => ∃ A c, e = .returned (.slice A 0 c) ∧ Own w' w.heap.size w'.heap.size (.slice A 0 c) 0 [] ∧ Below w.heap.size w w' := by
  by_cases h0 : n = 0
  · subst h0
    go_enter Try.func72, Try.ntmps72
    go_wp2
    go_ret
    exact ⟨none, 0, rfl, Own.none_ _ _ _, Below.refl _ _⟩
  · obtain ⟨i, hi0, hz0, hz1, hz2⟩ := info_parts info_int
    have hold : (Builtin.firstCells i.size 0 (.slice none 0 0)).run Try.prog w.drew = .ok ([] : List Value).toArray w.drew := run_firstCells_none w.drew i.size 0 0 0
    have hrz : ∀ ty, (Builtin.append_ #[24, 3] ty #[.slice none 0 0, .int .i64 n]).run Try.prog w =
        .ok (.slice (some ⟨w.heap.size, 0, none⟩) n (grownCap w n 0 3)) (w.drew.alloc (.cells (([] : List Value).toArray ++ Builtin.zeroCells (Value.int .i64 0).cells n ++ Builtin.zeroCells (Value.int .i64 0).cells (grownCap w n 0 3 - n)) 3)) := fun ty => by
      have h := Lib.run_append_grow_zeros w 24 3 ty 3 i (.int .i64 0) .i64 .i64 Try.underlying24 Try.underlying3 hi0 hz0 none 0 0 [] hold n (by omega) (by rw [hz1]; decide) (by omega) (by omega)
        (by rw [hz2]; omega)
        (by rw [Nat.zero_add]; exact growslice_fits (by omega) (by rw [hz2]; omega))
      rw [Nat.zero_add] at h
      exact h
    have hGn : n ≤ grownCap w n 0 3 := grownCap_ge w _ _ _
    obtain ⟨G, hG⟩ : ∃ G, G = grownCap w n 0 3 := ⟨_, rfl⟩
    rw [← hG] at hrz hGn
    have hGm : G ≤ maxLen := by rw [hG]; exact grownCap_le_maxLen w n 0 3 (by unfold maxLen; omega)
    have hG63 : G ≤ 9223372036854775807 := by unfold maxLen at hGm; omega
    obtain ⟨C, hC⟩ : ∃ C, C = (([] : List Value).toArray ++ Builtin.zeroCells (Value.int .i64 0).cells n ++ Builtin.zeroCells (Value.int .i64 0).cells (G - n)) := ⟨_, rfl⟩
    rw [← hC] at hrz
    have hCs : C.size = G * 1 := by
      rw [hC]; simp [Builtin.zeroCells, Value.cells]; omega
    have hown : Own (w.drew.alloc (.cells C 3)) w.heap.size (w.drew.alloc (.cells C 3)).heap.size (.slice (some ⟨w.heap.size, 0, none⟩) 0 G) 0 [] := by
      refine ⟨⟨rfl, .inr ⟨w.heap.size, G, C, rfl, Nat.le_refl _, heap_alloc_new w.drew _, Nat.zero_le _, hGm, hCs, by simp⟩⟩, fun g hg => ?_⟩
      have hg' : w.heap.size = g := by simpa [Value.ownBlock] using hg
      subst hg'
      show w.drew.heap.size < _
      simp
    have hb : Below w.heap.size w (w.drew.alloc (.cells C 3)) := (below_drewN (Below.refl w.heap.size w) 1).alloc (Nat.le_refl _) _
    have h1 : 0 < n := by omega
    clear hold hG hC hCs hi0 hz0 hz1 hz2 i hGm
    go_enter Try.func72, Try.ntmps72
    go_wp2_with (at_builtin; refine Lib.wpList_append_run _ rfl _ _ _ _ rfl _ _ rfl rfl _ _ (hrz _) ?_)
    all_goals (go_ret; exact ⟨_, _, rfl, hown, hb⟩)

theorem gl_take_succ {xss : List (List Int)} {k : Nat} (h : k < xss.length) : (xss.take (k + 1)).flatten = (xss.take k).flatten ++ gl xss k := by
  have hg : gl xss k = xss[k] := by simp [gl, h]
  rw [hg, List.take_succ_eq_append_getElem h, List.flatten_append, List.flatten_cons, List.flatten_nil, List.append_nil]
theorem flat_le {xss : List (List Int)} {M : Nat} (h : ∀ j, j < xss.length → (gl xss j).length ≤ M) : ∀ k, k ≤ xss.length → (xss.take k).flatten.length ≤ M * k := by
  intro k
  induction k with
  | zero => intro _; simp
  | succ k ih =>
    intro hk
    rw [gl_take_succ (by omega), List.length_append, Nat.mul_succ]
    have := ih (by omega)
    have := h k (by omega)
    omega
set_option maxHeartbeats 2000000 in
theorem Concat_any (A : Option Addr) (n c : Nat) (xss : List (List Int)) (w : World) (ha : RII w A n xss) (hn : n ≤ 1000) (hm : ∀ j, j < n → (gl xss j).length ≤ 1000) :
    Calls Try.prog 44 #[.slice A n c] w (RetI w xss.flatten) := by
  have hl := ha.len
  have hfl : Hid (∀ k, k ≤ n → (xss.take k).flatten.length ≤ 1000 * k) := Lib.hid (by rw [← hl]; exact flat_le (by rw [hl]; exact hm))
  have hts : Hid (∀ k, k < n → (xss.take (k + 1)).flatten = (xss.take k).flatten ++ gl xss k) := Lib.hid (fun k hk => gl_take_succ (by omega))
  have htn : Hid ((xss.take n).flatten = xss.flatten) := Lib.hid (by rw [← hl, List.take_length])
  clear hm
  go_enter Try.func44, Try.ntmps44
  go_wp2
  go_loopw [3, 11] (fun s i wr => ∃ k : Nat, k ≤ n ∧ i = .int .i64 k ∧ s = .int .i64 ((xss.take k).flatten.length : Nat) ∧ Below w.heap.size w wr) (fun _ i _ => n - (intOf i).toNat)
  case atStart => exact ⟨0, Nat.zero_le _, rfl, by simp, Below.refl _ _⟩
  case round =>
    obtain ⟨k, hk, rfl, rfl, hb⟩ := hrel
    have hlk := hfl.out k hk
    by_cases hlt : k < n
    · obtain ⟨b, o, A', m, c', rfl, hbB, hc, hr⟩ := (ha.below hb (Nat.le_refl _)).at_ hlt
      have hrl := hr.len
      have hlk1 := hfl.out (k + 1) hlt
      have hS := Lib.hid (hts.out k hlt)
      have hSl : (xss.take (k + 1)).flatten.length = (xss.take k).flatten.length + m := by rw [hS.out, List.length_append, hrl]
      obtain ⟨F, hF⟩ : ∃ F, (xss.take k).flatten.length = F := ⟨_, rfl⟩
      rw [hF] at hlk hSl ⊢
      have HSl : Hid ((xss.take (k + 1)).flatten.length = F + m) := Lib.hid hSl
      have hFm : F + m ≤ 1000 * (k + 1) := by rw [hSl] at hlk1; exact hlk1
      clear hSl hF hlk1
      go_wp2
      go_roundw
      case rel => exact ⟨k + 1, by omega, by go_num, by rw [HSl.out]; go_num, hb⟩
      case measure => simp [intOf]; omega
    · obtain rfl : n = k := Nat.le_antisymm (Nat.le_of_not_lt hlt) hk
      obtain ⟨F, hF⟩ : ∃ F, (xss.take n).flatten.length = F := ⟨_, rfl⟩
      rw [hF] at hlk ⊢
      clear hF
      go_wp2_with fail
      refine (Grow0_any F _ (by omega)).mono ?_
      rintro e w1 ⟨A1, c1, rfl, hown1, hb1⟩
      have hz := hb.size
      have hbx := hb.trans (hb1.mono hz)
      have ho1 := hown1.lo_ hz
      go_wp2
      go_loopw [6, 27] (fun v i wr => ∃ (k : Nat) (O : Option Addr) (m oc : Nat), k ≤ n ∧ i = .int .i64 k ∧ v = .slice O m oc ∧ Own wr w.heap.size wr.heap.size (.slice O m oc) m (xss.take k).flatten ∧ Below w.heap.size w wr) (fun _ i _ => n - (intOf i).toNat)
      case atStart => exact ⟨0, _, _, _, Nat.zero_le _, rfl, rfl, by simpa using ho1.now, hbx⟩
      case round =>
        clear hown1 hb1 hbx ho1 hz hlk
        obtain ⟨k, O, m, oc, hk, rfl, rfl, hown, hb⟩ := hrel
        have hlk := hfl.out k hk
        have hol := hown.len
        have hz := hb.size
        by_cases hlt : k < n
        · obtain ⟨b, o, A', q, c', rfl, hbB, hc, hr⟩ := (ha.below hb (Nat.le_refl _)).at_ hlt
          have hrl := hr.len
          have hlk1 := hfl.out (k + 1) hlt
          have hS := Lib.hid (hts.out k hlt)
          have hSl : (xss.take (k + 1)).flatten.length = (xss.take k).flatten.length + q := by rw [hS.out, List.length_append, hrl]
          rw [hSl, hol] at hlk1
          clear hSl
          go_wp2_with (at_builtin; refine wpList_appI _ rfl _ _ rfl rfl hown rfl hr (by omega) (by first | omega | (simp; done) | (simp; omega)) ?_; intro A5 c5 w5 hown5 hg5 hat5 hk5)
          have hb5 := below_app hb hown hg5 hz (Nat.le_refl _)
          rw [← hS.out] at hown5
          clear hown hg5 hat5 hk5 hS hr hc
          go_wp2
          go_roundw
          case rel => exact ⟨k + 1, _, _, _, by omega, by go_num, rfl, hown5, hb5⟩
          case measure => simp [intOf]; omega
        · obtain rfl : n = k := Nat.le_antisymm (Nat.le_of_not_lt hlt) hk
          rw [htn.out] at hown
          go_wp2
          go_ret
          exact RetI.mk_ hown.len rfl hown hb

end Go.Proofs.Ytgpfiefhhlejfaa
