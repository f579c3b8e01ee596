/- The laws' own comparison of two lists. Lengths up to 2^21. Contracts of OnesOf, TruthTable, AreEqual, FirstUnequal. A slice of lists that grows while a list of numbers grows beside it: the outer row is the call's own, its lists are read and lie in other blocks than that list. Contracts of EqualOuts. -/
import Derived.Test.YtenknpcbbcbciaaGreatQP15
import Derived.Deep.RegionLaw
namespace Go.Proofs.YtenknpcbbcbciaaGreat
open Go.RowKit
set_option linter.unusedVariables false
set_option linter.unusedSimpArgs false
set_option maxHeartbeats 400000 in
theorem qInts_any (A B : Option Addr) (n c m d : Nat) (xs ys : List Int) (w : World) (ha : RI w A n xs) (hb : RI w B m ys) (hn : n ≤ 2097152) (hm : m ≤ 2097152) :
    Calls Tryz.prog 15 #[.slice A n c, .slice B m d] w fun e w' => e = .returned (.bool (sameB xs ys)) ∧ ∃ j, w' = w.drewN j := by
  have hl := ha.len
  have hm' := hb.len
  by_cases h0 : n = m
  · subst h0
    have hne : ((n : Int) != n) = false := by simp
    go_enter Tryz.func15, Tryz.ntmps15
    go_wp2
    go_loopw [13] (fun i wr => ∃ k j : Nat, k ≤ n ∧ i = .int .i64 k ∧ wr = w.drewN j ∧ Hid (∀ q, q < k → gi xs q = gi ys q)) (fun i _ => n - (intOf i).toNat)
    case atStart => exact ⟨0, 0, Nat.zero_le _, rfl, rfl, Lib.hid fun q hq => absurd hq (by omega)⟩
    case round =>
      obtain ⟨k, j, hk, rfl, rfl, hq⟩ := hrel
      by_cases hlt : k < n
      · obtain ⟨b, o, rfl, hbB, e1⟩ := ha.at_ hlt
        obtain ⟨b', o', rfl, hbB', e2⟩ := hb.at_ hlt
        by_cases h1 : gi xs k = gi ys k
        · have H1 := Lib.hid h1
          rw [← h1] at e2
          clear h1
          have hnx : (gi xs k != gi xs k) = false := by simp
          generalize hX : gi xs k = X at *
          clear ha hb
          go_wp2_with fail
          go_quiet (fail)
          go_wp2
          go_roundw
          case rel => exact ⟨k + 1, _, by omega, by go_num, by first | rfl | exact World.drewN_drewN _ _ _, Lib.hid fun q hq' => by
            rcases Nat.lt_or_ge q k with h | h
            · exact hq.out q h
            · obtain rfl : q = k := by omega
              exact hX.trans H1.out⟩
          case measure => simp [intOf]; omega
        · have H1 := Lib.hid h1
          have hnx : (gi xs k != gi ys k) = true := by simpa using h1
          clear h1
          have HR : Hid (sameB xs ys = false) := Lib.hid (sameB_at H1.out)
          generalize gi xs k = X at *
          generalize gi ys k = Y at *
          clear ha hb
          go_wp2_with fail
          go_quiet (fail)
          go_wp2
          go_ret
          exact ⟨by rw [HR.out]; rfl, _, by first | rfl | exact World.drewN_drewN _ _ _⟩
      · obtain rfl : k = n := by omega
        have HR : Hid (sameB xs ys = true) := Lib.hid (sameB_all (by omega) fun q hq' => hq.out q (by omega))
        go_wp2
        go_ret
        exact ⟨by rw [HR.out]; rfl, _, rfl⟩
  · have h1 : ((n : Int) != m) = true := by simp; omega
    have HR : Hid (sameB xs ys = false) := Lib.hid (sameB_len (by omega))
    go_enter Tryz.func15, Tryz.ntmps15
    go_wp2
    go_ret
    exact ⟨by rw [HR.out]; rfl, 0, rfl⟩
def RetZO (w : World) (o : Option Int) (e : Ending) (w' : World) : Prop := e = .returned (.tuple #[.int .i64 (o.getD 0), .bool o.isSome]) ∧ Below w.heap.size w w'
theorem RetZO.none_ {w : World} {o : Option Int} {e : Ending} {w' : World} (hb : Below w.heap.size w w') (ho : o = none) (he : e = .returned (.tuple #[.int .i64 0, .bool false])) : RetZO w o e w' := by subst ho; exact ⟨he, hb⟩
theorem RetZO.some_ {w : World} {o : Option Int} {z : Int} {e : Ending} {w' : World} (hb : Below w.heap.size w w') (ho : o = some z) (he : e = .returned (.tuple #[.int .i64 z, .bool true])) : RetZO w o e w' := by subst ho; exact ⟨he, hb⟩
theorem RI.grown_ {w w' : World} {A : Option Addr} {n : Nat} {xs : List Int} {row : Option Nat} (h : RI w A n xs) (hg : w.grownBy w' row) (hl : ∀ b o, A = some ⟨b, o, none⟩ → row ≠ some b) : RI w' A n xs :=
  ⟨h.1, fun hn => by
    obtain ⟨b, o, hA, hlt, hc⟩ := h.2 hn
    refine ⟨b, o, hA, Nat.lt_of_lt_of_le hlt hg.size, fun j hj => ?_⟩
    rw [← hc j hj]
    exact World.cell?_of_block (w := w) (a := ⟨b, o + j, none⟩) (hg.block b hlt (fun he => hl b o hA he.symm))⟩
def LII (w : World) (lo hi : Nat) (v : Value) (n : Nat) (xss : List (List Int)) (bad : Option Nat) : Prop :=
  ∃ vals : List Value, w.ownsRow lo 24 1 v n vals ∧ (∀ g, v.ownBlock = some g → g < hi) ∧ xss.length = n ∧
    ∀ j : Nat, j < n → ∃ A' m c', vals[j]? = some (.slice A' m c') ∧ RI w A' m (gl xss j) ∧ ∀ b o, A' = some ⟨b, o, none⟩ → bad ≠ some b ∧ b < w.heap.size ∧ v.ownBlock ≠ some b
theorem LII.len {w : World} {lo hi n : Nat} {v : Value} {xss : List (List Int)} {bad : Option Nat} (h : LII w lo hi v n xss bad) : xss.length = n := by obtain ⟨_, _, _, h3, _⟩ := h; exact h3
theorem LII.new0 (w : World) (lo : Nat) (hl : lo ≤ w.heap.size) (bad : Option Nat) : LII (w.alloc (.cells #[] 24)) lo (w.heap.size + 1) (.slice (some ⟨w.heap.size, 0, none⟩) 0 0) 0 [] bad := by
  have h := World.ownsRow_lit (base := lo) (e := 24) (size := 1) w #[] 0 hl (by unfold maxLen; omega) (by simp)
  exact ⟨[], by simpa using h, fun g hg => by simp [Value.ownBlock] at hg; omega, rfl, fun j hj => absurd hj (by omega)⟩
theorem LII.below {w w' : World} {lo hi n B : Nat} {v : Value} {xss : List (List Int)} {bad : Option Nat} (h : LII w lo hi v n xss bad) (hb : Below B w w') (hB : w.heap.size ≤ B) : LII w' lo hi v n xss bad := by
  obtain ⟨vals, h1, h2, h3, h4⟩ := h
  refine ⟨vals, h1.kept (grownBy_of_below (hb.mono hB) none) (by cases hv : v.ownBlock <;> simp), h2, h3, fun j hj => ?_⟩
  obtain ⟨A', m, c', h5, h6, h7⟩ := h4 j hj
  exact ⟨A', m, c', h5, h6.below hb hB, fun b o hA => ⟨(h7 b o hA).1, Nat.lt_of_lt_of_le (h7 b o hA).2.1 hb.size, (h7 b o hA).2.2⟩⟩
theorem LII.alloc {w : World} {lo hi n : Nat} {v : Value} {xss : List (List Int)} {bad : Option Nat} (h : LII w lo hi v n xss bad) (o : Obj) : LII (w.alloc o) lo hi v n xss bad := h.below ((Below.refl _ _).alloc (Nat.le_refl _) o) (Nat.le_refl _)
theorem LII.reads {w : World} {lo hi n c : Nat} {A : Option Addr} {xss : List (List Int)} {bad : Option Nat} (h : LII w lo hi (.slice A n c) n xss bad) : RII w A n xss := by
  obtain ⟨vals, h1, h2, h3, h4⟩ := h
  refine ⟨h3, fun hn => ?_⟩
  obtain ⟨g, cap, hv, _, hlt⟩ := h1.form hn
  simp only [Value.slice.injEq, true_and] at hv
  obtain ⟨rfl, rfl⟩ := hv
  refine ⟨g, 0, rfl, hlt, fun j hj => ?_⟩
  obtain ⟨A', m, c', h5, h6, _⟩ := h4 j hj
  exact ⟨A', m, c', by rw [Nat.zero_add, h1.cellAt j (by omega), h5], h6⟩
section
variable (w : World)
end
theorem LII.lt {w : World} {lo hi n : Nat} {v : Value} {xss : List (List Int)} {bad : Option Nat} (h : LII w lo hi v n xss bad) : ∀ g, v.ownBlock = some g → lo ≤ g ∧ g < hi := by
  obtain ⟨vals, h1, h2, _⟩ := h
  exact fun g hg => ⟨(h1.lt g hg).1, h2 g hg⟩
theorem LII.hi_ {w : World} {lo hi hi' n : Nat} {v : Value} {xss : List (List Int)} {bad : Option Nat} (h : LII w lo hi v n xss bad) (hl : hi ≤ hi') : LII w lo hi' v n xss bad := by
  obtain ⟨vals, h1, h2, h3, h4⟩ := h
  exact ⟨vals, h1, fun g hg => Nat.lt_of_lt_of_le (h2 g hg) hl, h3, h4⟩
end Go.Proofs.YtenknpcbbcbciaaGreat
