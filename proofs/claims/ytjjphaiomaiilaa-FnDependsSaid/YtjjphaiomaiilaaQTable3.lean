/- Contracts of truth tables, columns, sums, comparisons of two circuits. -/
import Derived.Test.YtjjphaiomaiilaaQTable2
import Derived.Test.YtjjphaiomaiilaaQChg
import Derived.Deep.RegionLaw
namespace Go.Proofs.Ytjjphaiomaiilaa
open Go.RowKit
set_option linter.unusedVariables false
set_option linter.unusedSimpArgs false


theorem grown_row {v wr w5 : World} {g0 : Nat} {row : Option Nat} (h : v.grownBy wr (some g0)) (hr : ∀ g, row = some g → g = g0 ∨ v.heap.size ≤ g) (hg : wr.grownBy w5 row) : v.grownBy w5 (some g0) :=
  ⟨hg.os.trans h.os, hg.tape.trans h.tape, hg.output.trans h.output, Nat.le_trans h.size hg.size, fun i hi hne => (hg.block i (Nat.lt_of_lt_of_le hi h.size) (fun he => by
    rcases hr i he.symm with h1 | h1
    · exact hne (by rw [h1])
    · omega)).trans (h.block i hi hne)⟩
theorem OwnII.grownAt {v wr : World} {lo hi n g0 : Nat} {val : Value} {xss : List (List Int)} (h : OwnII v lo hi val n xss) (hg : v.grownBy wr (some g0)) (hl : g0 < lo ∨ hi ≤ g0) : OwnII wr lo hi val n xss :=
  h.chg (lo' := g0) (hi' := g0 + 1) ⟨hg.os, hg.tape, hg.output, hg.size, fun i hi ho => hg.block i hi (fun he => by simp only [Option.some.injEq] at he; omega)⟩ (by omega)
theorem RI.chg0 {v wr : World} {A : Option Addr} {n g0 : Nat} {xs : List Int} (h : RI v A n xs) (hg : v.grownBy wr (some g0)) (hl : ∀ b o, A = some ⟨b, o, none⟩ → b ≠ g0) : RI wr A n xs :=
  ⟨h.1, fun hn => by
    obtain ⟨b, o, hA, hlt, hc⟩ := h.2 hn
    refine ⟨b, o, hA, Nat.lt_of_lt_of_le hlt hg.size, fun j hj => ?_⟩
    rw [← hc j hj]
    exact World.cell?_of_block (w := v) (a := ⟨b, o + j, none⟩) (hg.block b hlt (fun he => hl b o hA (by simp only [Option.some.injEq] at he; exact he)))⟩
theorem row_next {v v5 : Value} {g0 V H : Nat} (h : ∀ g, v.ownBlock = some g → g = g0 ∨ V ≤ g) (hat : v5.ownBlock = v.ownBlock ∨ v5.ownBlock = some H) (hH : V ≤ H) : ∀ g, v5.ownBlock = some g → g = g0 ∨ V ≤ g := by
  intro g hg
  rcases hat with h1 | h1
  · exact h g (h1.symm.trans hg)
  · rw [h1] at hg; simp only [Option.some.injEq] at hg; omega
theorem box2_at {w wr : World} {x y : Int} {Ag : Option Addr} {ng cg : Nat} {Ao : Option Addr} {no co : Nat} {x2 y2 : Int} {Bg : Option Addr} {mg dg : Nat} {Bo : Option Addr} {mo do_ : Nat} {T T2 : TypeId}
    (hb : Below (w.heap.size + 2) ((w.alloc (.cells #[.int .i64 x, .int .i64 y, .slice Ag ng cg, .slice Ao no co] T)).alloc (.cells #[.int .i64 x2, .int .i64 y2, .slice Bg mg dg, .slice Bo mo do_] T2)) wr) : BxC wr w.heap.size x y Ag ng cg Ao no co ∧ BxC wr (w.heap.size + 1) x2 y2 Bg mg dg Bo mo do_ := by
  have q1 : BxC (w.alloc (.cells #[.int .i64 x, .int .i64 y, .slice Ag ng cg, .slice Ao no co] T)) w.heap.size x y Ag ng cg Ao no co := BxC.new _ _
  have q2 := BxC.below (w' := (w.alloc (.cells #[.int .i64 x, .int .i64 y, .slice Ag ng cg, .slice Ao no co] T)).alloc (.cells #[.int .i64 x2, .int .i64 y2, .slice Bg mg dg, .slice Bo mo do_] T2)) q1 ((Below.refl _ _).alloc (Nat.le_refl _) _)
  have q3 : BxC ((w.alloc (.cells #[.int .i64 x, .int .i64 y, .slice Ag ng cg, .slice Ao no co] T)).alloc (.cells #[.int .i64 x2, .int .i64 y2, .slice Bg mg dg, .slice Bo mo do_] T2)) (w.heap.size + 1) x2 y2 Bg mg dg Bo mo do_ := by
    have := BxC.new (w.alloc (.cells #[.int .i64 x, .int .i64 y, .slice Ag ng cg, .slice Ao no co] T)) (x := x2) (y := y2) (Ag := Bg) (ng := mg) (cg := dg) (Ao := Bo) (no := mo) (co := do_) T2
    simpa using this
  have hb' := hb.mono (B := w.heap.size + 2) (B' := ((w.alloc (.cells #[.int .i64 x, .int .i64 y, .slice Ag ng cg, .slice Ao no co] T)).alloc (.cells #[.int .i64 x2, .int .i64 y2, .slice Bg mg dg, .slice Bo mo do_] T2)).heap.size)
  exact ⟨q2.below (by simpa using hb), q3.below (by simpa using hb)⟩
/-- The outs' columns. -/
def columnF (x y : Int) (gs : List G3) (os : List Int) (k : Int) : Option (List Int) :=
  if smallB x y gs os 40 && inB 0 ((os.length : Int) - 1) k then some (colN gs os (x + y).toNat k.toNat) else none
theorem smallB_bd {x y : Int} {gs : List G3} {os : List Int} {lim : Nat} (h : smallB x y gs os lim = true) : circB x y gs os = true ∧ x + y ≤ 10 ∧ os.length ≤ lim := by
  simp only [smallB, Bool.and_eq_true, decide_eq_true_eq] at h; exact h
def sumI (xs : List Int) : Int := xs.foldl (· + ·) 0
theorem sumI_snoc (xs : List Int) (x : Int) : sumI (xs ++ [x]) = sumI xs + x := by simp [sumI]
theorem sumI_bd {xs : List Int} (h : allB 0 1 xs = true) : ∀ k, k ≤ xs.length → 0 ≤ sumI (xs.take k) ∧ sumI (xs.take k) ≤ k := by
  intro k
  induction k with
  | zero => intro _; simp [sumI]
  | succ k ih =>
    intro hk
    have h1 := ih (by omega)
    have h2 := allB_gi h (j := k) (by omega)
    rw [gi_take_snoc (by omega), sumI_snoc]; omega

theorem laSum_any (A : Option Addr) (n c : Nat) (xs : List Int) (w : World) (ha : RI w A n xs) (hn : n ≤ 2097152) (hx : allB 0 1 xs = true) : Calls Try.prog 21 #[.slice A n c] w fun e w' => e = .returned (.int .i64 (sumI xs)) ∧ w = w' := by
  have hl := ha.len
  have HB := Lib.hid (sumI_bd hx)
  go_enter Try.func21, Try.ntmps21
  go_wp2
  go_loop [3, 8] (fun v i => ∃ k : Nat, k ≤ n ∧ i = .int .i64 k ∧ v = .int .i64 (sumI (xs.take k))) (fun _ i => n - (intOf i).toNat)
  case atStart => exact ⟨0, Nat.zero_le _, rfl, rfl⟩
  case round =>
    obtain ⟨k, hk, rfl, rfl⟩ := hrel
    by_cases hlt : k < n
    · obtain ⟨b, o, rfl, hbB, c1⟩ := ha.at_ hlt
      clear ha
      obtain ⟨h1, h2⟩ := HB.out k (by omega)
      obtain ⟨h3, h4⟩ := allB_gi hx (j := k) (by omega)
      have hs : Hid (sumI (xs.take (k + 1)) = sumI (xs.take k) + gi xs k) := Lib.hid (by rw [gi_take_snoc (by omega), sumI_snoc])
      generalize sumI (xs.take k) = S at *
      generalize gi xs k = X at *
      go_wp2
      go_round
      case rel => exact ⟨k + 1, by omega, by go_num, by rw [hs.out]⟩
      case measure => simp [intOf]; omega
    · obtain rfl : k = n := by omega
      have ht : Hid (sumI (xs.take k) = sumI xs) := Lib.hid (by rw [List.take_of_length_le (by omega)])
      go_wp2
      go_ret
      exact ⟨by rw [← ht.out]; rfl, rfl⟩

theorem sumOf_any (A : Option Addr) (n c : Nat) (xs : List Int) (w : World) (ha : RI w A n xs) (hn : n ≤ 2097152) (hx : allB 0 1 xs = true) : Calls Try.prog 20 #[.slice A n c] w fun e w' => e = .returned (.int .i64 (sumI xs)) ∧ w = w' := by
  have hl := ha.len
  have HB := Lib.hid (sumI_bd hx)
  go_enter Try.func20, Try.ntmps20
  go_wp2
  go_loop [3, 8] (fun v i => ∃ k : Nat, k ≤ n ∧ i = .int .i64 k ∧ v = .int .i64 (sumI (xs.take k))) (fun _ i => n - (intOf i).toNat)
  case atStart => exact ⟨0, Nat.zero_le _, rfl, rfl⟩
  case round =>
    obtain ⟨k, hk, rfl, rfl⟩ := hrel
    by_cases hlt : k < n
    · obtain ⟨b, o, rfl, hbB, c1⟩ := ha.at_ hlt
      clear ha
      obtain ⟨h1, h2⟩ := HB.out k (by omega)
      obtain ⟨h3, h4⟩ := allB_gi hx (j := k) (by omega)
      have hs : Hid (sumI (xs.take (k + 1)) = sumI (xs.take k) + gi xs k) := Lib.hid (by rw [gi_take_snoc (by omega), sumI_snoc])
      generalize sumI (xs.take k) = S at *
      generalize gi xs k = X at *
      go_wp2
      go_round
      case rel => exact ⟨k + 1, by omega, by go_num, by rw [hs.out]⟩
      case measure => simp [intOf]; omega
    · obtain rfl : k = n := by omega
      have ht : Hid (sumI (xs.take k) = sumI xs) := Lib.hid (by rw [List.take_of_length_le (by omega)])
      go_wp2
      go_ret
      exact ⟨by rw [← ht.out]; rfl, rfl⟩

set_option maxRecDepth 100000 in
set_option maxHeartbeats 1600000 in
theorem column_any (x y : Int) (Ag : Option Addr) (ng cg : Nat) (Ao : Option Addr) (no co : Nat) (k : Int) (gs : List G3) (os : List Int) (w : World) (hr : RG w Ag ng gs ∧ RI w Ao no os) (hng : ng ≤ 2097152) (hno : no ≤ 2097152) :
    Calls Try.prog 13 #[.agg #[.int .i64 x, .int .i64 y, .slice Ag ng cg, .slice Ao no co], .int .i64 k] w (RetO w (columnF x y gs os k)) := by
  have hB : Below w.heap.size w (w.alloc (.cells #[.int .i64 x, .int .i64 y, .slice Ag ng cg, .slice Ao no co] 26)) := (Below.refl _ _).alloc (Nat.le_refl _) _
  have hlg := hr.1.len
  have hlo := hr.2.len
  cases h0 : smallB x y gs os 40 with
  | false =>
    have HR : Hid (columnF x y gs os k = none) := Lib.hid (by simp [columnF, h0])
    have H0 := Lib.hid h0; clear h0
    go_enter Try.func13, Try.ntmps13
    go_wp2_with fail
    refine (isSmall_any x y Ag ng cg Ao no co gs os _ ⟨hr.1.below hB (Nat.le_refl _), hr.2.below hB (Nat.le_refl _)⟩ hng hno).mono ?_
    rintro e v1 ⟨rfl, hb1⟩
    rw [H0.out]
    go_wp2
    go_ret2
    exact RetO.none_ (hB.trans (hb1.mono hB.size)) HR.out rfl
  | true =>
    obtain ⟨h1, h2, h3⟩ := smallB_bd h0
    obtain ⟨⟨b1, b2⟩, ⟨b3, b4⟩, b5, b6, b7, b8⟩ := circB_bd h1
    cases h4 : inB 0 ((no : Int) - 1) k with
    | false =>
      have HR : Hid (columnF x y gs os k = none) := Lib.hid (by simp [columnF, h4, hlo])
      have H0 := Lib.hid h0; have H4 := Lib.hid h4; clear h0 h4 h1 b7 b8
      go_enter Try.func13, Try.ntmps13
      go_wp2_with fail
      refine (isSmall_any x y Ag ng cg Ao no co gs os _ ⟨hr.1.below hB (Nat.le_refl _), hr.2.below hB (Nat.le_refl _)⟩ hng hno).mono ?_
      rintro e v1 ⟨rfl, hb1⟩
      rw [H0.out]
      obtain ⟨hc1, hf1⟩ := bcell hb1
      have hz1 := hb1.size
      simp only [World.size_alloc] at hz1
      have hz1' : w.heap.size < v1.heap.size := by omega
      go_wp2_with fail
      refine (within_any k 0 ((no : Int) - 1) false H4.out _).mono ?_
      rintro e v2 ⟨rfl, rfl⟩
      go_wp2
      go_ret2
      exact RetO.none_ (hB.trans (hb1.mono hB.size)) HR.out rfl
    | true =>
      obtain ⟨c1, c2⟩ := inB_iff.1 h4
      obtain ⟨q, rfl⟩ := Int.eq_ofNat_of_zero_le c1
      obtain ⟨X, hX⟩ : ∃ X : Nat, x + y = X := ⟨(x + y).toNat, by omega⟩
      have hXt : (x + y).toNat = X := by omega
      rw [hX] at b7 b8
      obtain ⟨N, hN⟩ : ∃ N, N = 2 ^ X := ⟨_, rfl⟩
      have HR : Hid (columnF x y gs os q = some (tab N fun n => gi (outsN gs os X n) q)) := Lib.hid (by simp [columnF, h4, h0, hlo, hXt, colN, hN])
      have hP := (pow_wrap hN (by omega)).1
      have HN := Lib.hid hN; clear hN
      have H0 := Lib.hid h0; have H4 := Lib.hid h4; have H7 := Lib.hid b7; have H8 := Lib.hid b8; clear h0 h4 h1 b7 b8
      have hql : Hid (∀ n, (outsN gs os X n).length = no) := Lib.hid (fun n => by rw [outsN_len, hlo])
      go_enter Try.func13, Try.ntmps13
      go_wp2_with fail
      refine (isSmall_any x y Ag ng cg Ao no co gs os _ ⟨hr.1.below hB (Nat.le_refl _), hr.2.below hB (Nat.le_refl _)⟩ hng hno).mono ?_
      rintro e v1 ⟨rfl, hb1⟩
      rw [H0.out]
      obtain ⟨hc1, hf1⟩ := bcell hb1
      have hz1 := hb1.size
      simp only [World.size_alloc] at hz1
      have hz1' : w.heap.size < v1.heap.size := by omega
      have hB1 := hB.trans (hb1.mono hB.size)
      go_wp2_with fail
      refine (within_any q 0 ((no : Int) - 1) true H4.out _).mono ?_
      rintro e v2 ⟨rfl, rfl⟩
      have hB1A := hB1.alloc (Nat.le_of_lt hz1') (.cells #[] 3)
      go_wp2_with fail
      refine (Circuit_table_any x y Ag ng cg Ao no co gs os X N _ ⟨hr.1.below hB1A (Nat.le_refl _), hr.2.below hB1A (Nat.le_refl _)⟩ (by omega) (by omega) hX (by omega) HN.out H7.out H8.out (by omega) (by omega)).mono ?_
      rintro e v3 hT
      obtain ⟨At, ct, rfl, hownT, hb3⟩ := hT.open_ (tabL_len _ _)
      have hz3 := hb3.size
      simp only [World.size_alloc] at hz3 hownT
      have hB3 := hB1A.trans (hb3.mono hB1A.size)
      have hown0 := ((Own_new0 v1 (w.heap.size + 1) (by omega)).hi_ (hi' := (v1.alloc (.cells #[] 3)).heap.size) (by simp)).below hb3 (.inl (Nat.le_refl _))
      have hst := And.intro hown0.now (World.grownBy.refl v3 (some v1.heap.size))
      clear hown0
      go_wp2_with fail
      go_loopw [6, 25] (fun v i wr => ∃ (j : Nat) (A' : Option Addr) (c' : Nat), j ≤ N ∧ i = .int .i64 j ∧ v = .slice A' j c' ∧ Own wr (w.heap.size + 1) wr.heap.size (.slice A' j c') j (tab j fun n => gi (outsN gs os X n) q) ∧ v3.grownBy wr (some v1.heap.size) ∧ (∀ g, (Value.slice A' j c').ownBlock = some g → g = v1.heap.size ∨ v3.heap.size ≤ g)) (fun _ i _ => N - (intOf i).toNat)
      case atStart => exact ⟨0, _, _, Nat.zero_le _, rfl, rfl, hst.1, hst.2, fun g hg => by simp only [Value.ownBlock, Option.some.injEq] at hg; exact .inl hg.symm⟩
      case round =>
        clear hst
        obtain ⟨j, A', c', hj, rfl, rfl, hown, hgr, hrow⟩ := hrel
        have hzr := hgr.size
        by_cases hlt : j < N
        · have hsn : Hid (tab (j + 1) (fun n => gi (outsN gs os X n) q) = tab j (fun n => gi (outsN gs os X n) q) ++ [gi (outsN gs os X j) q]) := Lib.hid (tab_snoc j _)
          obtain ⟨b, o', A2, m, c2', rfl, hbB, e1, hr1⟩ := (hownT.grownAt hgr (by omega)).reads.at_ hlt
          rw [gl_tabL hlt] at hr1
          obtain rfl : m = no := by rw [← hr1.len, hql.out]
          obtain ⟨b2', o2, rfl, hbB2, e2⟩ := hr1.at_ (k := q) (by omega)
          generalize gi (outsN gs os X j) q = Z at *
          have hownA := hown.alloc (.cells #[.int .i64 Z] 3)
          clear hownT hr1
          go_wp2_with (at_builtin; refine wpList_app _ rfl _ _ rfl rfl hownA rfl (RI_one _ _ _ _ (by simp)) (by omega) (by first | omega | (simp; done) | (simp; omega)) ?_; intro A5 c5 w5 hown5 hg5 hat5)
          rw [← hsn.out] at hown5
          have hg6 : v3.grownBy w5 (some v1.heap.size) := grown_row (grown_row hgr (row := none) (fun g h => by cases h) (grownBy_of_below ((Below.refl _ _).alloc (Nat.le_refl _) (.cells #[.int .i64 Z] 3)) none)) hrow hg5
          have hrow6 := row_next hrow hat5 (V := v3.heap.size) (g0 := v1.heap.size) (by simp; omega)
          clear hownA hg5 hown hgr e1 e2
          go_wp2
          go_roundw
          case rel => exact ⟨j + 1, _, _, by omega, by go_num, rfl, hown5, hg6, hrow6⟩
          case measure => simp [intOf]; omega
        · obtain rfl : N = j := Nat.le_antisymm (Nat.le_of_not_lt hlt) hj
          go_wp2
          go_ret2
          exact RetO.some_ (below_grown hB3 hgr hB3.size (fun k hk => by simp only [Option.some.injEq] at hk; omega)) HR.out (tab_len _ _) rfl (hown.lo_ (by omega))

end Go.Proofs.Ytjjphaiomaiilaa
