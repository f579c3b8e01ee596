/- CountGates and UsedWires, both hands. Lengths below 2^21. DepthOf of the program. Lengths below 2^21. DepthOf of the reference. Lengths below 2^21. The laws' words big, pSameCircuit, pSum, pIn. Plain facts for the law of shapes. No program in sight. -/
import Derived.Test.YtgenehiiakdadaaQShp
import Derived.Test.YtgenehiiakdadaaQDus
import Derived.Test.YtgenehiiakdadaaQSep
import Derived.Lib.MinMax
import Derived.Test.YtgenehiiakdadaaQQi
import Derived.Test.YtgenehiiakdadaaQBes
namespace Go.Proofs.Ytgenehiiakdadaa
open Go.RowKit
set_option linter.unusedVariables false
set_option linter.unusedSimpArgs false

theorem GateIs.kd {g : G3} {n : Int} (h : GateIs g n) : 0 ≤ g.k ∧ g.k ≤ 3 := by cases h <;> omega
theorem gate_kd {x y : Int} {gs : List G3} {os : List Int} (h : circB x y gs os = true) {n : Nat} (hl : gs.length = n) : ∀ k, k < n → 0 ≤ (gg gs k).k ∧ (gg gs k).k ≤ 3 := fun k hk => (circB_gate_at h hl k hk).kd

set_option maxHeartbeats 1000000 in
theorem CountGates_any (x y : Int) (Ag : Option Addr) (ng cg : Nat) (Ao : Option Addr) (no co : Nat) (gs : List G3) (os : List Int) (w : World) (hr : RG w Ag ng gs ∧ RI w Ao no os) (hng : ng ≤ 2097152) (hno : no ≤ 2097152) :
    Calls Try.prog 9 #[.agg #[.int .i64 x, .int .i64 y, .slice Ag ng cg, .slice Ao no co]] w (RetO w (ctF x y gs os)) := by
  have hB : Below w.heap.size w (w.alloc (.cells #[.int .i64 x, .int .i64 y, .slice Ag ng cg, .slice Ao no co] 27)) := (Below.refl _ _).alloc (Nat.le_refl _) _
  have hx0 : BxC (w.alloc (.cells #[.int .i64 x, .int .i64 y, .slice Ag ng cg, .slice Ao no co] 27)) w.heap.size x y Ag ng cg Ao no co := BxC.new w _
  have hs0 : (w.alloc (.cells #[.int .i64 x, .int .i64 y, .slice Ag ng cg, .slice Ao no co] 27)).heap.size = w.heap.size + 1 := by simp
  have hlg := hr.1.len
  have hlo := hr.2.len
  have hq := hx0; obtain ⟨k0, k1, k2, k3⟩ := hq
  cases h0 : circB x y gs os with
  | false =>
    have HR : Hid (ctF x y gs os = none) := Lib.hid (by simp [ctF, h0])
    have H0 := Lib.hid h0; clear h0
    go_enter Try.func9, Try.ntmps9
    go_wp2_with fail
    refine (IsCircuit_any x y Ag ng cg Ao no co gs os _ (hr.1.below hB (Nat.le_refl _)) (hr.2.below hB (Nat.le_refl _)) hng hno).mono ?_
    rintro e v1 ⟨rfl, hb1⟩
    rw [H0.out]
    go_wp2
    go_ret2
    exact RetO.none_ (hB.trans (hb1.mono hB.size)) HR.out rfl
  | true =>
    have HR : Hid (ctF x y gs os = some (cntK gs ng)) := Lib.hid (by simp [ctF, h0, hlg])
    have hkd := gate_kd h0 hlg
    have H0 := Lib.hid h0; clear h0
    go_enter Try.func9, Try.ntmps9
    go_wp2_with fail
    refine (IsCircuit_any x y Ag ng cg Ao no co gs os _ (hr.1.below hB (Nat.le_refl _)) (hr.2.below hB (Nat.le_refl _)) hng hno).mono ?_
    rintro e v1 ⟨rfl, hb1⟩
    rw [H0.out]
    have hx1 := hx0.below hb1
    have hB1 := hB.trans (hb1.mono hB.size)
    have hz1 := hb1.size
    rw [hs0] at hz1
    clear k0 k1 k2 k3 hx0 hb1 hB
    have hq := hx1; obtain ⟨k0, k1, k2, k3⟩ := hq
    go_wp2_with fail
    refine (countKinds_any Ag ng cg gs _ (hr.1.below hB1 (Nat.le_refl _)) hng hkd).mono ?_
    rintro e v2 hT
    obtain ⟨A', c', rfl, ho, hb2⟩ := hT.open_ (cntK_len gs ng)
    go_wp2
    go_ret2
    exact RetO.some_ (hB1.trans (hb2.mono hB1.size)) HR.out (cntK_len gs ng) rfl (ho.lo_ hB1.size)

set_option maxHeartbeats 1000000 in
theorem spec_CountGates_any (x y : Int) (Ag : Option Addr) (ng cg : Nat) (Ao : Option Addr) (no co : Nat) (gs : List G3) (os : List Int) (w : World) (hr : RG w Ag ng gs ∧ RI w Ao no os) (hng : ng ≤ 2097152) (hno : no ≤ 2097152) :
    Calls Try.prog 20 #[.agg #[.int .i64 x, .int .i64 y, .slice Ag ng cg, .slice Ao no co]] w (RetO w (ctF x y gs os)) := by
  have hB : Below w.heap.size w (w.alloc (.cells #[.int .i64 x, .int .i64 y, .slice Ag ng cg, .slice Ao no co] 27)) := (Below.refl _ _).alloc (Nat.le_refl _) _
  have hx0 : BxC (w.alloc (.cells #[.int .i64 x, .int .i64 y, .slice Ag ng cg, .slice Ao no co] 27)) w.heap.size x y Ag ng cg Ao no co := BxC.new w _
  have hs0 : (w.alloc (.cells #[.int .i64 x, .int .i64 y, .slice Ag ng cg, .slice Ao no co] 27)).heap.size = w.heap.size + 1 := by simp
  have hlg := hr.1.len
  have hlo := hr.2.len
  have hq := hx0; obtain ⟨k0, k1, k2, k3⟩ := hq
  cases h0 : circB x y gs os with
  | false =>
    have HR : Hid (ctF x y gs os = none) := Lib.hid (by simp [ctF, h0])
    have H0 := Lib.hid h0; clear h0
    go_enter Try.func20, Try.ntmps20
    go_wp2_with fail
    refine (ciGood_any x y Ag ng cg Ao no co gs os _ (hr.1.below hB (Nat.le_refl _)) (hr.2.below hB (Nat.le_refl _)) hng hno).mono ?_
    rintro e v1 ⟨rfl, hb1⟩
    rw [H0.out]
    go_wp2
    go_ret2
    exact RetO.none_ (hB.trans (hb1.mono hB.size)) HR.out rfl
  | true =>
    have HR : Hid (ctF x y gs os = some (cntK gs ng)) := Lib.hid (by simp [ctF, h0, hlg])
    have hkd := gate_kd h0 hlg
    have H0 := Lib.hid h0; clear h0
    go_enter Try.func20, Try.ntmps20
    go_wp2_with fail
    refine (ciGood_any x y Ag ng cg Ao no co gs os _ (hr.1.below hB (Nat.le_refl _)) (hr.2.below hB (Nat.le_refl _)) hng hno).mono ?_
    rintro e v1 ⟨rfl, hb1⟩
    rw [H0.out]
    have hx1 := hx0.below hb1
    have hB1 := hB.trans (hb1.mono hB.size)
    have hz1 := hb1.size
    rw [hs0] at hz1
    clear k0 k1 k2 k3 hx0 hb1 hB
    have hq := hx1; obtain ⟨k0, k1, k2, k3⟩ := hq
    go_wp2_with fail
    refine (ciCounts_any x y Ag ng cg Ao no co gs _ (hr.1.below hB1 (Nat.le_refl _)) hng hkd).mono ?_
    rintro e v2 hT
    obtain ⟨A', c', rfl, ho, hb2⟩ := hT.open_ (cntK_len gs ng)
    go_wp2
    go_ret2
    exact RetO.some_ (hB1.trans (hb2.mono hB1.size)) HR.out (cntK_len gs ng) rfl (ho.lo_ hB1.size)

set_option maxHeartbeats 1000000 in
theorem spec_UsedWires_any (x y : Int) (Ag : Option Addr) (ng cg : Nat) (Ao : Option Addr) (no co : Nat) (gs : List G3) (os : List Int) (w : World) (hr : RG w Ag ng gs ∧ RI w Ao no os) (hng : ng ≤ 2097152) (hno : no ≤ 2097152) :
    Calls Try.prog 15 #[.agg #[.int .i64 x, .int .i64 y, .slice Ag ng cg, .slice Ao no co]] w (RetO w (uwF x y gs os)) := by
  have hB : Below w.heap.size w (w.alloc (.cells #[.int .i64 x, .int .i64 y, .slice Ag ng cg, .slice Ao no co] 27)) := (Below.refl _ _).alloc (Nat.le_refl _) _
  have hx0 : BxC (w.alloc (.cells #[.int .i64 x, .int .i64 y, .slice Ag ng cg, .slice Ao no co] 27)) w.heap.size x y Ag ng cg Ao no co := BxC.new w _
  have hs0 : (w.alloc (.cells #[.int .i64 x, .int .i64 y, .slice Ag ng cg, .slice Ao no co] 27)).heap.size = w.heap.size + 1 := by simp
  have hlg := hr.1.len
  have hlo := hr.2.len
  have hq := hx0; obtain ⟨k0, k1, k2, k3⟩ := hq
  cases h0 : circB x y gs os with
  | false =>
    have HR : Hid (uwF x y gs os = none) := Lib.hid (by simp [uwF, h0])
    have H0 := Lib.hid h0; clear h0
    go_enter Try.func15, Try.ntmps15
    go_wp2_with fail
    refine (ciGood_any x y Ag ng cg Ao no co gs os _ (hr.1.below hB (Nat.le_refl _)) (hr.2.below hB (Nat.le_refl _)) hng hno).mono ?_
    rintro e v1 ⟨rfl, hb1⟩
    rw [H0.out]
    go_wp2
    go_ret2
    exact RetO.none_ (hB.trans (hb1.mono hB.size)) HR.out rfl
  | true =>
    obtain ⟨hx, hy, hg3, ho3, _, _⟩ := circB_bd h0
    have hgt0 := circB_gate_at h0 hlg
    rw [hlg] at hg3
    rw [hlo] at ho3
    obtain ⟨X, hX⟩ : ∃ X : Nat, x + y = X := ⟨(x + y).toNat, by omega⟩
    have HR : Hid (uwF x y gs os = some (usedL X gs os)) := Lib.hid (by simp [uwF, h0, hX])
    have hgt : ∀ k : Nat, k < ng → GateIs (gg gs k) ((X : Int) + k) := fun k hk => by
      have h := hgt0 k hk
      rwa [hX] at h
    have HX := Lib.hid hX
    have H0 := Lib.hid h0; clear h0 hgt0 hX
    go_enter Try.func15, Try.ntmps15
    go_wp2_with fail
    refine (ciGood_any x y Ag ng cg Ao no co gs os _ (hr.1.below hB (Nat.le_refl _)) (hr.2.below hB (Nat.le_refl _)) hng hno).mono ?_
    rintro e v1 ⟨rfl, hb1⟩
    rw [H0.out]
    have hx1 := hx0.below hb1
    have hB1 := hB.trans (hb1.mono hB.size)
    have hz1 := hb1.size
    rw [hs0] at hz1
    clear k0 k1 k2 k3 hx0 hb1 hB
    have hq := hx1; obtain ⟨k0, k1, k2, k3⟩ := hq
    go_wp2_with fail
    refine (ciUsed_any x y Ag ng cg Ao no co gs os X _ ⟨hr.1.below hB1 (Nat.le_refl _), hr.2.below hB1 (Nat.le_refl _)⟩ (by omega) ho3 hx hy HX hgt).mono ?_
    rintro e v2 hT
    obtain ⟨A', c', rfl, ho, hb2⟩ := hT
    go_wp2
    go_ret2
    exact RetO.some_ (hB1.trans (hb2.mono hB1.size)) HR.out rfl rfl (ho.lo_ hB1.size)

set_option maxRecDepth 100000 in
set_option maxHeartbeats 2000000 in
theorem UsedWires_any (x y : Int) (Ag : Option Addr) (ng cg : Nat) (Ao : Option Addr) (no co : Nat) (gs : List G3) (os : List Int) (w : World) (hr : RG w Ag ng gs ∧ RI w Ao no os) (hng : ng ≤ 2097152) (hno : no ≤ 2097152) :
    Calls Try.prog 14 #[.agg #[.int .i64 x, .int .i64 y, .slice Ag ng cg, .slice Ao no co]] w (RetO w (uwF x y gs os)) := by
  have hB : Below w.heap.size w (w.alloc (.cells #[.int .i64 x, .int .i64 y, .slice Ag ng cg, .slice Ao no co] 27)) := (Below.refl _ _).alloc (Nat.le_refl _) _
  have hx0 : BxC (w.alloc (.cells #[.int .i64 x, .int .i64 y, .slice Ag ng cg, .slice Ao no co] 27)) w.heap.size x y Ag ng cg Ao no co := BxC.new w _
  have hs0 : (w.alloc (.cells #[.int .i64 x, .int .i64 y, .slice Ag ng cg, .slice Ao no co] 27)).heap.size = w.heap.size + 1 := by simp
  have hlg := hr.1.len
  have hlo := hr.2.len
  have hq := hx0; obtain ⟨k0, k1, k2, k3⟩ := hq
  cases h0 : circB x y gs os with
  | false =>
    have HR : Hid (uwF x y gs os = none) := Lib.hid (by simp [uwF, h0])
    have H0 := Lib.hid h0; clear h0
    go_enter Try.func14, Try.ntmps14
    go_wp2_with fail
    refine (IsCircuit_any x y Ag ng cg Ao no co gs os _ (hr.1.below hB (Nat.le_refl _)) (hr.2.below hB (Nat.le_refl _)) hng hno).mono ?_
    rintro e v1 ⟨rfl, hb1⟩
    rw [H0.out]
    go_wp2
    go_ret2
    exact RetO.none_ (hB.trans (hb1.mono hB.size)) HR.out rfl
  | true =>
    obtain ⟨hx, hy, hg3, ho3, _, hao⟩ := circB_bd h0
    have hgt0 := circB_gate_at h0 hlg
    rw [hlg] at hg3 hao
    rw [hlo] at ho3
    obtain ⟨X, hX⟩ : ∃ X : Nat, x + y = X := ⟨(x + y).toNat, by omega⟩
    have hgt : ∀ k : Nat, k < ng → GateIs (gg gs k) ((X : Int) + k) := fun k hk => by
      have h := hgt0 k hk
      rwa [hX] at h
    have hao' : allB 0 (((X + ng : Nat) : Int) - 1) os = true := by rw [show ((X + ng : Nat) : Int) - 1 = x + y + ng - 1 by omega]; exact hao
    have HR : Hid (uwF x y gs os = some (rowK (usedL X gs os) (X + ng))) := Lib.hid (by
      rw [rowK_used (gs := gs) (os := os) (fun j hj => hgt j (by omega)) (fun z hz => by have := allB_iff.1 hao z hz; omega) (by omega)]
      simp [uwF, h0, hX])
    have hX40 : X ≤ 40 := by omega
    have HX := Lib.hid hX
    have H0 := Lib.hid h0; clear h0 hgt0 hX hao
    go_enter Try.func14, Try.ntmps14
    go_wp2_with fail
    refine (IsCircuit_any x y Ag ng cg Ao no co gs os _ (hr.1.below hB (Nat.le_refl _)) (hr.2.below hB (Nat.le_refl _)) hng hno).mono ?_
    rintro e v1 ⟨rfl, hb1⟩
    rw [H0.out]
    have hx1 := hx0.below hb1
    have hB1 := hB.trans (hb1.mono hB.size)
    have hz1 := hb1.size
    rw [hs0] at hz1
    clear k0 k1 k2 k3 hx0 hb1 hB
    have hq := hx1; obtain ⟨k0, k1, k2, k3⟩ := hq
    have hal : Below v1.heap.size v1 (v1.alloc (.cells #[] 3)) := (Below.refl _ _).alloc (Nat.le_refl _) _
    have hE0 := Own_new0 v1 (w.heap.size + 1) hz1
    have hB1a := hB1.alloc hB1.size (.cells #[] 3)
    have hq := hx1.below hal; obtain ⟨q0, q1, q2, q3⟩ := hq
    have hz2 : (v1.alloc (.cells #[] 3)).heap.size = v1.heap.size + 1 := by simp
    go_wp2_with fail
    refine (used_any x y Ag ng cg Ao no co gs os X _ ⟨hr.1.below hB1a (Nat.le_refl _), hr.2.below hB1a (Nat.le_refl _)⟩ (by omega) ho3 hx hy HX hgt hao').mono ?_
    rintro e v2 ⟨g, rfl, hg1, hR, hb2⟩
    rw [hz2] at hg1
    have hE2 := hE0.below hb2 (.inr (by rw [hz2]; exact Nat.le_refl _))
    have hB2 := hB1a.trans (hb2.mono hB1a.size)
    have hzv := hb2.size
    rw [hz2] at hzv
    generalize usedL X gs os = U at *
    obtain ⟨N, hN⟩ : ∃ N, X + ng = N := ⟨_, rfl⟩
    rw [hN] at hR HR ⊢
    have hNb : N ≤ 400 := by omega
    clear k0 k1 k2 k3 q0 q1 q2 q3 hE0 hb2 hal hB1a hx1 hgt hao' hN hB1
    go_wp2_with fail
    go_loopw [4, 14] (fun v i wr => ∃ (k : Nat) (A' : Option Addr) (c' : Nat), k ≤ N ∧ i = .int .i64 k ∧ v = .slice A' (rowK U k).length c' ∧ Own wr (w.heap.size + 1) wr.heap.size (.slice A' (rowK U k).length c') (rowK U k).length (rowK U k) ∧ (∀ b, (Value.slice A' (rowK U k).length c').ownBlock = some b → b ≠ g) ∧ BRow wr g N U ∧ Below w.heap.size w wr) (fun _ i _ => N - (intOf i).toNat)
    case atStart => exact ⟨0, _, _, Nat.zero_le _, rfl, rfl, hE2.now, fun b hb => by simp [Value.ownBlock] at hb; omega, hR, hB2⟩
    case round =>
      clear hE2 hR hB2
      obtain ⟨k, A', c', hk, rfl, rfl, ho, hne, hR, hb⟩ := hrel
      have hz := hb.size
      have hlen := rowK_len U k
      by_cases hlt : k < N
      · have hcb := hR.at_ k hlt
        have hglt := hR.lt
        cases hu : inL U (k : Int) with
        | true =>
          have hsn : Hid (rowK U (k + 1) = rowK U k ++ [(k : Int)]) := Lib.hid (by rw [rowK, if_pos hu])
          rw [hu] at hcb
          generalize hM : rowK U k = M at *
          have hM2 := Lib.hid hM; clear hM hu
          obtain ⟨m, hm⟩ : ∃ m, M.length = m := ⟨_, rfl⟩
          rw [hm] at ho hne hlen ⊢
          have hm2 := Lib.hid hm; clear hm
          have hoA := ho.alloc (.cells #[.int .i64 (k : Int)] 3)
          have hbA := hb.alloc hz (.cells #[.int .i64 (k : Int)] 3)
          have hRA := hR.below ((Below.refl wr.heap.size wr).alloc (Nat.le_refl _) (.cells #[.int .i64 (k : Int)] 3))
          go_wp2_with (at_builtin; refine wpList_app _ rfl _ _ rfl rfl hoA rfl (RI_one _ _ _ _ (by simp)) (by omega) (by first | omega | (simp; done) | (simp; omega)) ?_; intro A5 c5 w5 hown5 hg5 hat5)
          have hb5 := below_app hbA hoA hg5 (by simp; omega) (by omega)
          have hR5 := hRA.alt (Alt.of_grown (S := fun i => (Value.slice A' m c').ownBlock = some i) hg5 (fun i hi => hi)) (fun hc => hne g hc rfl)
          have hne5 : ∀ b, (Value.slice A5 (m + 1) c5).ownBlock = some b → b ≠ g := fun b hb9 => by
            rcases hat5 with h | h
            · exact hne b (h.symm.trans hb9)
            · rw [hb9] at h; injection h with h; simp at h; omega
          rw [← hsn.out] at hown5
          have hl5 : Hid ((rowK U (k + 1)).length = m + 1) := Lib.hid (by rw [hsn.out]; simp [hm2.out])
          clear ho hb hoA hbA hg5 hat5 hRA hR hne
          go_wp2
          go_roundw
          case rel => exact ⟨k + 1, A5, c5, by omega, by go_num, by rw [hl5.out], by rw [hl5.out]; exact hown5, by rw [hl5.out]; exact hne5, hR5, hb5⟩
          case measure => simp [intOf]; omega
        | false =>
          have hsn : Hid (rowK U (k + 1) = rowK U k) := Lib.hid (by rw [rowK, if_neg (by simp [hu])])
          rw [hu] at hcb
          clear hu
          go_wp2
          go_roundw
          case rel => exact ⟨k + 1, A', c', by omega, by go_num, by rw [hsn.out], by rw [hsn.out]; exact ho, by rw [hsn.out]; exact hne, hR, hb⟩
          case measure => simp [intOf]; omega
      · obtain rfl : N = k := Nat.le_antisymm (Nat.le_of_not_lt hlt) hk
        go_wp2
        go_ret2
        exact RetO.some_ hb HR.out rfl rfl (ho.lo_ (by omega))

end Go.Proofs.Ytgenehiiakdadaa

namespace Go.Proofs.Ytgenehiiakdadaa
open Go.RowKit
set_option linter.unusedVariables false
set_option linter.unusedSimpArgs false
attribute [local go_sem] sepAt sepUpon pureAt pureUpon

theorem bit_any (b : Bool) (w : World) : Calls Try.prog 36 #[.bool b] w fun e w' => e = .returned (.int .i64 (if b = true then 1 else 0)) ∧ w = w' := by
  cases b
  · go_enter Try.func36, Try.ntmps36
    go_wp2
    go_ret
    exact ⟨rfl, rfl⟩
  · go_enter Try.func36, Try.ntmps36
    go_wp2
    go_ret
    exact ⟨rfl, rfl⟩
theorem sep_make {o : Oper} {a : Act} (l c : Operand) (ho : o.op = .makeSlice 25 l c) (N : Nat) (hl : a.eval l = .int .i64 (N : Int)) (hc : a.eval c = .int .i64 (N : Int)) (hN : N ≤ 4194304) (w : World) : sepAt Try.prog o a (postRow w N (List.replicate N 0)) w := by
  obtain ⟨i0, hi, hz0, hz1, hz2⟩ := info_parts info_int
  obtain ⟨w', hrun, r1, r2⟩ := run_make_full (P := Try.prog) w w.heap.size 25 3 i0 (.int .i64 0) 1 Try.underlying25 hi hz0 hz1 .i64 .i64 N (by rw [hz2]; omega) (by unfold maxLen; omega) (Nat.le_refl _)
  have h : (madeCells (Value.int .i64 0).cells (N * 1)).toList = (List.replicate N (0 : Int)).map (Value.int .i64) := by simp [Value.cells, toList_madeCells_one]
  rw [h] at r1
  simp [sepAt, execOp, ho, hl, hc, hrun, sepUpon]
  exact postRow.mk_ (Own.mk_ r1) (below_of_grownBy r2)

/-- The depths behind k gates, and zeros for the others. -/
def pd (b : Bool) (gs : List G3) (X ng k : Nat) : List Int := dps b gs X k ++ List.replicate (ng - k) 0
theorem pd_lt {b : Bool} {gs : List G3} {X ng k z : Nat} (h : z < X + k) : gi (pd b gs X ng k) z = gi (dps b gs X k) z := by unfold pd; exact gi_app_l (by rw [dps_len]; exact h)
theorem pd_split {b : Bool} {gs : List G3} {X ng k : Nat} (h : k < ng) : pd b gs X ng k = dps b gs X k ++ 0 :: List.replicate (ng - (k + 1)) 0 := by
  unfold pd
  rw [show ng - k = (ng - (k + 1)) + 1 by omega, List.replicate_succ]
theorem pd_set {b : Bool} {gs : List G3} {X ng k : Nat} (h : k < ng) (v : Int) : (pd b gs X ng k).set (X + k) v = dps b gs X k ++ v :: List.replicate (ng - (k + 1)) 0 := by
  rw [pd_split h, List.set_append, if_neg (by rw [dps_len]; omega), dps_len]
  simp
theorem pd_next {b : Bool} {gs : List G3} {X ng k : Nat} (h : k < ng) : (pd b gs X ng k).set (X + k) (dv b (gg gs k) (dps b gs X k)) = pd b gs X ng (k + 1) := by
  rw [pd_set h]; unfold pd; rw [dps]; simp
theorem pd_end (b : Bool) (gs : List G3) (X ng : Nat) : pd b gs X ng ng = dps b gs X ng := by unfold pd; simp
theorem pd_own {b : Bool} {gs : List G3} {X ng k : Nat} (h : k < ng) : gi (pd b gs X ng k) (X + k) = 0 := by
  rw [pd_split h]; unfold gi; rw [List.getD_eq_getElem?_getD, List.getElem?_append_right (by rw [dps_len]; omega), dps_len]; simp
theorem pd_zero (b : Bool) (gs : List G3) (X ng : Nat) : pd b gs X ng 0 = List.replicate (X + ng) 0 := by unfold pd dps; simp
/-- What DepthOf returns. -/
def RetDp (w : World) (x y : Int) (gs : List G3) (os : List Int) (e : Ending) (w' : World) : Prop := e = .returned (.tuple #[.int .i64 (depA x y gs os), .int .i64 (depB x y gs os), .bool (circB x y gs os)]) ∧ Below w.heap.size w w'
theorem RetDp.no {w w' : World} {x y : Int} {gs : List G3} {os : List Int} (h : circB x y gs os = false) (hb : Below w.heap.size w w') : RetDp w x y gs os (.returned (.tuple #[.int .i64 0, .int .i64 0, .bool false])) w' := ⟨by simp [depA, depB, h], hb⟩
theorem RetDp.yes {w w' : World} {x y : Int} {gs : List G3} {os : List Int} {X ng : Nat} (h : circB x y gs os = true) (hX : x + y = X) (hn : gs.length = ng) {u v : Int} (hu : u = mxo (dps false gs X ng) os) (hv : v = mxo (dps true gs X ng) os) (hb : Below w.heap.size w w') : RetDp w x y gs os (.returned (.tuple #[.int .i64 u, .int .i64 v, .bool true])) w' := by
  refine ⟨?_, hb⟩
  unfold depA depB
  rw [h, if_pos rfl, if_pos rfl, hX, hn, hu, hv]
  rfl
theorem dv_two {b : Bool} {g : G3} {d : List Int} (h : g.k = 0 ∨ g.k = 1) : dv b g d = max (gi d g.a.toNat) (gi d g.b.toNat) + (if b = true then (if g.k = 1 then 1 else 0) else 1) := by unfold dv; rw [if_pos h]
theorem dv_one {b : Bool} {g : G3} {d : List Int} (h : g.k = 2) : dv b g d = gi d g.a.toNat + (if b = true then 0 else 1) := by unfold dv; rw [if_neg (by omega), if_pos h, if_neg (by omega : ¬ g.k = 1)]
theorem dv_non {b : Bool} {g : G3} {d : List Int} (h : g.k = 3) : dv b g d = (if b = true then 0 else 1) := by unfold dv; rw [if_neg (by omega), if_neg (by omega), if_neg (by omega : ¬ g.k = 1)]; omega

/-- A row that was there, in block g. -/
def Res.orow (lo hi g n c : Nat) (xs : List Int) : Res :=
  ⟨fun _ v => v = undef, fun _ _ w => Own w lo hi (.slice (some ⟨g, 0, none⟩) n c) n xs, fun _ _ b => b = g, fun _ => ⟨undef, rfl⟩,
    fun _ v w w' S h k hb => h.alt k fun q hq => by
      have hq' : g = q := by simpa [Value.ownBlock] using hq
      exact hq' ▸ (hb g rfl).1⟩
section
variable {P : Program} {W : World} {own : Nat → Prop} {cs : List (Addr × Value)} {sk : List (Nat × List Nat × List Nat)} {ini fi : List Nat} {rs : List (Nat × Res)} {ops : Array Oper} {L : Act → (Nat → Value) → Prop} {k : Nat} {o : Oper} {rest : List Oper} {a : Act} {ρ : Nat → Value}
/-- .. a number stored into it. -/
theorem mem_so (d lo hi g n c : Nat) (xs : List Int) (j : Nat) (u : Int) (v0 : Value) (hr : resAt rs k = Res.orow lo hi g n c (xs.set j u)) (he : effB sk k = true) (hrd : resAt rs d = Res.orow lo hi g n c xs) (hd : consL sk k = [d]) (hdd : d ∈ depsL sk k) (hρ : ρ d = v0)
    (hx : ∀ w, Alt (okB W own) W w → CellsL w cs → Own w lo hi (.slice (some ⟨g, 0, none⟩) n c) n xs → sepAt P o a (fun v w' => v = undef ∧ w' = w.setCell ⟨g, j, none⟩ (.int .i64 u)) w)
    (h : wpSep (mkSep W own cs sk ini fi rs) P ops L (k + 1) rest (a.put o.dst undef) (upd ρ k undef)) (hw : Region.wanted o (yielded ops a.tmps) = true := by first | exact wanted_none rfl | exact wanted_some rfl rfl rfl rfl) : wpSep (mkSep W own cs sk ini fi rs) P ops L k (o :: rest) a ρ :=
  mem_eff (hw := hw) _ hr he (fun w hw hc hp => by
    have h0 := has_dep hdd hp hρ hrd
    have h1 : Own w lo hi (.slice (some ⟨g, 0, none⟩) n c) n xs := h0.1
    have hh : (mkSep W own cs sk ini fi rs).hit k ρ = fun b => b = g := hit_one hd hρ hrd
    rw [hh]
    refine sepAt_mono (hx w hw hc h1) fun v w' ⟨e1, e2⟩ => ?_
    subst e2
    have hst := h1.stored j u
    have hgl : g < w.heap.size := (h1.lt g rfl).2.2
    exact ⟨e1, hst.1, Alt.of_grown hst.2 (fun i hi => (Option.some.inj hi).symm), fun b hb => ⟨by have hb' : b = g := hb; rw [hb']; simpa using hgl, .inr hb⟩⟩) fun v hv => by
    obtain rfl : v = undef := hv
    exact h
end
theorem own_at {g q n c : Nat} (h : (Value.slice (some ⟨g, 0, none⟩) n c).ownBlock = some q) : q = g := (by simpa [Value.ownBlock] using h : g = q).symm
theorem gi_same {l : List Int} {j : Nat} {u : Int} (h : j < l.length) : gi (l.set j u) j = u := by unfold gi; rw [List.getD_eq_getElem?_getD, List.getElem?_set]; simp [h]

set_option maxRecDepth 100000 in
set_option maxHeartbeats 4000000 in
theorem DepthOf_any (x y : Int) (Ag : Option Addr) (ng cg : Nat) (Ao : Option Addr) (no co : Nat) (gs : List G3) (os : List Int) (w : World) (hr : RG w Ag ng gs ∧ RI w Ao no os) (hng : ng ≤ 2097152) (hno : no ≤ 2097152) :
    Calls Try.prog 11 #[.agg #[.int .i64 x, .int .i64 y, .slice Ag ng cg, .slice Ao no co]] w (RetDp w x y gs os) := by
  have hB : Below w.heap.size w (w.alloc (.cells #[.int .i64 x, .int .i64 y, .slice Ag ng cg, .slice Ao no co] 27)) := (Below.refl _ _).alloc (Nat.le_refl _) _
  have hx0 : BxC (w.alloc (.cells #[.int .i64 x, .int .i64 y, .slice Ag ng cg, .slice Ao no co] 27)) w.heap.size x y Ag ng cg Ao no co := BxC.new w _
  have hs0 : (w.alloc (.cells #[.int .i64 x, .int .i64 y, .slice Ag ng cg, .slice Ao no co] 27)).heap.size = w.heap.size + 1 := by simp
  have hlg := hr.1.len
  have hlo := hr.2.len
  have hq := hx0; obtain ⟨k0, k1, k2, k3⟩ := hq
  cases h0 : circB x y gs os with
  | false =>
    have H0 := Lib.hid h0; clear h0
    go_enter Try.func11, Try.ntmps11
    go_wp2_with fail
    refine (IsCircuit_any x y Ag ng cg Ao no co gs os _ (hr.1.below hB (Nat.le_refl _)) (hr.2.below hB (Nat.le_refl _)) hng hno).mono ?_
    rintro e v1 ⟨rfl, hb1⟩
    rw [H0.out]
    go_wp2
    go_ret3
    exact RetDp.no H0.out (hB.trans (hb1.mono hB.size))
  | true =>
    obtain ⟨hx, hy, hg3, ho3, _, hao⟩ := circB_bd h0
    have hgt0 := circB_gate_at h0 hlg
    rw [hlg] at hg3 hao
    rw [hlo] at ho3
    obtain ⟨X, hX⟩ : ∃ X : Nat, x + y = X := ⟨(x + y).toNat, by omega⟩
    have hgt : ∀ k : Nat, k < ng → GateIs (gg gs k) ((X : Int) + k) := fun k hk => by
      have h := hgt0 k hk
      rwa [hX] at h
    have HO : ∀ k, k < no → 0 ≤ gi os k ∧ gi os k < ((X + ng : Nat) : Int) := fun k hk => by have := allB_gi hao (j := k) (by omega); omega
    have hX40 : X ≤ 40 := by omega
    obtain ⟨N, hN⟩ : ∃ N, X + ng = N := ⟨_, rfl⟩
    have hNb : N ≤ 400 := by omega
    have hNi : Hid (x + y + (ng : Int) = (N : Int)) := Lib.hid (by omega)
    rw [hN] at HO
    have HN := Lib.hid hN
    have HX := Lib.hid hX
    have H0 := Lib.hid h0; clear h0 hgt0 hX hao hN
    go_enter Try.func11, Try.ntmps11
    go_wp2_with fail
    refine (IsCircuit_any x y Ag ng cg Ao no co gs os _ (hr.1.below hB (Nat.le_refl _)) (hr.2.below hB (Nat.le_refl _)) hng hno).mono ?_
    rintro e v1 ⟨rfl, hb1⟩
    rw [H0.out]
    have hx1 := hx0.below hb1
    have hB1 := hB.trans (hb1.mono hB.size)
    have hz1 := hb1.size
    rw [hs0] at hz1
    clear k0 k1 k2 k3 hx0 hb1 hB
    have hq := hx1; obtain ⟨k0, k1, k2, k3⟩ := hq
    go_wp2_with fail
    refine wp_region_mem0 (8) [(⟨w.heap.size, 0, none⟩, .int .i64 x), (⟨w.heap.size, 1, none⟩, .int .i64 y), (⟨w.heap.size, 2, none⟩, .slice Ag ng cg), (⟨w.heap.size, 3, none⟩, .slice Ao no co)] [(1, [], []), (2, [], []), (4, [], []), (5, [], [])] [2, 5] [(1, Res.plain (.int .i64 (N : Int))), (2, Res.row v1.heap.size N (List.replicate N 0)), (4, Res.plain (.int .i64 (N : Int))), (5, Res.row v1.heap.size N (List.replicate N 0))] (by kernel_rfl) (by kernel_rfl) (by kernel_rfl) (by simp only [CellsL, List.mem_cons, forall_eq_or_imp, List.not_mem_nil, false_implies, implies_true, and_true]; repeat (any_goals (apply And.intro)); all_goals (first | assumption | go_simp)) ?_
    simp only [List.take_succ_cons, List.take_zero, List.drop_succ_cons, List.drop_zero, List.take_nil, List.drop_nil, List.take, List.drop]
    repeat (first
      | ((with_reducible refine mem_pure0 ?_ ?_ ?_)
         · exact rfl
         · exact rfl
         intro K hK
         apply Exists.intro
         refine ⟨fun w3 hw3 => ?_, ?_⟩
         · have hcs := hw3
           simp only [CellsL, List.mem_cons, forall_eq_or_imp, List.not_mem_nil, false_implies, implies_true, and_true] at hcs
           clear hw3
           go_simp
           first | done | exact ⟨rfl, rfl⟩ | rfl
         refine hK _ ?_
         clear hK K
         try simp only [Act.put, List.setIfInBounds_toArray, List.set_cons_zero, List.set_cons_succ])
      | ((with_reducible refine mem_skip ?_ ?_ ?_)
         · exact rfl
         · exact wanted_not rfl rfl rfl rfl
         simp only [Act.put, List.setIfInBounds_toArray, List.set_cons_zero, List.set_cons_succ])
      | ((with_reducible refine mem_pure ?_ ?_ ?_)
         · exact rfl
         · exact wanted_some rfl rfl rfl rfl
         intro K hK
         apply Exists.intro
         refine ⟨fun w3 hw3 => ?_, ?_⟩
         · have hcs := hw3
           simp only [CellsL, List.mem_cons, forall_eq_or_imp, List.not_mem_nil, false_implies, implies_true, and_true] at hcs
           clear hw3
           go_simp
           first | done | exact ⟨rfl, rfl⟩ | rfl
         refine hK _ ?_
         clear hK K
         try simp only [Act.put, List.setIfInBounds_toArray, List.set_cons_zero, List.set_cons_succ]))
    focus
      (with_reducible refine mem_plain (.int .i64 (N : Int)) ?_ ?_ ?_ ?_ (hw := ?_))
      · exact rfl
      · exact rfl
      · intro w3 hw3 hc3 hp3
        have hcs := hc3
        simp only [CellsL, List.mem_cons, forall_eq_or_imp, List.not_mem_nil, false_implies, implies_true, and_true] at hcs
        (go_simp; refine (Circuit_wires_any x y Ag ng cg Ao no co _ hx hy (by omega)).mono ?_; rintro e w4 ⟨rfl, hb4⟩; rw [hNi.out]; exact retPost.mk_ (postPlain.mk_ hb4))
      rotate_left
      · first | exact wanted_none rfl | exact wanted_some rfl rfl rfl rfl
      try simp only [Act.put, List.setIfInBounds_toArray, List.set_cons_zero, List.set_cons_succ]
    repeat (first
      | ((with_reducible refine mem_pure0 ?_ ?_ ?_)
         · exact rfl
         · exact rfl
         intro K hK
         apply Exists.intro
         refine ⟨fun w3 hw3 => ?_, ?_⟩
         · have hcs := hw3
           simp only [CellsL, List.mem_cons, forall_eq_or_imp, List.not_mem_nil, false_implies, implies_true, and_true] at hcs
           clear hw3
           go_simp
           first | done | exact ⟨rfl, rfl⟩ | rfl
         refine hK _ ?_
         clear hK K
         try simp only [Act.put, List.setIfInBounds_toArray, List.set_cons_zero, List.set_cons_succ])
      | ((with_reducible refine mem_skip ?_ ?_ ?_)
         · exact rfl
         · exact wanted_not rfl rfl rfl rfl
         simp only [Act.put, List.setIfInBounds_toArray, List.set_cons_zero, List.set_cons_succ])
      | ((with_reducible refine mem_pure ?_ ?_ ?_)
         · exact rfl
         · exact wanted_some rfl rfl rfl rfl
         intro K hK
         apply Exists.intro
         refine ⟨fun w3 hw3 => ?_, ?_⟩
         · have hcs := hw3
           simp only [CellsL, List.mem_cons, forall_eq_or_imp, List.not_mem_nil, false_implies, implies_true, and_true] at hcs
           clear hw3
           go_simp
           first | done | exact ⟨rfl, rfl⟩ | rfl
         refine hK _ ?_
         clear hK K
         try simp only [Act.put, List.setIfInBounds_toArray, List.set_cons_zero, List.set_cons_succ]))
    focus
      (with_reducible refine mem_row v1.heap.size N (List.replicate N 0) ?_ ?_ ?_ ?_ ?_ (hw := ?_))
      · exact rfl
      · exact rfl
      · omega
      · intro w3 hw3 hc3 hp3
        have hcs := hc3
        simp only [CellsL, List.mem_cons, forall_eq_or_imp, List.not_mem_nil, false_implies, implies_true, and_true] at hcs
        (exact sep_make _ _ rfl N rfl rfl (by omega) _)
      rotate_left
      · first | exact wanted_none rfl | exact wanted_some rfl rfl rfl rfl
      intro A1 c1
      try simp only [Act.put, List.setIfInBounds_toArray, List.set_cons_zero, List.set_cons_succ]
    repeat (first
      | ((with_reducible refine mem_pure0 ?_ ?_ ?_)
         · exact rfl
         · exact rfl
         intro K hK
         apply Exists.intro
         refine ⟨fun w3 hw3 => ?_, ?_⟩
         · have hcs := hw3
           simp only [CellsL, List.mem_cons, forall_eq_or_imp, List.not_mem_nil, false_implies, implies_true, and_true] at hcs
           clear hw3
           go_simp
           first | done | exact ⟨rfl, rfl⟩ | rfl
         refine hK _ ?_
         clear hK K
         try simp only [Act.put, List.setIfInBounds_toArray, List.set_cons_zero, List.set_cons_succ])
      | ((with_reducible refine mem_skip ?_ ?_ ?_)
         · exact rfl
         · exact wanted_not rfl rfl rfl rfl
         simp only [Act.put, List.setIfInBounds_toArray, List.set_cons_zero, List.set_cons_succ])
      | ((with_reducible refine mem_pure ?_ ?_ ?_)
         · exact rfl
         · exact wanted_some rfl rfl rfl rfl
         intro K hK
         apply Exists.intro
         refine ⟨fun w3 hw3 => ?_, ?_⟩
         · have hcs := hw3
           simp only [CellsL, List.mem_cons, forall_eq_or_imp, List.not_mem_nil, false_implies, implies_true, and_true] at hcs
           clear hw3
           go_simp
           first | done | exact ⟨rfl, rfl⟩ | rfl
         refine hK _ ?_
         clear hK K
         try simp only [Act.put, List.setIfInBounds_toArray, List.set_cons_zero, List.set_cons_succ]))
    focus
      (with_reducible refine mem_plain (.int .i64 (N : Int)) ?_ ?_ ?_ ?_ (hw := ?_))
      · exact rfl
      · exact rfl
      · intro w3 hw3 hc3 hp3
        have hcs := hc3
        simp only [CellsL, List.mem_cons, forall_eq_or_imp, List.not_mem_nil, false_implies, implies_true, and_true] at hcs
        (go_simp; refine (Circuit_wires_any x y Ag ng cg Ao no co _ hx hy (by omega)).mono ?_; rintro e w4 ⟨rfl, hb4⟩; rw [hNi.out]; exact retPost.mk_ (postPlain.mk_ hb4))
      rotate_left
      · first | exact wanted_none rfl | exact wanted_some rfl rfl rfl rfl
      try simp only [Act.put, List.setIfInBounds_toArray, List.set_cons_zero, List.set_cons_succ]
    repeat (first
      | ((with_reducible refine mem_pure0 ?_ ?_ ?_)
         · exact rfl
         · exact rfl
         intro K hK
         apply Exists.intro
         refine ⟨fun w3 hw3 => ?_, ?_⟩
         · have hcs := hw3
           simp only [CellsL, List.mem_cons, forall_eq_or_imp, List.not_mem_nil, false_implies, implies_true, and_true] at hcs
           clear hw3
           go_simp
           first | done | exact ⟨rfl, rfl⟩ | rfl
         refine hK _ ?_
         clear hK K
         try simp only [Act.put, List.setIfInBounds_toArray, List.set_cons_zero, List.set_cons_succ])
      | ((with_reducible refine mem_skip ?_ ?_ ?_)
         · exact rfl
         · exact wanted_not rfl rfl rfl rfl
         simp only [Act.put, List.setIfInBounds_toArray, List.set_cons_zero, List.set_cons_succ])
      | ((with_reducible refine mem_pure ?_ ?_ ?_)
         · exact rfl
         · exact wanted_some rfl rfl rfl rfl
         intro K hK
         apply Exists.intro
         refine ⟨fun w3 hw3 => ?_, ?_⟩
         · have hcs := hw3
           simp only [CellsL, List.mem_cons, forall_eq_or_imp, List.not_mem_nil, false_implies, implies_true, and_true] at hcs
           clear hw3
           go_simp
           first | done | exact ⟨rfl, rfl⟩ | rfl
         refine hK _ ?_
         clear hK K
         try simp only [Act.put, List.setIfInBounds_toArray, List.set_cons_zero, List.set_cons_succ]))
    focus
      (with_reducible refine mem_row v1.heap.size N (List.replicate N 0) ?_ ?_ ?_ ?_ ?_ (hw := ?_))
      · exact rfl
      · exact rfl
      · omega
      · intro w3 hw3 hc3 hp3
        have hcs := hc3
        simp only [CellsL, List.mem_cons, forall_eq_or_imp, List.not_mem_nil, false_implies, implies_true, and_true] at hcs
        (exact sep_make _ _ rfl N rfl rfl (by omega) _)
      rotate_left
      · first | exact wanted_none rfl | exact wanted_some rfl rfl rfl rfl
      intro A2 c2
      try simp only [Act.put, List.setIfInBounds_toArray, List.set_cons_zero, List.set_cons_succ]
    repeat (first
      | ((with_reducible refine mem_pure0 ?_ ?_ ?_)
         · exact rfl
         · exact rfl
         intro K hK
         apply Exists.intro
         refine ⟨fun w3 hw3 => ?_, ?_⟩
         · have hcs := hw3
           simp only [CellsL, List.mem_cons, forall_eq_or_imp, List.not_mem_nil, false_implies, implies_true, and_true] at hcs
           clear hw3
           go_simp
           first | done | exact ⟨rfl, rfl⟩ | rfl
         refine hK _ ?_
         clear hK K
         try simp only [Act.put, List.setIfInBounds_toArray, List.set_cons_zero, List.set_cons_succ])
      | ((with_reducible refine mem_skip ?_ ?_ ?_)
         · exact rfl
         · exact wanted_not rfl rfl rfl rfl
         simp only [Act.put, List.setIfInBounds_toArray, List.set_cons_zero, List.set_cons_succ])
      | ((with_reducible refine mem_pure ?_ ?_ ?_)
         · exact rfl
         · exact wanted_some rfl rfl rfl rfl
         intro K hK
         apply Exists.intro
         refine ⟨fun w3 hw3 => ?_, ?_⟩
         · have hcs := hw3
           simp only [CellsL, List.mem_cons, forall_eq_or_imp, List.not_mem_nil, false_implies, implies_true, and_true] at hcs
           clear hw3
           go_simp
           first | done | exact ⟨rfl, rfl⟩ | rfl
         refine hK _ ?_
         clear hK K
         try simp only [Act.put, List.setIfInBounds_toArray, List.set_cons_zero, List.set_cons_succ]))
    refine wpSep_end ?_
    intro wt hwt hct hfin hap
    have hbt := alt_below hwt
    have ho1 : Own wt v1.heap.size wt.heap.size (.slice A1 N c1) N (List.replicate N 0) := hfin.1.1
    have ho2 : Own wt v1.heap.size wt.heap.size (.slice A2 N c2) N (List.replicate N 0) := hfin.2.1.1
    have hne : ∀ g, (Value.slice A1 N c1).ownBlock = some g → (Value.slice A2 N c2).ownBlock = some g → False := fun g h1 h2 => hap 2 (by simp) 5 (by simp) (by decide) g h1 h2
    have hxt := hx1.below hbt
    have hBt := hB1.trans (hbt.mono hB1.size)
    have hzt := hbt.size
    clear hfin hap hct hwt hbt k0 k1 k2 k3 hx1 hB1
    have hq := hxt; obtain ⟨k0, k1, k2, k3⟩ := hq
    have ez : ∀ b, Hid (List.replicate N 0 = pd b gs X ng 0) := fun b => Lib.hid (by rw [pd_zero, HN.out])
    have hz2 : w.heap.size + 1 ≤ wt.heap.size := by omega
    obtain ⟨L0, hL0⟩ : ∃ L0, L0 = v1.heap.size := ⟨_, rfl⟩
    rw [← hL0] at ho1 ho2 hz1
    clear hL0 hzt
    go_wp2
    go_loopw [26] (fun i wr => ∃ k : Nat, k ≤ ng ∧ i = .int .i64 k ∧ Own wr L0 wt.heap.size (.slice A1 N c1) N (pd false gs X ng k) ∧ Own wr L0 wt.heap.size (.slice A2 N c2) N (pd true gs X ng k) ∧ Below (w.heap.size + 1) wt wr) (fun i _ => ng - (intOf i).toNat)
    case atStart => exact ⟨0, Nat.zero_le _, rfl, by rw [← (ez false).out]; exact ho1, by rw [← (ez true).out]; exact ho2, Below.refl _ _⟩
    case round =>
      clear ho1 ho2 k0 k1 k2 k3
      obtain ⟨k, hk, rfl, ho1, ho2, hb⟩ := hrel
      have hz := hb.size
      have hxr := hxt.bel hb (Nat.lt_succ_self _)
      have hBr := hBt.trans (hb.mono (by omega))
      by_cases hlt : k < ng
      · obtain ⟨kb, ob, rfl, hkb, d1, d2, d3⟩ := (hr.1.below hBr (Nat.le_refl _)).at_ hlt
        have hN0 : 0 < N := by have := HN.out; omega
        have hOw : X + k < N := by have := HN.out; omega
        have HS1 : Hid ((pd false gs X ng k).set (X + k) (dv false (gg gs k) (dps false gs X k)) = pd false gs X ng (k + 1)) := Lib.hid (pd_next hlt)
        have HS2 : Hid ((pd true gs X ng k).set (X + k) (dv true (gg gs k) (dps true gs X k)) = pd true gs X ng (k + 1)) := Lib.hid (pd_next hlt)
        have hG := hgt k hlt
        have hbd1 := dps_bd false gs X k
        have hbd2 := dps_bd true gs X k
        have hp1 : ∀ z, z < X + k → Hid (gi (pd false gs X ng k) z = gi (dps false gs X k) z) := fun z h => Lib.hid (pd_lt h)
        have hp2 : ∀ z, z < X + k → Hid (gi (pd true gs X ng k) z = gi (dps true gs X k) z) := fun z h => Lib.hid (pd_lt h)
        have hw1 : Hid (gi (pd false gs X ng k) (X + k) = 0) := Lib.hid (pd_own hlt)
        have hw2 : Hid (gi (pd true gs X ng k) (X + k) = 0) := Lib.hid (pd_own hlt)
        obtain ⟨E1, hE1⟩ : ∃ E1, Hid (pd false gs X ng (k + 1) = E1) := ⟨_, Lib.hid rfl⟩
        obtain ⟨E2, hE2⟩ : ∃ E2, Hid (pd true gs X ng (k + 1) = E2) := ⟨_, Lib.hid rfl⟩
        rw [hE1.out] at HS1
        rw [hE2.out] at HS2
        generalize pd false gs X ng k = P1 at *
        generalize pd true gs X ng k = P2 at *
        generalize dps false gs X k = D1 at *
        generalize dps true gs X k = D2 at *
        generalize gg gs k = GG at *
        obtain ⟨gk, ga, gb⟩ := GG
        dsimp only at d1 d2 d3
        obtain ⟨g1, rfl, hl1, hl2, hl3⟩ := ho1.some_ hN0
        obtain ⟨g2, rfl, hm1, hm2, hm3⟩ := ho2.some_ hN0
        have hgne : g1 ≠ g2 := fun hc => hne g1 rfl (by rw [hc]; rfl)
        obtain ⟨O, hO⟩ : ∃ O, X + k = O := ⟨_, rfl⟩
        rw [hO] at HS1 HS2 hw1 hw2 hOw hp1 hp2
        have hOi : IntKind.i64.wrap ((X : Int) + (k : Int)) = (O : Int) := by rw [IntKind.wrap_i64] <;> omega
        have hOi2 : (X : Int) + (k : Int) = (O : Int) := by omega
        rw [hOi2] at hG
        clear hO hOi2
        obtain ⟨b0, hb0⟩ : ∃ b0, b0 = wr.heap.size := ⟨_, rfl⟩
        have alA : Below wr.heap.size wr (wr.alloc (.cells #[.int .i64 gk, .int .i64 ga, .int .i64 gb] 58)) := (Below.refl _ _).alloc (Nat.le_refl _) _
        have oA1 := ho1.below alA (.inl (Nat.le_refl _))
        have oA2 := ho2.below alA (.inl (Nat.le_refl _))
        have xA := hxr.below alA
        have hszA : (wr.alloc (.cells #[.int .i64 gk, .int .i64 ga, .int .i64 gb] 58)).heap.size = wr.heap.size + 1 := by simp
        have bA := hb.trans (alA.mono (by omega))
        have f0 := box_cell wr #[.int .i64 gk, .int .i64 ga, .int .i64 gb] (T := 58) 0 _ rfl
        have f1 := box_cell wr #[.int .i64 gk, .int .i64 ga, .int .i64 gb] (T := 58) 1 _ rfl
        have f2 := box_cell wr #[.int .i64 gk, .int .i64 ga, .int .i64 gb] (T := 58) 2 _ rfl
        have hq := xA; obtain ⟨q0, q1, q2, q3⟩ := hq
        go_wp2_with fail
        refine (Circuit_inputs_any x y _ ng cg Ao no co _ hx hy).mono ?_
        rintro e v5 ⟨rfl, hb5⟩
        rw [HX.out]
        have o51 := oA1.below hb5 (.inl (by rw [hszA]; omega))
        have o52 := oA2.below hb5 (.inl (by rw [hszA]; omega))
        have x5 := xA.below hb5
        have e0 := cell_below f0 hb5
        have e1 := cell_below f1 hb5
        have e2 := cell_below f2 hb5
        have b5 := bA.trans (hb5.mono (by rw [hszA]; omega))
        have hz5 := hb5.size
        rw [hszA] at hz5
        clear q0 q1 q2 q3 f0 f1 f2 oA1 oA2 xA bA alA hb5 ho1 ho2 hb hxr hBr d1 d2 d3
        have hlP1 := o51.len
        have hlP2 := o52.len
        clear hgt
        cases hG with
        | xor_ h1 h2 h3 h4 h5 =>
          have KD : gk = 0 ∧ 0 ≤ ga ∧ ga < (O : Int) ∧ 0 ≤ gb ∧ gb < (O : Int) := ⟨by assumption, by assumption, by assumption, by assumption, by assumption⟩
          obtain ⟨rfl, hga1, hga2, hgb1, hgb2⟩ := KD
          obtain ⟨a, rfl⟩ : ∃ a : Nat, ga = a := ⟨ga.toNat, by omega⟩
          have ha : a < O := by omega
          obtain ⟨b, rfl⟩ : ∃ b : Nat, gb = b := ⟨gb.toNat, by omega⟩
          have hbO : b < O := by omega
          clear h1 h2 h3 h4 h5
          have hD : Hid (gi P1 a = gi D1 a) := hp1 a ha
          have hD2 : Hid (gi P2 a = gi D2 a) := hp2 a ha
          have bD := hbd1 a
          have bD2 := hbd2 a
          have hF : Hid (gi P1 b = gi D1 b) := hp1 b hbO
          have hF2 : Hid (gi P2 b = gi D2 b) := hp2 b hbO
          have bF := hbd1 b
          have bF2 := hbd2 b
          have hv1 : Hid (dv false ⟨0, (a : Int), (b : Int)⟩ D1 = max (gi D1 a) (gi D1 b) + 1) := Lib.hid (by rw [dv_two (by simp)]; simp)
          have hv2 : Hid (dv true ⟨0, (a : Int), (b : Int)⟩ D2 = max (gi D2 a) (gi D2 b)) := Lib.hid (by rw [dv_two (by simp)]; simp)
          rw [hv1.out] at HS1
          rw [hv2.out] at HS2
          clear hp1 hp2 hbd1 hbd2 hv1 hv2
          generalize gi D1 a = D at *
          generalize gi D2 a = DD at *
          generalize gi D1 b = F at *
          generalize gi D2 b = FF at *
          have hwM1 : IntKind.i64.wrap (max D F + 1) = max D F + 1 := by rw [IntKind.wrap_i64] <;> omega
          have hwM2 : IntKind.i64.wrap (max DD FF) = max DD FF := by rw [IntKind.wrap_i64] <;> omega
          obtain ⟨cD2, fD2⟩ := o52.cellAt (k := a) (by omega)
          rw [hD2.out] at cD2
          obtain ⟨cF2, fF2⟩ := o52.cellAt (k := b) (by omega)
          rw [hF2.out] at cF2
          obtain ⟨cO2, fO2⟩ := o52.cellAt (k := O) hOw
          rw [hw2.out] at cO2
          have i1 : (a : Int) < (N : Int) := by omega
          have i4 : a < N := by omega
          have i2 : (b : Int) < (N : Int) := by omega
          have i5 : b < N := by omega
          have i3 : (O : Int) < (N : Int) := by omega
          have nb1 : ¬ wr.heap.size = g1 := by omega
          have nb2 : ¬ g2 = g1 := fun h => hgne h.symm
          have hg1l : g1 < v5.heap.size := by omega
          go_wp2_with fail
          refine wp_region_mem (28) ((fun i => i = g1)) [(⟨wr.heap.size, 1, none⟩, .int .i64 (a : Int)), (⟨wr.heap.size, 2, none⟩, .int .i64 (b : Int)), (⟨g2, a, none⟩, .int .i64 DD), (⟨g2, b, none⟩, .int .i64 FF), (⟨g2, O, none⟩, .int .i64 0)] [(8, [101], []), (13, [101], []), (27, [101], [101])] [101] [27] [(101, Res.orow L0 wt.heap.size g1 N c1 P1), (8, Res.plain (.int .i64 D)), (13, Res.plain (.int .i64 F)), (27, Res.orow L0 wt.heap.size g1 N c1 (P1.set O (max D F)))] ((upd (fun _ => undef) 101 undef)) (by kernel_rfl) (by kernel_rfl) (by kernel_rfl) (by simp only [CellsL, List.mem_cons, forall_eq_or_imp, List.not_mem_nil, false_implies, implies_true, and_true]; repeat (any_goals (apply And.intro)); all_goals (first | assumption | go_simp)) (fun q9 hq9 => by simp only [List.mem_cons, List.not_mem_nil, or_false] at hq9; rcases hq9 with rfl | rfl | rfl | rfl | rfl <;> intro hc <;> first | exact nb1 hc | exact nb2 hc) (⟨⟨o51, fun b9 hb9 => ⟨.inr hb9, by have hb8 : b9 = g1 := hb9; rw [hb8]; exact hg1l⟩⟩, trivial⟩) ((fun d hd d' hd' hn => absurd ((List.mem_singleton.1 hd).trans (List.mem_singleton.1 hd').symm) hn)) ?_
          simp only [List.take_succ_cons, List.take_zero, List.drop_succ_cons, List.drop_zero, List.take_nil, List.drop_nil, List.take, List.drop]
          repeat (first
            | ((with_reducible refine mem_pure0 ?_ ?_ ?_)
               · exact rfl
               · exact rfl
               intro K hK
               apply Exists.intro
               refine ⟨fun w3 hw3 => ?_, ?_⟩
               · have hcs := hw3
                 simp only [CellsL, List.mem_cons, forall_eq_or_imp, List.not_mem_nil, false_implies, implies_true, and_true] at hcs
                 clear hw3
                 go_simp
                 first | done | exact ⟨rfl, rfl⟩ | rfl
               refine hK _ ?_
               clear hK K
               try simp only [Act.put, List.setIfInBounds_toArray, List.set_cons_zero, List.set_cons_succ])
            | ((with_reducible refine mem_skip ?_ ?_ ?_)
               · exact rfl
               · exact wanted_not rfl rfl rfl rfl
               simp only [Act.put, List.setIfInBounds_toArray, List.set_cons_zero, List.set_cons_succ])
            | ((with_reducible refine mem_pure ?_ ?_ ?_)
               · exact rfl
               · exact wanted_some rfl rfl rfl rfl
               intro K hK
               apply Exists.intro
               refine ⟨fun w3 hw3 => ?_, ?_⟩
               · have hcs := hw3
                 simp only [CellsL, List.mem_cons, forall_eq_or_imp, List.not_mem_nil, false_implies, implies_true, and_true] at hcs
                 clear hw3
                 go_simp
                 first | done | exact ⟨rfl, rfl⟩ | rfl
               refine hK _ ?_
               clear hK K
               try simp only [Act.put, List.setIfInBounds_toArray, List.set_cons_zero, List.set_cons_succ]))
          focus
            (with_reducible refine mem_plain (.int .i64 D) ?_ ?_ ?_ ?_ (hw := ?_))
            · exact rfl
            · exact rfl
            · intro w3 hw3 hc3 hp3
              have hcs := hc3
              simp only [CellsL, List.mem_cons, forall_eq_or_imp, List.not_mem_nil, false_implies, implies_true, and_true] at hcs
              (have hh : Own w3 L0 wt.heap.size (Value.slice (some ⟨g1, 0, none⟩) N c1) N P1 := hp3.1.1.1; obtain ⟨cc9, _⟩ := hh.cellAt (k := a) (by omega); rw [hD.out] at cc9; go_simp; exact postPlain.mk_ (Below.refl _ _))
            rotate_left
            · first | exact wanted_none rfl | exact wanted_some rfl rfl rfl rfl
            try simp only [Act.put, List.setIfInBounds_toArray, List.set_cons_zero, List.set_cons_succ]
          repeat (first
            | ((with_reducible refine mem_pure0 ?_ ?_ ?_)
               · exact rfl
               · exact rfl
               intro K hK
               apply Exists.intro
               refine ⟨fun w3 hw3 => ?_, ?_⟩
               · have hcs := hw3
                 simp only [CellsL, List.mem_cons, forall_eq_or_imp, List.not_mem_nil, false_implies, implies_true, and_true] at hcs
                 clear hw3
                 go_simp
                 first | done | exact ⟨rfl, rfl⟩ | rfl
               refine hK _ ?_
               clear hK K
               try simp only [Act.put, List.setIfInBounds_toArray, List.set_cons_zero, List.set_cons_succ])
            | ((with_reducible refine mem_skip ?_ ?_ ?_)
               · exact rfl
               · exact wanted_not rfl rfl rfl rfl
               simp only [Act.put, List.setIfInBounds_toArray, List.set_cons_zero, List.set_cons_succ])
            | ((with_reducible refine mem_pure ?_ ?_ ?_)
               · exact rfl
               · exact wanted_some rfl rfl rfl rfl
               intro K hK
               apply Exists.intro
               refine ⟨fun w3 hw3 => ?_, ?_⟩
               · have hcs := hw3
                 simp only [CellsL, List.mem_cons, forall_eq_or_imp, List.not_mem_nil, false_implies, implies_true, and_true] at hcs
                 clear hw3
                 go_simp
                 first | done | exact ⟨rfl, rfl⟩ | rfl
               refine hK _ ?_
               clear hK K
               try simp only [Act.put, List.setIfInBounds_toArray, List.set_cons_zero, List.set_cons_succ]))
          focus
            (with_reducible refine mem_plain (.int .i64 F) ?_ ?_ ?_ ?_ (hw := ?_))
            · exact rfl
            · exact rfl
            · intro w3 hw3 hc3 hp3
              have hcs := hc3
              simp only [CellsL, List.mem_cons, forall_eq_or_imp, List.not_mem_nil, false_implies, implies_true, and_true] at hcs
              (have hh : Own w3 L0 wt.heap.size (Value.slice (some ⟨g1, 0, none⟩) N c1) N P1 := hp3.1.1.1; obtain ⟨cc9, _⟩ := hh.cellAt (k := b) (by omega); rw [hF.out] at cc9; go_simp; exact postPlain.mk_ (Below.refl _ _))
            rotate_left
            · first | exact wanted_none rfl | exact wanted_some rfl rfl rfl rfl
            try simp only [Act.put, List.setIfInBounds_toArray, List.set_cons_zero, List.set_cons_succ]
          repeat (first
            | ((with_reducible refine mem_pure0 ?_ ?_ ?_)
               · exact rfl
               · exact rfl
               intro K hK
               apply Exists.intro
               refine ⟨fun w3 hw3 => ?_, ?_⟩
               · have hcs := hw3
                 simp only [CellsL, List.mem_cons, forall_eq_or_imp, List.not_mem_nil, false_implies, implies_true, and_true] at hcs
                 clear hw3
                 go_simp
                 first | done | exact ⟨rfl, rfl⟩ | rfl
               refine hK _ ?_
               clear hK K
               try simp only [Act.put, List.setIfInBounds_toArray, List.set_cons_zero, List.set_cons_succ])
            | ((with_reducible refine mem_skip ?_ ?_ ?_)
               · exact rfl
               · exact wanted_not rfl rfl rfl rfl
               simp only [Act.put, List.setIfInBounds_toArray, List.set_cons_zero, List.set_cons_succ])
            | ((with_reducible refine mem_pure ?_ ?_ ?_)
               · exact rfl
               · exact wanted_some rfl rfl rfl rfl
               intro K hK
               apply Exists.intro
               refine ⟨fun w3 hw3 => ?_, ?_⟩
               · have hcs := hw3
                 simp only [CellsL, List.mem_cons, forall_eq_or_imp, List.not_mem_nil, false_implies, implies_true, and_true] at hcs
                 clear hw3
                 go_simp
                 first | done | exact ⟨rfl, rfl⟩ | rfl
               refine hK _ ?_
               clear hK K
               try simp only [Act.put, List.setIfInBounds_toArray, List.set_cons_zero, List.set_cons_succ]))
          refine mem_so 101 L0 wt.heap.size g1 N c1 P1 O (max D F) undef (by rfl) (by rfl) (by rfl) (by rfl) (by decide) (by rfl) (fun w3 hw3 hc3 hh => ?_) ?_
          · obtain ⟨cc9, ff9⟩ := hh.cellAt (k := O) hOw
            rw [hw1.out] at cc9
            go_simp
            first | done | exact ⟨rfl, rfl⟩ | rfl
          try simp only [Act.put, List.setIfInBounds_toArray, List.set_cons_zero, List.set_cons_succ]
          repeat (first
            | ((with_reducible refine mem_pure0 ?_ ?_ ?_)
               · exact rfl
               · exact rfl
               intro K hK
               apply Exists.intro
               refine ⟨fun w3 hw3 => ?_, ?_⟩
               · have hcs := hw3
                 simp only [CellsL, List.mem_cons, forall_eq_or_imp, List.not_mem_nil, false_implies, implies_true, and_true] at hcs
                 clear hw3
                 go_simp
                 first | done | exact ⟨rfl, rfl⟩ | rfl
               refine hK _ ?_
               clear hK K
               try simp only [Act.put, List.setIfInBounds_toArray, List.set_cons_zero, List.set_cons_succ])
            | ((with_reducible refine mem_skip ?_ ?_ ?_)
               · exact rfl
               · exact wanted_not rfl rfl rfl rfl
               simp only [Act.put, List.setIfInBounds_toArray, List.set_cons_zero, List.set_cons_succ])
            | ((with_reducible refine mem_pure ?_ ?_ ?_)
               · exact rfl
               · exact wanted_some rfl rfl rfl rfl
               intro K hK
               apply Exists.intro
               refine ⟨fun w3 hw3 => ?_, ?_⟩
               · have hcs := hw3
                 simp only [CellsL, List.mem_cons, forall_eq_or_imp, List.not_mem_nil, false_implies, implies_true, and_true] at hcs
                 clear hw3
                 go_simp
                 first | done | exact ⟨rfl, rfl⟩ | rfl
               refine hK _ ?_
               clear hK K
               try simp only [Act.put, List.setIfInBounds_toArray, List.set_cons_zero, List.set_cons_succ]))
          refine wpSep_end ?_
          intro wy hwy hcy hfin hap
          have r1 : Own wy L0 wt.heap.size (Value.slice (some ⟨g1, 0, none⟩) N c1) N (P1.set O (max D F)) := hfin.1.1
          have r2 := o52.alt hwy (fun q hq hc => by rw [own_at hq] at hc; rcases hc with h | h <;> first | omega | exact nb2 h)
          have hby := b5.trans (hwy.below_ (B := w.heap.size + 1) (by omega) (fun i hi hc => by rcases hc with h | h <;> first | omega | (have h' : i = g1 := h; omega)))
          have e0y := hwy.cell_ e0 (fun hc => by rcases hc with h | h <;> first | exact nb1 h | (have h' : v5.heap.size ≤ wr.heap.size := h; omega))
          obtain ⟨cy2, fy2⟩ := r2.cellAt (k := O) hOw
          rw [hw2.out] at cy2
          have hs2 := r2.stored O (max DD FF)
          have t1 := r1.grown hs2.2 (.inr (by simp [Value.ownBlock]; exact hgne))
          have t2 := hs2.1
          have hbz := hby.setCell (p := ⟨g2, O, none⟩) (by show w.heap.size + 1 ≤ g2; omega) (.int .i64 (max DD FF))
          have e0z : (wy.setCell ⟨g2, O, none⟩ (.int .i64 (max DD FF))).cell? ⟨wr.heap.size, 0, none⟩ = some (.int .i64 0) := by rw [World.cell?_setCell_other _ _ _ _ (by first | (simp; done) | (simp; omega))]; exact e0y
          have hzy := hwy.size
          clear hfin hap hcy hwy r1 r2 hby e0y e0 e1 e2 o51 o52 x5 b5 cD2 fD2 cO2 fO2 cF2 fF2
          obtain ⟨ca1, fa1⟩ := t1.cellAt (k := O) hOw
          rw [gi_same (by rw [hlP1]; exact hOw)] at ca1
          have hs3 := t1.stored O (max D F + 1)
          have u1 := hs3.1
          have u2 := t2.grown hs3.2 (.inr (by simp [Value.ownBlock]; exact fun h => hgne h.symm))
          have hbu := hbz.setCell (p := ⟨g1, O, none⟩) (by show w.heap.size + 1 ≤ g1; omega) (.int .i64 (max D F + 1))
          have e0u : ((wy.setCell ⟨g2, O, none⟩ (.int .i64 (max DD FF))).setCell ⟨g1, O, none⟩ (.int .i64 (max D F + 1))).cell? ⟨wr.heap.size, 0, none⟩ = some (.int .i64 0) := by rw [World.cell?_setCell_other _ _ _ _ (by first | (simp; done) | (simp; omega))]; exact e0z
          obtain ⟨ca2, fa2⟩ := u2.cellAt (k := O) hOw
          rw [gi_same (by rw [hlP2]; exact hOw)] at ca2
          rw [List.set_set] at u1
          rw [HS1.out] at u1
          clear t1 t2 hbz hs3 hs2 e0z
          go_wp2_with fail
          refine wp_region_mem0 (9) [(⟨g2, O, none⟩, .int .i64 (max DD FF)), (⟨wr.heap.size, 0, none⟩, .int .i64 0)] [(7, [], [])] [] [(7, Res.plain (.int .i64 0))] (by kernel_rfl) (by kernel_rfl) (by kernel_rfl) (by simp only [CellsL, List.mem_cons, forall_eq_or_imp, List.not_mem_nil, false_implies, implies_true, and_true]; repeat (any_goals (apply And.intro)); all_goals (first | assumption | go_simp)) ?_
          simp only [List.take_succ_cons, List.take_zero, List.drop_succ_cons, List.drop_zero, List.take_nil, List.drop_nil, List.take, List.drop]
          repeat (first
            | ((with_reducible refine mem_pure0 ?_ ?_ ?_)
               · exact rfl
               · exact rfl
               intro K hK
               apply Exists.intro
               refine ⟨fun w3 hw3 => ?_, ?_⟩
               · have hcs := hw3
                 simp only [CellsL, List.mem_cons, forall_eq_or_imp, List.not_mem_nil, false_implies, implies_true, and_true] at hcs
                 clear hw3
                 go_simp
                 first | done | exact ⟨rfl, rfl⟩ | rfl
               refine hK _ ?_
               clear hK K
               try simp only [Act.put, List.setIfInBounds_toArray, List.set_cons_zero, List.set_cons_succ])
            | ((with_reducible refine mem_skip ?_ ?_ ?_)
               · exact rfl
               · exact wanted_not rfl rfl rfl rfl
               simp only [Act.put, List.setIfInBounds_toArray, List.set_cons_zero, List.set_cons_succ])
            | ((with_reducible refine mem_pure ?_ ?_ ?_)
               · exact rfl
               · exact wanted_some rfl rfl rfl rfl
               intro K hK
               apply Exists.intro
               refine ⟨fun w3 hw3 => ?_, ?_⟩
               · have hcs := hw3
                 simp only [CellsL, List.mem_cons, forall_eq_or_imp, List.not_mem_nil, false_implies, implies_true, and_true] at hcs
                 clear hw3
                 go_simp
                 first | done | exact ⟨rfl, rfl⟩ | rfl
               refine hK _ ?_
               clear hK K
               try simp only [Act.put, List.setIfInBounds_toArray, List.set_cons_zero, List.set_cons_succ]))
          focus
            (with_reducible refine mem_plain (.int .i64 0) ?_ ?_ ?_ ?_ (hw := ?_))
            · exact rfl
            · exact rfl
            · intro w3 hw3 hc3 hp3
              have hcs := hc3
              simp only [CellsL, List.mem_cons, forall_eq_or_imp, List.not_mem_nil, false_implies, implies_true, and_true] at hcs
              (go_simp; refine (bit_any false _).mono ?_; rintro e w4 ⟨rfl, rfl⟩; exact retPost.mk_ (postPlain.mk_ (Below.refl _ _)))
            rotate_left
            · first | exact wanted_none rfl | exact wanted_some rfl rfl rfl rfl
            try simp only [Act.put, List.setIfInBounds_toArray, List.set_cons_zero, List.set_cons_succ]
          repeat (first
            | ((with_reducible refine mem_pure0 ?_ ?_ ?_)
               · exact rfl
               · exact rfl
               intro K hK
               apply Exists.intro
               refine ⟨fun w3 hw3 => ?_, ?_⟩
               · have hcs := hw3
                 simp only [CellsL, List.mem_cons, forall_eq_or_imp, List.not_mem_nil, false_implies, implies_true, and_true] at hcs
                 clear hw3
                 go_simp
                 first | done | exact ⟨rfl, rfl⟩ | rfl
               refine hK _ ?_
               clear hK K
               try simp only [Act.put, List.setIfInBounds_toArray, List.set_cons_zero, List.set_cons_succ])
            | ((with_reducible refine mem_skip ?_ ?_ ?_)
               · exact rfl
               · exact wanted_not rfl rfl rfl rfl
               simp only [Act.put, List.setIfInBounds_toArray, List.set_cons_zero, List.set_cons_succ])
            | ((with_reducible refine mem_pure ?_ ?_ ?_)
               · exact rfl
               · exact wanted_some rfl rfl rfl rfl
               intro K hK
               apply Exists.intro
               refine ⟨fun w3 hw3 => ?_, ?_⟩
               · have hcs := hw3
                 simp only [CellsL, List.mem_cons, forall_eq_or_imp, List.not_mem_nil, false_implies, implies_true, and_true] at hcs
                 clear hw3
                 go_simp
                 first | done | exact ⟨rfl, rfl⟩ | rfl
               refine hK _ ?_
               clear hK K
               try simp only [Act.put, List.setIfInBounds_toArray, List.set_cons_zero, List.set_cons_succ]))
          refine wpSep_end ?_
          intro wz hwz hcz hfin hap
          have hbzz := alt_below hwz
          have u1z := u1.below hbzz (.inl (Nat.le_refl _))
          have u2z := u2.below hbzz (.inl (Nat.le_refl _))
          obtain ⟨cz2, fz2⟩ := u2z.cellAt (k := O) hOw
          rw [gi_same (by rw [hlP2]; exact hOw)] at cz2
          have hs4 := u2z.stored O (max DD FF)
          have y2 := hs4.1
          rw [List.set_set] at y2
          rw [HS2.out] at y2
          have y1 := u1z.grown hs4.2 (.inr (by simp [Value.ownBlock]; exact hgne))
          have hszu : w.heap.size + 1 ≤ ((wy.setCell ⟨g2, O, none⟩ (.int .i64 (max DD FF))).setCell ⟨g1, O, none⟩ (.int .i64 (max D F + 1))).heap.size := Nat.le_trans (by omega) hbu.size
          have hbe := (hbu.trans (hbzz.mono hszu)).setCell (p := ⟨g2, O, none⟩) (by show w.heap.size + 1 ≤ g2; omega) (.int .i64 (max DD FF))
          clear hfin hap hcz hwz u1 u2 u1z u2z hs4 hbu hbzz ca1 fa1 ca2 fa2 e0u
          go_wp2
          go_roundw
          case rel => exact ⟨k + 1, by omega, by go_num, by rw [hE1.out]; exact y1, by rw [hE2.out]; exact y2, hbe⟩
          case measure => simp [intOf]; omega
        | and_ h1 h2 h3 h4 h5 =>
          have KD : gk = 1 ∧ 0 ≤ ga ∧ ga < (O : Int) ∧ 0 ≤ gb ∧ gb < (O : Int) := ⟨by assumption, by assumption, by assumption, by assumption, by assumption⟩
          obtain ⟨rfl, hga1, hga2, hgb1, hgb2⟩ := KD
          obtain ⟨a, rfl⟩ : ∃ a : Nat, ga = a := ⟨ga.toNat, by omega⟩
          have ha : a < O := by omega
          obtain ⟨b, rfl⟩ : ∃ b : Nat, gb = b := ⟨gb.toNat, by omega⟩
          have hbO : b < O := by omega
          clear h1 h2 h3 h4 h5
          have hD : Hid (gi P1 a = gi D1 a) := hp1 a ha
          have hD2 : Hid (gi P2 a = gi D2 a) := hp2 a ha
          have bD := hbd1 a
          have bD2 := hbd2 a
          have hF : Hid (gi P1 b = gi D1 b) := hp1 b hbO
          have hF2 : Hid (gi P2 b = gi D2 b) := hp2 b hbO
          have bF := hbd1 b
          have bF2 := hbd2 b
          have hv1 : Hid (dv false ⟨1, (a : Int), (b : Int)⟩ D1 = max (gi D1 a) (gi D1 b) + 1) := Lib.hid (by rw [dv_two (by simp)]; simp)
          have hv2 : Hid (dv true ⟨1, (a : Int), (b : Int)⟩ D2 = max (gi D2 a) (gi D2 b) + 1) := Lib.hid (by rw [dv_two (by simp)]; simp)
          rw [hv1.out] at HS1
          rw [hv2.out] at HS2
          clear hp1 hp2 hbd1 hbd2 hv1 hv2
          generalize gi D1 a = D at *
          generalize gi D2 a = DD at *
          generalize gi D1 b = F at *
          generalize gi D2 b = FF at *
          have hwM1 : IntKind.i64.wrap (max D F + 1) = max D F + 1 := by rw [IntKind.wrap_i64] <;> omega
          have hwM2 : IntKind.i64.wrap (max DD FF + 1) = max DD FF + 1 := by rw [IntKind.wrap_i64] <;> omega
          obtain ⟨cD2, fD2⟩ := o52.cellAt (k := a) (by omega)
          rw [hD2.out] at cD2
          obtain ⟨cF2, fF2⟩ := o52.cellAt (k := b) (by omega)
          rw [hF2.out] at cF2
          obtain ⟨cO2, fO2⟩ := o52.cellAt (k := O) hOw
          rw [hw2.out] at cO2
          have i1 : (a : Int) < (N : Int) := by omega
          have i4 : a < N := by omega
          have i2 : (b : Int) < (N : Int) := by omega
          have i5 : b < N := by omega
          have i3 : (O : Int) < (N : Int) := by omega
          have nb1 : ¬ wr.heap.size = g1 := by omega
          have nb2 : ¬ g2 = g1 := fun h => hgne h.symm
          have hg1l : g1 < v5.heap.size := by omega
          go_wp2_with fail
          refine wp_region_mem (28) ((fun i => i = g1)) [(⟨wr.heap.size, 1, none⟩, .int .i64 (a : Int)), (⟨wr.heap.size, 2, none⟩, .int .i64 (b : Int)), (⟨g2, a, none⟩, .int .i64 DD), (⟨g2, b, none⟩, .int .i64 FF), (⟨g2, O, none⟩, .int .i64 0)] [(8, [101], []), (13, [101], []), (27, [101], [101])] [101] [27] [(101, Res.orow L0 wt.heap.size g1 N c1 P1), (8, Res.plain (.int .i64 D)), (13, Res.plain (.int .i64 F)), (27, Res.orow L0 wt.heap.size g1 N c1 (P1.set O (max D F)))] ((upd (fun _ => undef) 101 undef)) (by kernel_rfl) (by kernel_rfl) (by kernel_rfl) (by simp only [CellsL, List.mem_cons, forall_eq_or_imp, List.not_mem_nil, false_implies, implies_true, and_true]; repeat (any_goals (apply And.intro)); all_goals (first | assumption | go_simp)) (fun q9 hq9 => by simp only [List.mem_cons, List.not_mem_nil, or_false] at hq9; rcases hq9 with rfl | rfl | rfl | rfl | rfl <;> intro hc <;> first | exact nb1 hc | exact nb2 hc) (⟨⟨o51, fun b9 hb9 => ⟨.inr hb9, by have hb8 : b9 = g1 := hb9; rw [hb8]; exact hg1l⟩⟩, trivial⟩) ((fun d hd d' hd' hn => absurd ((List.mem_singleton.1 hd).trans (List.mem_singleton.1 hd').symm) hn)) ?_
          simp only [List.take_succ_cons, List.take_zero, List.drop_succ_cons, List.drop_zero, List.take_nil, List.drop_nil, List.take, List.drop]
          repeat (first
            | ((with_reducible refine mem_pure0 ?_ ?_ ?_)
               · exact rfl
               · exact rfl
               intro K hK
               apply Exists.intro
               refine ⟨fun w3 hw3 => ?_, ?_⟩
               · have hcs := hw3
                 simp only [CellsL, List.mem_cons, forall_eq_or_imp, List.not_mem_nil, false_implies, implies_true, and_true] at hcs
                 clear hw3
                 go_simp
                 first | done | exact ⟨rfl, rfl⟩ | rfl
               refine hK _ ?_
               clear hK K
               try simp only [Act.put, List.setIfInBounds_toArray, List.set_cons_zero, List.set_cons_succ])
            | ((with_reducible refine mem_skip ?_ ?_ ?_)
               · exact rfl
               · exact wanted_not rfl rfl rfl rfl
               simp only [Act.put, List.setIfInBounds_toArray, List.set_cons_zero, List.set_cons_succ])
            | ((with_reducible refine mem_pure ?_ ?_ ?_)
               · exact rfl
               · exact wanted_some rfl rfl rfl rfl
               intro K hK
               apply Exists.intro
               refine ⟨fun w3 hw3 => ?_, ?_⟩
               · have hcs := hw3
                 simp only [CellsL, List.mem_cons, forall_eq_or_imp, List.not_mem_nil, false_implies, implies_true, and_true] at hcs
                 clear hw3
                 go_simp
                 first | done | exact ⟨rfl, rfl⟩ | rfl
               refine hK _ ?_
               clear hK K
               try simp only [Act.put, List.setIfInBounds_toArray, List.set_cons_zero, List.set_cons_succ]))
          focus
            (with_reducible refine mem_plain (.int .i64 D) ?_ ?_ ?_ ?_ (hw := ?_))
            · exact rfl
            · exact rfl
            · intro w3 hw3 hc3 hp3
              have hcs := hc3
              simp only [CellsL, List.mem_cons, forall_eq_or_imp, List.not_mem_nil, false_implies, implies_true, and_true] at hcs
              (have hh : Own w3 L0 wt.heap.size (Value.slice (some ⟨g1, 0, none⟩) N c1) N P1 := hp3.1.1.1; obtain ⟨cc9, _⟩ := hh.cellAt (k := a) (by omega); rw [hD.out] at cc9; go_simp; exact postPlain.mk_ (Below.refl _ _))
            rotate_left
            · first | exact wanted_none rfl | exact wanted_some rfl rfl rfl rfl
            try simp only [Act.put, List.setIfInBounds_toArray, List.set_cons_zero, List.set_cons_succ]
          repeat (first
            | ((with_reducible refine mem_pure0 ?_ ?_ ?_)
               · exact rfl
               · exact rfl
               intro K hK
               apply Exists.intro
               refine ⟨fun w3 hw3 => ?_, ?_⟩
               · have hcs := hw3
                 simp only [CellsL, List.mem_cons, forall_eq_or_imp, List.not_mem_nil, false_implies, implies_true, and_true] at hcs
                 clear hw3
                 go_simp
                 first | done | exact ⟨rfl, rfl⟩ | rfl
               refine hK _ ?_
               clear hK K
               try simp only [Act.put, List.setIfInBounds_toArray, List.set_cons_zero, List.set_cons_succ])
            | ((with_reducible refine mem_skip ?_ ?_ ?_)
               · exact rfl
               · exact wanted_not rfl rfl rfl rfl
               simp only [Act.put, List.setIfInBounds_toArray, List.set_cons_zero, List.set_cons_succ])
            | ((with_reducible refine mem_pure ?_ ?_ ?_)
               · exact rfl
               · exact wanted_some rfl rfl rfl rfl
               intro K hK
               apply Exists.intro
               refine ⟨fun w3 hw3 => ?_, ?_⟩
               · have hcs := hw3
                 simp only [CellsL, List.mem_cons, forall_eq_or_imp, List.not_mem_nil, false_implies, implies_true, and_true] at hcs
                 clear hw3
                 go_simp
                 first | done | exact ⟨rfl, rfl⟩ | rfl
               refine hK _ ?_
               clear hK K
               try simp only [Act.put, List.setIfInBounds_toArray, List.set_cons_zero, List.set_cons_succ]))
          focus
            (with_reducible refine mem_plain (.int .i64 F) ?_ ?_ ?_ ?_ (hw := ?_))
            · exact rfl
            · exact rfl
            · intro w3 hw3 hc3 hp3
              have hcs := hc3
              simp only [CellsL, List.mem_cons, forall_eq_or_imp, List.not_mem_nil, false_implies, implies_true, and_true] at hcs
              (have hh : Own w3 L0 wt.heap.size (Value.slice (some ⟨g1, 0, none⟩) N c1) N P1 := hp3.1.1.1; obtain ⟨cc9, _⟩ := hh.cellAt (k := b) (by omega); rw [hF.out] at cc9; go_simp; exact postPlain.mk_ (Below.refl _ _))
            rotate_left
            · first | exact wanted_none rfl | exact wanted_some rfl rfl rfl rfl
            try simp only [Act.put, List.setIfInBounds_toArray, List.set_cons_zero, List.set_cons_succ]
          repeat (first
            | ((with_reducible refine mem_pure0 ?_ ?_ ?_)
               · exact rfl
               · exact rfl
               intro K hK
               apply Exists.intro
               refine ⟨fun w3 hw3 => ?_, ?_⟩
               · have hcs := hw3
                 simp only [CellsL, List.mem_cons, forall_eq_or_imp, List.not_mem_nil, false_implies, implies_true, and_true] at hcs
                 clear hw3
                 go_simp
                 first | done | exact ⟨rfl, rfl⟩ | rfl
               refine hK _ ?_
               clear hK K
               try simp only [Act.put, List.setIfInBounds_toArray, List.set_cons_zero, List.set_cons_succ])
            | ((with_reducible refine mem_skip ?_ ?_ ?_)
               · exact rfl
               · exact wanted_not rfl rfl rfl rfl
               simp only [Act.put, List.setIfInBounds_toArray, List.set_cons_zero, List.set_cons_succ])
            | ((with_reducible refine mem_pure ?_ ?_ ?_)
               · exact rfl
               · exact wanted_some rfl rfl rfl rfl
               intro K hK
               apply Exists.intro
               refine ⟨fun w3 hw3 => ?_, ?_⟩
               · have hcs := hw3
                 simp only [CellsL, List.mem_cons, forall_eq_or_imp, List.not_mem_nil, false_implies, implies_true, and_true] at hcs
                 clear hw3
                 go_simp
                 first | done | exact ⟨rfl, rfl⟩ | rfl
               refine hK _ ?_
               clear hK K
               try simp only [Act.put, List.setIfInBounds_toArray, List.set_cons_zero, List.set_cons_succ]))
          refine mem_so 101 L0 wt.heap.size g1 N c1 P1 O (max D F) undef (by rfl) (by rfl) (by rfl) (by rfl) (by decide) (by rfl) (fun w3 hw3 hc3 hh => ?_) ?_
          · obtain ⟨cc9, ff9⟩ := hh.cellAt (k := O) hOw
            rw [hw1.out] at cc9
            go_simp
            first | done | exact ⟨rfl, rfl⟩ | rfl
          try simp only [Act.put, List.setIfInBounds_toArray, List.set_cons_zero, List.set_cons_succ]
          repeat (first
            | ((with_reducible refine mem_pure0 ?_ ?_ ?_)
               · exact rfl
               · exact rfl
               intro K hK
               apply Exists.intro
               refine ⟨fun w3 hw3 => ?_, ?_⟩
               · have hcs := hw3
                 simp only [CellsL, List.mem_cons, forall_eq_or_imp, List.not_mem_nil, false_implies, implies_true, and_true] at hcs
                 clear hw3
                 go_simp
                 first | done | exact ⟨rfl, rfl⟩ | rfl
               refine hK _ ?_
               clear hK K
               try simp only [Act.put, List.setIfInBounds_toArray, List.set_cons_zero, List.set_cons_succ])
            | ((with_reducible refine mem_skip ?_ ?_ ?_)
               · exact rfl
               · exact wanted_not rfl rfl rfl rfl
               simp only [Act.put, List.setIfInBounds_toArray, List.set_cons_zero, List.set_cons_succ])
            | ((with_reducible refine mem_pure ?_ ?_ ?_)
               · exact rfl
               · exact wanted_some rfl rfl rfl rfl
               intro K hK
               apply Exists.intro
               refine ⟨fun w3 hw3 => ?_, ?_⟩
               · have hcs := hw3
                 simp only [CellsL, List.mem_cons, forall_eq_or_imp, List.not_mem_nil, false_implies, implies_true, and_true] at hcs
                 clear hw3
                 go_simp
                 first | done | exact ⟨rfl, rfl⟩ | rfl
               refine hK _ ?_
               clear hK K
               try simp only [Act.put, List.setIfInBounds_toArray, List.set_cons_zero, List.set_cons_succ]))
          refine wpSep_end ?_
          intro wy hwy hcy hfin hap
          have r1 : Own wy L0 wt.heap.size (Value.slice (some ⟨g1, 0, none⟩) N c1) N (P1.set O (max D F)) := hfin.1.1
          have r2 := o52.alt hwy (fun q hq hc => by rw [own_at hq] at hc; rcases hc with h | h <;> first | omega | exact nb2 h)
          have hby := b5.trans (hwy.below_ (B := w.heap.size + 1) (by omega) (fun i hi hc => by rcases hc with h | h <;> first | omega | (have h' : i = g1 := h; omega)))
          have e0y := hwy.cell_ e0 (fun hc => by rcases hc with h | h <;> first | exact nb1 h | (have h' : v5.heap.size ≤ wr.heap.size := h; omega))
          obtain ⟨cy2, fy2⟩ := r2.cellAt (k := O) hOw
          rw [hw2.out] at cy2
          have hs2 := r2.stored O (max DD FF)
          have t1 := r1.grown hs2.2 (.inr (by simp [Value.ownBlock]; exact hgne))
          have t2 := hs2.1
          have hbz := hby.setCell (p := ⟨g2, O, none⟩) (by show w.heap.size + 1 ≤ g2; omega) (.int .i64 (max DD FF))
          have e0z : (wy.setCell ⟨g2, O, none⟩ (.int .i64 (max DD FF))).cell? ⟨wr.heap.size, 0, none⟩ = some (.int .i64 1) := by rw [World.cell?_setCell_other _ _ _ _ (by first | (simp; done) | (simp; omega))]; exact e0y
          have hzy := hwy.size
          clear hfin hap hcy hwy r1 r2 hby e0y e0 e1 e2 o51 o52 x5 b5 cD2 fD2 cO2 fO2 cF2 fF2
          obtain ⟨ca1, fa1⟩ := t1.cellAt (k := O) hOw
          rw [gi_same (by rw [hlP1]; exact hOw)] at ca1
          have hs3 := t1.stored O (max D F + 1)
          have u1 := hs3.1
          have u2 := t2.grown hs3.2 (.inr (by simp [Value.ownBlock]; exact fun h => hgne h.symm))
          have hbu := hbz.setCell (p := ⟨g1, O, none⟩) (by show w.heap.size + 1 ≤ g1; omega) (.int .i64 (max D F + 1))
          have e0u : ((wy.setCell ⟨g2, O, none⟩ (.int .i64 (max DD FF))).setCell ⟨g1, O, none⟩ (.int .i64 (max D F + 1))).cell? ⟨wr.heap.size, 0, none⟩ = some (.int .i64 1) := by rw [World.cell?_setCell_other _ _ _ _ (by first | (simp; done) | (simp; omega))]; exact e0z
          obtain ⟨ca2, fa2⟩ := u2.cellAt (k := O) hOw
          rw [gi_same (by rw [hlP2]; exact hOw)] at ca2
          rw [List.set_set] at u1
          rw [HS1.out] at u1
          clear t1 t2 hbz hs3 hs2 e0z
          go_wp2_with fail
          refine wp_region_mem0 (9) [(⟨g2, O, none⟩, .int .i64 (max DD FF)), (⟨wr.heap.size, 0, none⟩, .int .i64 1)] [(7, [], [])] [] [(7, Res.plain (.int .i64 1))] (by kernel_rfl) (by kernel_rfl) (by kernel_rfl) (by simp only [CellsL, List.mem_cons, forall_eq_or_imp, List.not_mem_nil, false_implies, implies_true, and_true]; repeat (any_goals (apply And.intro)); all_goals (first | assumption | go_simp)) ?_
          simp only [List.take_succ_cons, List.take_zero, List.drop_succ_cons, List.drop_zero, List.take_nil, List.drop_nil, List.take, List.drop]
          repeat (first
            | ((with_reducible refine mem_pure0 ?_ ?_ ?_)
               · exact rfl
               · exact rfl
               intro K hK
               apply Exists.intro
               refine ⟨fun w3 hw3 => ?_, ?_⟩
               · have hcs := hw3
                 simp only [CellsL, List.mem_cons, forall_eq_or_imp, List.not_mem_nil, false_implies, implies_true, and_true] at hcs
                 clear hw3
                 go_simp
                 first | done | exact ⟨rfl, rfl⟩ | rfl
               refine hK _ ?_
               clear hK K
               try simp only [Act.put, List.setIfInBounds_toArray, List.set_cons_zero, List.set_cons_succ])
            | ((with_reducible refine mem_skip ?_ ?_ ?_)
               · exact rfl
               · exact wanted_not rfl rfl rfl rfl
               simp only [Act.put, List.setIfInBounds_toArray, List.set_cons_zero, List.set_cons_succ])
            | ((with_reducible refine mem_pure ?_ ?_ ?_)
               · exact rfl
               · exact wanted_some rfl rfl rfl rfl
               intro K hK
               apply Exists.intro
               refine ⟨fun w3 hw3 => ?_, ?_⟩
               · have hcs := hw3
                 simp only [CellsL, List.mem_cons, forall_eq_or_imp, List.not_mem_nil, false_implies, implies_true, and_true] at hcs
                 clear hw3
                 go_simp
                 first | done | exact ⟨rfl, rfl⟩ | rfl
               refine hK _ ?_
               clear hK K
               try simp only [Act.put, List.setIfInBounds_toArray, List.set_cons_zero, List.set_cons_succ]))
          focus
            (with_reducible refine mem_plain (.int .i64 1) ?_ ?_ ?_ ?_ (hw := ?_))
            · exact rfl
            · exact rfl
            · intro w3 hw3 hc3 hp3
              have hcs := hc3
              simp only [CellsL, List.mem_cons, forall_eq_or_imp, List.not_mem_nil, false_implies, implies_true, and_true] at hcs
              (go_simp; refine (bit_any true _).mono ?_; rintro e w4 ⟨rfl, rfl⟩; exact retPost.mk_ (postPlain.mk_ (Below.refl _ _)))
            rotate_left
            · first | exact wanted_none rfl | exact wanted_some rfl rfl rfl rfl
            try simp only [Act.put, List.setIfInBounds_toArray, List.set_cons_zero, List.set_cons_succ]
          repeat (first
            | ((with_reducible refine mem_pure0 ?_ ?_ ?_)
               · exact rfl
               · exact rfl
               intro K hK
               apply Exists.intro
               refine ⟨fun w3 hw3 => ?_, ?_⟩
               · have hcs := hw3
                 simp only [CellsL, List.mem_cons, forall_eq_or_imp, List.not_mem_nil, false_implies, implies_true, and_true] at hcs
                 clear hw3
                 go_simp
                 first | done | exact ⟨rfl, rfl⟩ | rfl
               refine hK _ ?_
               clear hK K
               try simp only [Act.put, List.setIfInBounds_toArray, List.set_cons_zero, List.set_cons_succ])
            | ((with_reducible refine mem_skip ?_ ?_ ?_)
               · exact rfl
               · exact wanted_not rfl rfl rfl rfl
               simp only [Act.put, List.setIfInBounds_toArray, List.set_cons_zero, List.set_cons_succ])
            | ((with_reducible refine mem_pure ?_ ?_ ?_)
               · exact rfl
               · exact wanted_some rfl rfl rfl rfl
               intro K hK
               apply Exists.intro
               refine ⟨fun w3 hw3 => ?_, ?_⟩
               · have hcs := hw3
                 simp only [CellsL, List.mem_cons, forall_eq_or_imp, List.not_mem_nil, false_implies, implies_true, and_true] at hcs
                 clear hw3
                 go_simp
                 first | done | exact ⟨rfl, rfl⟩ | rfl
               refine hK _ ?_
               clear hK K
               try simp only [Act.put, List.setIfInBounds_toArray, List.set_cons_zero, List.set_cons_succ]))
          refine wpSep_end ?_
          intro wz hwz hcz hfin hap
          have hbzz := alt_below hwz
          have u1z := u1.below hbzz (.inl (Nat.le_refl _))
          have u2z := u2.below hbzz (.inl (Nat.le_refl _))
          obtain ⟨cz2, fz2⟩ := u2z.cellAt (k := O) hOw
          rw [gi_same (by rw [hlP2]; exact hOw)] at cz2
          have hs4 := u2z.stored O (max DD FF + 1)
          have y2 := hs4.1
          rw [List.set_set] at y2
          rw [HS2.out] at y2
          have y1 := u1z.grown hs4.2 (.inr (by simp [Value.ownBlock]; exact hgne))
          have hszu : w.heap.size + 1 ≤ ((wy.setCell ⟨g2, O, none⟩ (.int .i64 (max DD FF))).setCell ⟨g1, O, none⟩ (.int .i64 (max D F + 1))).heap.size := Nat.le_trans (by omega) hbu.size
          have hbe := (hbu.trans (hbzz.mono hszu)).setCell (p := ⟨g2, O, none⟩) (by show w.heap.size + 1 ≤ g2; omega) (.int .i64 (max DD FF + 1))
          clear hfin hap hcz hwz u1 u2 u1z u2z hs4 hbu hbzz ca1 fa1 ca2 fa2 e0u
          go_wp2
          go_roundw
          case rel => exact ⟨k + 1, by omega, by go_num, by rw [hE1.out]; exact y1, by rw [hE2.out]; exact y2, hbe⟩
          case measure => simp [intOf]; omega
        | not_ h1 h2 h3 h4 =>
          have KD : gk = 2 ∧ 0 ≤ ga ∧ ga < (O : Int) := ⟨by assumption, by assumption, by assumption⟩
          obtain ⟨rfl, hga1, hga2⟩ := KD
          obtain ⟨a, rfl⟩ : ∃ a : Nat, ga = a := ⟨ga.toNat, by omega⟩
          have ha : a < O := by omega
          clear h1 h2 h3 h4
          have hD : Hid (gi P1 a = gi D1 a) := hp1 a ha
          have hD2 : Hid (gi P2 a = gi D2 a) := hp2 a ha
          have bD := hbd1 a
          have bD2 := hbd2 a
          have hv1 : Hid (dv false ⟨2, (a : Int), gb⟩ D1 = gi D1 a + 1) := Lib.hid (by rw [dv_one rfl]; simp)
          have hv2 : Hid (dv true ⟨2, (a : Int), gb⟩ D2 = gi D2 a) := Lib.hid (by rw [dv_one rfl]; simp)
          rw [hv1.out] at HS1
          rw [hv2.out] at HS2
          clear hp1 hp2 hbd1 hbd2 hv1 hv2
          generalize gi D1 a = D at *
          generalize gi D2 a = DD at *
          have hwM1 : IntKind.i64.wrap (D + 1) = D + 1 := by rw [IntKind.wrap_i64] <;> omega
          have hwM2 : IntKind.i64.wrap (DD) = DD := by rw [IntKind.wrap_i64] <;> omega
          obtain ⟨cD2, fD2⟩ := o52.cellAt (k := a) (by omega)
          rw [hD2.out] at cD2
          obtain ⟨cO2, fO2⟩ := o52.cellAt (k := O) hOw
          rw [hw2.out] at cO2
          have i1 : (a : Int) < (N : Int) := by omega
          have i4 : a < N := by omega
          have i3 : (O : Int) < (N : Int) := by omega
          have nb1 : ¬ wr.heap.size = g1 := by omega
          have nb2 : ¬ g2 = g1 := fun h => hgne h.symm
          have hg1l : g1 < v5.heap.size := by omega
          go_wp2_with fail
          refine wp_region_mem (16) ((fun i => i = g1)) [(⟨wr.heap.size, 1, none⟩, .int .i64 (a : Int)), (⟨g2, a, none⟩, .int .i64 DD), (⟨g2, O, none⟩, .int .i64 0)] [(8, [101], []), (15, [101], [101])] [101] [15] [(101, Res.orow L0 wt.heap.size g1 N c1 P1), (8, Res.plain (.int .i64 D)), (15, Res.orow L0 wt.heap.size g1 N c1 (P1.set O (D)))] ((upd (fun _ => undef) 101 undef)) (by kernel_rfl) (by kernel_rfl) (by kernel_rfl) (by simp only [CellsL, List.mem_cons, forall_eq_or_imp, List.not_mem_nil, false_implies, implies_true, and_true]; repeat (any_goals (apply And.intro)); all_goals (first | assumption | go_simp)) (fun q9 hq9 => by simp only [List.mem_cons, List.not_mem_nil, or_false] at hq9; rcases hq9 with rfl | rfl | rfl <;> intro hc <;> first | exact nb1 hc | exact nb2 hc) (⟨⟨o51, fun b9 hb9 => ⟨.inr hb9, by have hb8 : b9 = g1 := hb9; rw [hb8]; exact hg1l⟩⟩, trivial⟩) ((fun d hd d' hd' hn => absurd ((List.mem_singleton.1 hd).trans (List.mem_singleton.1 hd').symm) hn)) ?_
          simp only [List.take_succ_cons, List.take_zero, List.drop_succ_cons, List.drop_zero, List.take_nil, List.drop_nil, List.take, List.drop]
          repeat (first
            | ((with_reducible refine mem_pure0 ?_ ?_ ?_)
               · exact rfl
               · exact rfl
               intro K hK
               apply Exists.intro
               refine ⟨fun w3 hw3 => ?_, ?_⟩
               · have hcs := hw3
                 simp only [CellsL, List.mem_cons, forall_eq_or_imp, List.not_mem_nil, false_implies, implies_true, and_true] at hcs
                 clear hw3
                 go_simp
                 first | done | exact ⟨rfl, rfl⟩ | rfl
               refine hK _ ?_
               clear hK K
               try simp only [Act.put, List.setIfInBounds_toArray, List.set_cons_zero, List.set_cons_succ])
            | ((with_reducible refine mem_skip ?_ ?_ ?_)
               · exact rfl
               · exact wanted_not rfl rfl rfl rfl
               simp only [Act.put, List.setIfInBounds_toArray, List.set_cons_zero, List.set_cons_succ])
            | ((with_reducible refine mem_pure ?_ ?_ ?_)
               · exact rfl
               · exact wanted_some rfl rfl rfl rfl
               intro K hK
               apply Exists.intro
               refine ⟨fun w3 hw3 => ?_, ?_⟩
               · have hcs := hw3
                 simp only [CellsL, List.mem_cons, forall_eq_or_imp, List.not_mem_nil, false_implies, implies_true, and_true] at hcs
                 clear hw3
                 go_simp
                 first | done | exact ⟨rfl, rfl⟩ | rfl
               refine hK _ ?_
               clear hK K
               try simp only [Act.put, List.setIfInBounds_toArray, List.set_cons_zero, List.set_cons_succ]))
          focus
            (with_reducible refine mem_plain (.int .i64 D) ?_ ?_ ?_ ?_ (hw := ?_))
            · exact rfl
            · exact rfl
            · intro w3 hw3 hc3 hp3
              have hcs := hc3
              simp only [CellsL, List.mem_cons, forall_eq_or_imp, List.not_mem_nil, false_implies, implies_true, and_true] at hcs
              (have hh : Own w3 L0 wt.heap.size (Value.slice (some ⟨g1, 0, none⟩) N c1) N P1 := hp3.1.1.1; obtain ⟨cc9, _⟩ := hh.cellAt (k := a) (by omega); rw [hD.out] at cc9; go_simp; exact postPlain.mk_ (Below.refl _ _))
            rotate_left
            · first | exact wanted_none rfl | exact wanted_some rfl rfl rfl rfl
            try simp only [Act.put, List.setIfInBounds_toArray, List.set_cons_zero, List.set_cons_succ]
          repeat (first
            | ((with_reducible refine mem_pure0 ?_ ?_ ?_)
               · exact rfl
               · exact rfl
               intro K hK
               apply Exists.intro
               refine ⟨fun w3 hw3 => ?_, ?_⟩
               · have hcs := hw3
                 simp only [CellsL, List.mem_cons, forall_eq_or_imp, List.not_mem_nil, false_implies, implies_true, and_true] at hcs
                 clear hw3
                 go_simp
                 first | done | exact ⟨rfl, rfl⟩ | rfl
               refine hK _ ?_
               clear hK K
               try simp only [Act.put, List.setIfInBounds_toArray, List.set_cons_zero, List.set_cons_succ])
            | ((with_reducible refine mem_skip ?_ ?_ ?_)
               · exact rfl
               · exact wanted_not rfl rfl rfl rfl
               simp only [Act.put, List.setIfInBounds_toArray, List.set_cons_zero, List.set_cons_succ])
            | ((with_reducible refine mem_pure ?_ ?_ ?_)
               · exact rfl
               · exact wanted_some rfl rfl rfl rfl
               intro K hK
               apply Exists.intro
               refine ⟨fun w3 hw3 => ?_, ?_⟩
               · have hcs := hw3
                 simp only [CellsL, List.mem_cons, forall_eq_or_imp, List.not_mem_nil, false_implies, implies_true, and_true] at hcs
                 clear hw3
                 go_simp
                 first | done | exact ⟨rfl, rfl⟩ | rfl
               refine hK _ ?_
               clear hK K
               try simp only [Act.put, List.setIfInBounds_toArray, List.set_cons_zero, List.set_cons_succ]))
          refine mem_so 101 L0 wt.heap.size g1 N c1 P1 O (D) undef (by rfl) (by rfl) (by rfl) (by rfl) (by decide) (by rfl) (fun w3 hw3 hc3 hh => ?_) ?_
          · obtain ⟨cc9, ff9⟩ := hh.cellAt (k := O) hOw
            rw [hw1.out] at cc9
            go_simp
            first | done | exact ⟨rfl, rfl⟩ | rfl
          try simp only [Act.put, List.setIfInBounds_toArray, List.set_cons_zero, List.set_cons_succ]
          repeat (first
            | ((with_reducible refine mem_pure0 ?_ ?_ ?_)
               · exact rfl
               · exact rfl
               intro K hK
               apply Exists.intro
               refine ⟨fun w3 hw3 => ?_, ?_⟩
               · have hcs := hw3
                 simp only [CellsL, List.mem_cons, forall_eq_or_imp, List.not_mem_nil, false_implies, implies_true, and_true] at hcs
                 clear hw3
                 go_simp
                 first | done | exact ⟨rfl, rfl⟩ | rfl
               refine hK _ ?_
               clear hK K
               try simp only [Act.put, List.setIfInBounds_toArray, List.set_cons_zero, List.set_cons_succ])
            | ((with_reducible refine mem_skip ?_ ?_ ?_)
               · exact rfl
               · exact wanted_not rfl rfl rfl rfl
               simp only [Act.put, List.setIfInBounds_toArray, List.set_cons_zero, List.set_cons_succ])
            | ((with_reducible refine mem_pure ?_ ?_ ?_)
               · exact rfl
               · exact wanted_some rfl rfl rfl rfl
               intro K hK
               apply Exists.intro
               refine ⟨fun w3 hw3 => ?_, ?_⟩
               · have hcs := hw3
                 simp only [CellsL, List.mem_cons, forall_eq_or_imp, List.not_mem_nil, false_implies, implies_true, and_true] at hcs
                 clear hw3
                 go_simp
                 first | done | exact ⟨rfl, rfl⟩ | rfl
               refine hK _ ?_
               clear hK K
               try simp only [Act.put, List.setIfInBounds_toArray, List.set_cons_zero, List.set_cons_succ]))
          refine wpSep_end ?_
          intro wy hwy hcy hfin hap
          have r1 : Own wy L0 wt.heap.size (Value.slice (some ⟨g1, 0, none⟩) N c1) N (P1.set O (D)) := hfin.1.1
          have r2 := o52.alt hwy (fun q hq hc => by rw [own_at hq] at hc; rcases hc with h | h <;> first | omega | exact nb2 h)
          have hby := b5.trans (hwy.below_ (B := w.heap.size + 1) (by omega) (fun i hi hc => by rcases hc with h | h <;> first | omega | (have h' : i = g1 := h; omega)))
          have e0y := hwy.cell_ e0 (fun hc => by rcases hc with h | h <;> first | exact nb1 h | (have h' : v5.heap.size ≤ wr.heap.size := h; omega))
          obtain ⟨cy2, fy2⟩ := r2.cellAt (k := O) hOw
          rw [hw2.out] at cy2
          have hs2 := r2.stored O (DD)
          have t1 := r1.grown hs2.2 (.inr (by simp [Value.ownBlock]; exact hgne))
          have t2 := hs2.1
          have hbz := hby.setCell (p := ⟨g2, O, none⟩) (by show w.heap.size + 1 ≤ g2; omega) (.int .i64 (DD))
          have e0z : (wy.setCell ⟨g2, O, none⟩ (.int .i64 (DD))).cell? ⟨wr.heap.size, 0, none⟩ = some (.int .i64 2) := by rw [World.cell?_setCell_other _ _ _ _ (by first | (simp; done) | (simp; omega))]; exact e0y
          have hzy := hwy.size
          clear hfin hap hcy hwy r1 r2 hby e0y e0 e1 e2 o51 o52 x5 b5 cD2 fD2 cO2 fO2
          obtain ⟨ca1, fa1⟩ := t1.cellAt (k := O) hOw
          rw [gi_same (by rw [hlP1]; exact hOw)] at ca1
          have hs3 := t1.stored O (D + 1)
          have u1 := hs3.1
          have u2 := t2.grown hs3.2 (.inr (by simp [Value.ownBlock]; exact fun h => hgne h.symm))
          have hbu := hbz.setCell (p := ⟨g1, O, none⟩) (by show w.heap.size + 1 ≤ g1; omega) (.int .i64 (D + 1))
          have e0u : ((wy.setCell ⟨g2, O, none⟩ (.int .i64 (DD))).setCell ⟨g1, O, none⟩ (.int .i64 (D + 1))).cell? ⟨wr.heap.size, 0, none⟩ = some (.int .i64 2) := by rw [World.cell?_setCell_other _ _ _ _ (by first | (simp; done) | (simp; omega))]; exact e0z
          obtain ⟨ca2, fa2⟩ := u2.cellAt (k := O) hOw
          rw [gi_same (by rw [hlP2]; exact hOw)] at ca2
          rw [List.set_set] at u1
          rw [HS1.out] at u1
          clear t1 t2 hbz hs3 hs2 e0z
          go_wp2_with fail
          refine wp_region_mem0 (9) [(⟨g2, O, none⟩, .int .i64 (DD)), (⟨wr.heap.size, 0, none⟩, .int .i64 2)] [(7, [], [])] [] [(7, Res.plain (.int .i64 0))] (by kernel_rfl) (by kernel_rfl) (by kernel_rfl) (by simp only [CellsL, List.mem_cons, forall_eq_or_imp, List.not_mem_nil, false_implies, implies_true, and_true]; repeat (any_goals (apply And.intro)); all_goals (first | assumption | go_simp)) ?_
          simp only [List.take_succ_cons, List.take_zero, List.drop_succ_cons, List.drop_zero, List.take_nil, List.drop_nil, List.take, List.drop]
          repeat (first
            | ((with_reducible refine mem_pure0 ?_ ?_ ?_)
               · exact rfl
               · exact rfl
               intro K hK
               apply Exists.intro
               refine ⟨fun w3 hw3 => ?_, ?_⟩
               · have hcs := hw3
                 simp only [CellsL, List.mem_cons, forall_eq_or_imp, List.not_mem_nil, false_implies, implies_true, and_true] at hcs
                 clear hw3
                 go_simp
                 first | done | exact ⟨rfl, rfl⟩ | rfl
               refine hK _ ?_
               clear hK K
               try simp only [Act.put, List.setIfInBounds_toArray, List.set_cons_zero, List.set_cons_succ])
            | ((with_reducible refine mem_skip ?_ ?_ ?_)
               · exact rfl
               · exact wanted_not rfl rfl rfl rfl
               simp only [Act.put, List.setIfInBounds_toArray, List.set_cons_zero, List.set_cons_succ])
            | ((with_reducible refine mem_pure ?_ ?_ ?_)
               · exact rfl
               · exact wanted_some rfl rfl rfl rfl
               intro K hK
               apply Exists.intro
               refine ⟨fun w3 hw3 => ?_, ?_⟩
               · have hcs := hw3
                 simp only [CellsL, List.mem_cons, forall_eq_or_imp, List.not_mem_nil, false_implies, implies_true, and_true] at hcs
                 clear hw3
                 go_simp
                 first | done | exact ⟨rfl, rfl⟩ | rfl
               refine hK _ ?_
               clear hK K
               try simp only [Act.put, List.setIfInBounds_toArray, List.set_cons_zero, List.set_cons_succ]))
          focus
            (with_reducible refine mem_plain (.int .i64 0) ?_ ?_ ?_ ?_ (hw := ?_))
            · exact rfl
            · exact rfl
            · intro w3 hw3 hc3 hp3
              have hcs := hc3
              simp only [CellsL, List.mem_cons, forall_eq_or_imp, List.not_mem_nil, false_implies, implies_true, and_true] at hcs
              (go_simp; refine (bit_any false _).mono ?_; rintro e w4 ⟨rfl, rfl⟩; exact retPost.mk_ (postPlain.mk_ (Below.refl _ _)))
            rotate_left
            · first | exact wanted_none rfl | exact wanted_some rfl rfl rfl rfl
            try simp only [Act.put, List.setIfInBounds_toArray, List.set_cons_zero, List.set_cons_succ]
          repeat (first
            | ((with_reducible refine mem_pure0 ?_ ?_ ?_)
               · exact rfl
               · exact rfl
               intro K hK
               apply Exists.intro
               refine ⟨fun w3 hw3 => ?_, ?_⟩
               · have hcs := hw3
                 simp only [CellsL, List.mem_cons, forall_eq_or_imp, List.not_mem_nil, false_implies, implies_true, and_true] at hcs
                 clear hw3
                 go_simp
                 first | done | exact ⟨rfl, rfl⟩ | rfl
               refine hK _ ?_
               clear hK K
               try simp only [Act.put, List.setIfInBounds_toArray, List.set_cons_zero, List.set_cons_succ])
            | ((with_reducible refine mem_skip ?_ ?_ ?_)
               · exact rfl
               · exact wanted_not rfl rfl rfl rfl
               simp only [Act.put, List.setIfInBounds_toArray, List.set_cons_zero, List.set_cons_succ])
            | ((with_reducible refine mem_pure ?_ ?_ ?_)
               · exact rfl
               · exact wanted_some rfl rfl rfl rfl
               intro K hK
               apply Exists.intro
               refine ⟨fun w3 hw3 => ?_, ?_⟩
               · have hcs := hw3
                 simp only [CellsL, List.mem_cons, forall_eq_or_imp, List.not_mem_nil, false_implies, implies_true, and_true] at hcs
                 clear hw3
                 go_simp
                 first | done | exact ⟨rfl, rfl⟩ | rfl
               refine hK _ ?_
               clear hK K
               try simp only [Act.put, List.setIfInBounds_toArray, List.set_cons_zero, List.set_cons_succ]))
          refine wpSep_end ?_
          intro wz hwz hcz hfin hap
          have hbzz := alt_below hwz
          have u1z := u1.below hbzz (.inl (Nat.le_refl _))
          have u2z := u2.below hbzz (.inl (Nat.le_refl _))
          obtain ⟨cz2, fz2⟩ := u2z.cellAt (k := O) hOw
          rw [gi_same (by rw [hlP2]; exact hOw)] at cz2
          have hs4 := u2z.stored O (DD)
          have y2 := hs4.1
          rw [List.set_set] at y2
          rw [HS2.out] at y2
          have y1 := u1z.grown hs4.2 (.inr (by simp [Value.ownBlock]; exact hgne))
          have hszu : w.heap.size + 1 ≤ ((wy.setCell ⟨g2, O, none⟩ (.int .i64 (DD))).setCell ⟨g1, O, none⟩ (.int .i64 (D + 1))).heap.size := Nat.le_trans (by omega) hbu.size
          have hbe := (hbu.trans (hbzz.mono hszu)).setCell (p := ⟨g2, O, none⟩) (by show w.heap.size + 1 ≤ g2; omega) (.int .i64 (DD))
          clear hfin hap hcz hwz u1 u2 u1z u2z hs4 hbu hbzz ca1 fa1 ca2 fa2 e0u
          go_wp2
          go_roundw
          case rel => exact ⟨k + 1, by omega, by go_num, by rw [hE1.out]; exact y1, by rw [hE2.out]; exact y2, hbe⟩
          case measure => simp [intOf]; omega
        | one_ h1 h2 h3 =>
          have KD : gk = 3 := by assumption
          obtain rfl := KD
          clear h1 h2 h3
          have hv1 : Hid (dv false ⟨3, ga, gb⟩ D1 = 1) := Lib.hid (by rw [dv_non rfl]; rfl)
          have hv2 : Hid (dv true ⟨3, ga, gb⟩ D2 = 0) := Lib.hid (by rw [dv_non rfl]; rfl)
          rw [hv1.out] at HS1
          rw [hv2.out] at HS2
          clear hp1 hp2 hbd1 hbd2 hv1 hv2
          have hwM1 : IntKind.i64.wrap (1) = 1 := by rw [IntKind.wrap_i64] <;> omega
          have hwM2 : IntKind.i64.wrap (0) = 0 := by rw [IntKind.wrap_i64] <;> omega
          have i3 : (O : Int) < (N : Int) := by omega
          have nb1 : ¬ wr.heap.size = g1 := by omega
          have nb2 : ¬ g2 = g1 := fun h => hgne h.symm
          have t1 := o51
          have t2 := o52
          have hbz := b5
          have e0z := e0
          have hzy : v5.heap.size ≤ v5.heap.size := Nat.le_refl _
          clear o51 o52 b5 e1 e2 x5
          obtain ⟨ca1, fa1⟩ := t1.cellAt (k := O) hOw
          rw [hw1.out] at ca1
          have hs3 := t1.stored O (1)
          have u1 := hs3.1
          have u2 := t2.grown hs3.2 (.inr (by simp [Value.ownBlock]; exact fun h => hgne h.symm))
          have hbu := hbz.setCell (p := ⟨g1, O, none⟩) (by show w.heap.size + 1 ≤ g1; omega) (.int .i64 (1))
          have e0u : (v5.setCell ⟨g1, O, none⟩ (.int .i64 (1))).cell? ⟨wr.heap.size, 0, none⟩ = some (.int .i64 3) := by rw [World.cell?_setCell_other _ _ _ _ (by first | (simp; done) | (simp; omega))]; exact e0z
          obtain ⟨ca2, fa2⟩ := u2.cellAt (k := O) hOw
          rw [hw2.out] at ca2
          rw [HS1.out] at u1
          clear t1 t2 hbz hs3
          go_wp2_with fail
          refine wp_region_mem0 (9) [(⟨g2, O, none⟩, .int .i64 (0)), (⟨wr.heap.size, 0, none⟩, .int .i64 3)] [(7, [], [])] [] [(7, Res.plain (.int .i64 0))] (by kernel_rfl) (by kernel_rfl) (by kernel_rfl) (by simp only [CellsL, List.mem_cons, forall_eq_or_imp, List.not_mem_nil, false_implies, implies_true, and_true]; repeat (any_goals (apply And.intro)); all_goals (first | assumption | go_simp)) ?_
          simp only [List.take_succ_cons, List.take_zero, List.drop_succ_cons, List.drop_zero, List.take_nil, List.drop_nil, List.take, List.drop]
          repeat (first
            | ((with_reducible refine mem_pure0 ?_ ?_ ?_)
               · exact rfl
               · exact rfl
               intro K hK
               apply Exists.intro
               refine ⟨fun w3 hw3 => ?_, ?_⟩
               · have hcs := hw3
                 simp only [CellsL, List.mem_cons, forall_eq_or_imp, List.not_mem_nil, false_implies, implies_true, and_true] at hcs
                 clear hw3
                 go_simp
                 first | done | exact ⟨rfl, rfl⟩ | rfl
               refine hK _ ?_
               clear hK K
               try simp only [Act.put, List.setIfInBounds_toArray, List.set_cons_zero, List.set_cons_succ])
            | ((with_reducible refine mem_skip ?_ ?_ ?_)
               · exact rfl
               · exact wanted_not rfl rfl rfl rfl
               simp only [Act.put, List.setIfInBounds_toArray, List.set_cons_zero, List.set_cons_succ])
            | ((with_reducible refine mem_pure ?_ ?_ ?_)
               · exact rfl
               · exact wanted_some rfl rfl rfl rfl
               intro K hK
               apply Exists.intro
               refine ⟨fun w3 hw3 => ?_, ?_⟩
               · have hcs := hw3
                 simp only [CellsL, List.mem_cons, forall_eq_or_imp, List.not_mem_nil, false_implies, implies_true, and_true] at hcs
                 clear hw3
                 go_simp
                 first | done | exact ⟨rfl, rfl⟩ | rfl
               refine hK _ ?_
               clear hK K
               try simp only [Act.put, List.setIfInBounds_toArray, List.set_cons_zero, List.set_cons_succ]))
          focus
            (with_reducible refine mem_plain (.int .i64 0) ?_ ?_ ?_ ?_ (hw := ?_))
            · exact rfl
            · exact rfl
            · intro w3 hw3 hc3 hp3
              have hcs := hc3
              simp only [CellsL, List.mem_cons, forall_eq_or_imp, List.not_mem_nil, false_implies, implies_true, and_true] at hcs
              (go_simp; refine (bit_any false _).mono ?_; rintro e w4 ⟨rfl, rfl⟩; exact retPost.mk_ (postPlain.mk_ (Below.refl _ _)))
            rotate_left
            · first | exact wanted_none rfl | exact wanted_some rfl rfl rfl rfl
            try simp only [Act.put, List.setIfInBounds_toArray, List.set_cons_zero, List.set_cons_succ]
          repeat (first
            | ((with_reducible refine mem_pure0 ?_ ?_ ?_)
               · exact rfl
               · exact rfl
               intro K hK
               apply Exists.intro
               refine ⟨fun w3 hw3 => ?_, ?_⟩
               · have hcs := hw3
                 simp only [CellsL, List.mem_cons, forall_eq_or_imp, List.not_mem_nil, false_implies, implies_true, and_true] at hcs
                 clear hw3
                 go_simp
                 first | done | exact ⟨rfl, rfl⟩ | rfl
               refine hK _ ?_
               clear hK K
               try simp only [Act.put, List.setIfInBounds_toArray, List.set_cons_zero, List.set_cons_succ])
            | ((with_reducible refine mem_skip ?_ ?_ ?_)
               · exact rfl
               · exact wanted_not rfl rfl rfl rfl
               simp only [Act.put, List.setIfInBounds_toArray, List.set_cons_zero, List.set_cons_succ])
            | ((with_reducible refine mem_pure ?_ ?_ ?_)
               · exact rfl
               · exact wanted_some rfl rfl rfl rfl
               intro K hK
               apply Exists.intro
               refine ⟨fun w3 hw3 => ?_, ?_⟩
               · have hcs := hw3
                 simp only [CellsL, List.mem_cons, forall_eq_or_imp, List.not_mem_nil, false_implies, implies_true, and_true] at hcs
                 clear hw3
                 go_simp
                 first | done | exact ⟨rfl, rfl⟩ | rfl
               refine hK _ ?_
               clear hK K
               try simp only [Act.put, List.setIfInBounds_toArray, List.set_cons_zero, List.set_cons_succ]))
          refine wpSep_end ?_
          intro wz hwz hcz hfin hap
          have hbzz := alt_below hwz
          have u1z := u1.below hbzz (.inl (Nat.le_refl _))
          have u2z := u2.below hbzz (.inl (Nat.le_refl _))
          obtain ⟨cz2, fz2⟩ := u2z.cellAt (k := O) hOw
          rw [hw2.out] at cz2
          have hs4 := u2z.stored O (0)
          have y2 := hs4.1
          rw [HS2.out] at y2
          have y1 := u1z.grown hs4.2 (.inr (by simp [Value.ownBlock]; exact hgne))
          have hszu : w.heap.size + 1 ≤ (v5.setCell ⟨g1, O, none⟩ (.int .i64 (1))).heap.size := Nat.le_trans (by omega) hbu.size
          have hbe := (hbu.trans (hbzz.mono hszu)).setCell (p := ⟨g2, O, none⟩) (by show w.heap.size + 1 ≤ g2; omega) (.int .i64 (0))
          clear hfin hap hcz hwz u1 u2 u1z u2z hs4 hbu hbzz ca1 fa1 ca2 fa2 e0u
          go_wp2
          go_roundw
          case rel => exact ⟨k + 1, by omega, by go_num, by rw [hE1.out]; exact y1, by rw [hE2.out]; exact y2, hbe⟩
          case measure => simp [intOf]; omega
      · obtain rfl : ng = k := Nat.le_antisymm (Nat.le_of_not_lt hlt) hk
        have hD1 : Hid (pd false gs X ng ng = dps false gs X ng) := Lib.hid (pd_end false gs X ng)
        have hD2 : Hid (pd true gs X ng ng = dps true gs X ng) := Lib.hid (pd_end true gs X ng)
        rw [hD1.out] at ho1
        rw [hD2.out] at ho2
        have HE1 : ∀ u, Hid (u = mxo (dps false gs X ng) os → ∀ v, v = mxo (dps true gs X ng) os → ∀ w', Below w.heap.size w w' → RetDp w x y gs os (.returned (.tuple #[.int .i64 u, .int .i64 v, .bool true])) w') := fun u => Lib.hid fun hu v hv w' hb => RetDp.yes H0.out HX.out hlg hu hv hb
        clear hD1 hD2 ez hgt
        generalize dps false gs X ng = D1 at *
        generalize dps true gs X ng = D2 at *
        have hq := hxr; obtain ⟨k0, k1, k2, k3⟩ := hq
        go_wp2
        clear k0 k1 k2 k3
        go_loopw [10, 11, 106] (fun u v i wx => ∃ k : Nat, k ≤ no ∧ i = .int .i64 k ∧ u = .int .i64 (mxo D1 (os.take k)) ∧ v = .int .i64 (mxo D2 (os.take k)) ∧ Below wr.heap.size wr wx) (fun _ _ i _ => no - (intOf i).toNat)
        case atStart => exact ⟨0, Nat.zero_le _, rfl, rfl, rfl, Below.refl _ _⟩
        case round =>
          obtain ⟨k, hk, rfl, rfl, rfl, hbx⟩ := hrel
          have hBx := hBr.trans (hbx.mono hBr.size)
          by_cases hlt : k < no
          · obtain ⟨kb, ob, rfl, hkb, d1⟩ := (hr.2.below hBx (Nat.le_refl _)).at_ hlt
            have hsn1 : Hid (mxo D1 (os.take (k + 1)) = max (mxo D1 (os.take k)) (gi D1 (gi os k).toNat)) := Lib.hid (mx_take (by omega))
            have hsn2 : Hid (mxo D2 (os.take (k + 1)) = max (mxo D2 (os.take k)) (gi D2 (gi os k).toNat)) := Lib.hid (mx_take (by omega))
            obtain ⟨o1, o2⟩ := HO k hlt
            generalize mxo D1 (os.take k) = U1 at *
            generalize mxo D2 (os.take k) = U2 at *
            generalize gi os k = Y at *
            obtain ⟨Z, rfl⟩ : ∃ Z : Nat, Y = Z := ⟨Y.toNat, by omega⟩
            have hZ : Z < N := by omega
            have p1 := ho1.below hbx (.inl (Nat.le_refl _))
            have p2 := ho2.below hbx (.inl (Nat.le_refl _))
            obtain ⟨g1, rfl, hl1, hl2, hl3⟩ := p1.some_ (by omega)
            obtain ⟨g2, rfl, hm1, hm2, hm3⟩ := p2.some_ (by omega)
            obtain ⟨cc1, ff1⟩ := p1.cellAt hZ
            obtain ⟨cc2, ff2⟩ := p2.cellAt hZ
            have e1 : Hid (gi D1 ((Z : Int)).toNat = gi D1 Z) := Lib.hid rfl
            have e2 : Hid (gi D2 ((Z : Int)).toNat = gi D2 Z) := Lib.hid rfl
            rw [e1.out] at hsn1
            rw [e2.out] at hsn2
            clear e1 e2 p1 p2 ff1 ff2
            generalize gi D1 Z = V1 at *
            generalize gi D2 Z = V2 at *
            go_wp2_with fail
            refine wp_region_mem0 (14) [(⟨g1, Z, none⟩, .int .i64 V1), (⟨g2, Z, none⟩, .int .i64 V2)] [] [] [] (by kernel_rfl) (by kernel_rfl) (by kernel_rfl) (by simp only [CellsL, List.mem_cons, forall_eq_or_imp, List.not_mem_nil, false_implies, implies_true, and_true]; repeat (any_goals (apply And.intro)); all_goals (first | assumption | go_simp)) ?_
            simp only [List.take_succ_cons, List.take_zero, List.drop_succ_cons, List.drop_zero, List.take_nil, List.drop_nil, List.take, List.drop]
            repeat (first
              | ((with_reducible refine mem_pure0 ?_ ?_ ?_)
                 · exact rfl
                 · exact rfl
                 intro K hK
                 apply Exists.intro
                 refine ⟨fun w3 hw3 => ?_, ?_⟩
                 · have hcs := hw3
                   simp only [CellsL, List.mem_cons, forall_eq_or_imp, List.not_mem_nil, false_implies, implies_true, and_true] at hcs
                   clear hw3
                   go_simp
                   first | done | exact ⟨rfl, rfl⟩ | rfl
                 refine hK _ ?_
                 clear hK K
                 try simp only [Act.put, List.setIfInBounds_toArray, List.set_cons_zero, List.set_cons_succ])
              | ((with_reducible refine mem_skip ?_ ?_ ?_)
                 · exact rfl
                 · exact wanted_not rfl rfl rfl rfl
                 simp only [Act.put, List.setIfInBounds_toArray, List.set_cons_zero, List.set_cons_succ])
              | ((with_reducible refine mem_pure ?_ ?_ ?_)
                 · exact rfl
                 · exact wanted_some rfl rfl rfl rfl
                 intro K hK
                 apply Exists.intro
                 refine ⟨fun w3 hw3 => ?_, ?_⟩
                 · have hcs := hw3
                   simp only [CellsL, List.mem_cons, forall_eq_or_imp, List.not_mem_nil, false_implies, implies_true, and_true] at hcs
                   clear hw3
                   go_simp
                   first | done | exact ⟨rfl, rfl⟩ | rfl
                 refine hK _ ?_
                 clear hK K
                 try simp only [Act.put, List.setIfInBounds_toArray, List.set_cons_zero, List.set_cons_succ]))
            refine wpSep_end ?_
            intro wz hwz hcz hfin hap
            have hbz := hbx.trans ((alt_below hwz).mono hbx.size)
            clear hfin hap hcz hwz hbx
            go_wp2
            go_roundw
            case rel => exact ⟨k + 1, by omega, by go_num, by rw [hsn1.out], by rw [hsn2.out], hbz⟩
            case measure => simp [intOf]; omega
          · obtain rfl : no = k := Nat.le_antisymm (Nat.le_of_not_lt hlt) hk
            have hT : Hid (os.take no = os) := Lib.hid (List.take_of_length_le (by omega))
            rw [hT.out]
            go_wp2
            go_ret3
            exact (HE1 _).out rfl _ rfl _ hBx

end Go.Proofs.Ytgenehiiakdadaa

namespace Go.Proofs.Ytgenehiiakdadaa
open Go.RowKit
set_option linter.unusedVariables false
set_option linter.unusedSimpArgs false
attribute [local go_sem] sepAt sepUpon pureAt pureUpon

theorem l1MostD_any (a b : Int) (w : World) : Calls Try.prog 38 #[.int .i64 a, .int .i64 b] w fun e w' => e = .returned (.int .i64 (max a b)) ∧ w = w' := by
  by_cases h : b < a
  · have hm : Hid (max a b = a) := Lib.hid (by omega)
    go_enter Try.func38, Try.ntmps38
    go_wp2
    go_ret
    exact ⟨by rw [hm.out]; rfl, rfl⟩
  · have hm : Hid (max a b = b) := Lib.hid (by omega)
    go_enter Try.func38, Try.ntmps38
    go_wp2
    go_ret
    exact ⟨by rw [hm.out]; rfl, rfl⟩
/-- The greatest depth of a gate's parts. -/
theorem dv_prt {b : Bool} {g : G3} {n : Int} {d : List Int} (h : GateIs g n) (hd : ∀ j, 0 ≤ gi d j) : dv b g d = mxo d (prt g) + (if b = true then (if g.k = 1 then 1 else 0) else 1) := by
  unfold dv prt mxo
  have h1 := hd g.a.toNat
  have h2 := hd g.b.toNat
  by_cases k1 : g.k = 0 ∨ g.k = 1
  · rw [if_pos k1, if_pos k1]; simp only [List.foldl_cons, List.foldl_nil]; congr 1; omega
  · rw [if_neg k1, if_neg k1]
    by_cases k2 : g.k = 2
    · rw [if_pos k2, if_pos k2]; simp only [List.foldl_cons, List.foldl_nil]; congr 1; omega
    · rw [if_neg k2, if_neg k2]; rfl
theorem prt_len {g : G3} : (prt g).length ≤ 2 := by unfold prt; split; simp; split <;> simp

set_option maxRecDepth 100000 in
set_option maxHeartbeats 3000000 in
theorem ciDepths_any (x y : Int) (Ag : Option Addr) (ng cg : Nat) (Ao : Option Addr) (no co : Nat) (gs : List G3) (B : Bool) (X : Nat) (w : World) (hr : RG w Ag ng gs) (hng : ng ≤ 300) (hx : 0 ≤ x ∧ x ≤ 20) (hy : 0 ≤ y ∧ y ≤ 20) (hX : Hid (x + y = (X : Int))) (hgt : ∀ k : Nat, k < ng → GateIs (gg gs k) ((X : Int) + k)) :
    Calls Try.prog 37 #[.agg #[.int .i64 x, .int .i64 y, .slice Ag ng cg, .slice Ao no co], .bool B] w (RetI w (dps B gs X ng)) := by
  obtain ⟨i0, hi, hz0, hz1, hz2⟩ := info_parts info_int
  have hB : Below w.heap.size w (w.alloc (.cells #[.int .i64 x, .int .i64 y, .slice Ag ng cg, .slice Ao no co] 27)) := (Below.refl _ _).alloc (Nat.le_refl _) _
  have hlg := hr.len
  have hs0 : (w.alloc (.cells #[.int .i64 x, .int .i64 y, .slice Ag ng cg, .slice Ao no co] 27)).heap.size = w.heap.size + 1 := by simp
  have HX0 : X ≤ 40 := by have := hX.out; omega
  have hb0 : BxC (w.alloc (.cells #[.int .i64 x, .int .i64 y, .slice Ag ng cg, .slice Ao no co] 27)) w.heap.size x y Ag ng cg Ao no co := BxC.new w _
  have hq := hb0; obtain ⟨k0, k1, k2, k3⟩ := hq
  go_enter Try.func37, Try.ntmps37
  go_wp2_with fail
  refine (ciInputs_any x y Ag ng cg Ao no co _ hx hy).mono ?_
  rintro e v1 ⟨rfl, hb1⟩
  rw [hX.out]
  have hxv := hb0.below hb1
  have hzv := hb1.size
  rw [hs0] at hzv
  have hBv := hB.trans (hb1.mono hB.size)
  clear k0 k1 k2 k3 hb0 hb1 hB hs0
  have hq := hxv; obtain ⟨k0, k1, k2, k3⟩ := hq
  go_wp2_with (at_make; refine wpList_make_full _ rfl _ _ 25 rfl v1.heap.size 3 i0 (.int .i64 0) 1 Try.underlying25 hi hz0 hz1 _ _ _ _ X rfl rfl rfl rfl (by rw [hz2]; omega) (by unfold maxLen; omega) (Nat.le_refl _) ?_; intro w1 hown hgrow; have hb1 := below_of_grownBy hgrow; have hq := hxv.below hb1; obtain ⟨q0, q1, q2, q3⟩ := hq)
  have hrep : w1.ownsRow v1.heap.size 3 1 (.slice (some ⟨v1.heap.size, 0, none⟩) X X) X ((dps B gs X 0).map (Value.int .i64)) := by
    have h : (madeCells (Value.int .i64 0).cells (X * 1)).toList = (dps B gs X 0).map (Value.int .i64) := by
      simp [Value.cells, toList_madeCells_one, dps]
    rw [← h]; exact hown
  have ho0 := Own.mk_ hrep
  have hB1 := hBv.trans (hb1.mono hBv.size)
  have hx1 := hxv.below hb1
  have hzw1 : w.heap.size + 1 ≤ w1.heap.size := Nat.le_trans hzv hb1.size
  have hzw : v1.heap.size ≤ w1.heap.size := hb1.size
  clear hown hgrow hrep k0 k1 k2 k3 q0 q1 q2 q3 hxv hBv hb1
  go_loopw [5, 17] (fun v i wr => ∃ (k : Nat) (A' : Option Addr) (c' : Nat), k ≤ ng ∧ i = .int .i64 k ∧ v = .slice A' (X + k : Nat) c' ∧ Own wr v1.heap.size wr.heap.size (.slice A' (X + k) c') (X + k) (dps B gs X k) ∧ Below v1.heap.size w1 wr) (fun _ i _ => ng - (intOf i).toNat)
  case atStart => exact ⟨0, _, _, Nat.zero_le _, rfl, rfl, ho0, Below.refl _ _⟩
  case round =>
    clear ho0
    obtain ⟨k, A', c', hk, rfl, rfl, ho, hb⟩ := hrel
    have hz : v1.heap.size ≤ wr.heap.size := Nat.le_trans hzw hb.size
    have hBr := hB1.trans (hb.mono (by omega))
    have hxr := hx1.bel hb (by omega)
    by_cases hlt : k < ng
    · obtain ⟨kb, ob, rfl, hkb, d1, d2, d3⟩ := (hr.below hBr (Nat.le_refl _)).at_ hlt
      have hG := hgt k hlt
      obtain ⟨E, hE⟩ : ∃ E, Hid (dps B gs X (k + 1) = E) := ⟨_, Lib.hid rfl⟩
      have HS : Hid (dps B gs X k ++ [dv B (gg gs k) (dps B gs X k)] = E) := Lib.hid (by rw [← hE.out]; rfl)
      have hbd := dps_bd B gs X k
      have hbm := mx_bd (os := prt (gg gs k)) (show (0 : Int) ≤ k by omega) (fun j => (hbd j).2)
      have HV := Lib.hid (dv_prt (b := B) hG (fun j => (hbd j).1))
      have hp := prt_lt hG
      have hpl := prt_len (g := gg gs k)
      generalize dps B gs X k = D at *
      generalize gg gs k = GG at *
      have alA : Below wr.heap.size wr (wr.alloc (.cells #[.int .i64 GG.k, .int .i64 GG.a, .int .i64 GG.b] 58)) := (Below.refl _ _).alloc (Nat.le_refl _) _
      have oA := ho.below alA (.inl (Nat.le_refl _))
      have hszA : (wr.alloc (.cells #[.int .i64 GG.k, .int .i64 GG.a, .int .i64 GG.b] 58)).heap.size = wr.heap.size + 1 := by simp
      have bA := hb.trans (alA.mono hz)
      have f0 := box_cell wr #[.int .i64 GG.k, .int .i64 GG.a, .int .i64 GG.b] (T := 58) 0 _ rfl
      have f1 := box_cell wr #[.int .i64 GG.k, .int .i64 GG.a, .int .i64 GG.b] (T := 58) 1 _ rfl
      have f2 := box_cell wr #[.int .i64 GG.k, .int .i64 GG.a, .int .i64 GG.b] (T := 58) 2 _ rfl
      have hq := hxr; obtain ⟨k0, k1, k2, k3⟩ := hq
      go_wp2_with fail
      refine (ciParts_any GG ((X : Int) + k) hG _).mono ?_
      rintro e w5 ⟨Ap, cp, rfl, hP, hb5⟩
      have o5 := oA.below hb5 (.inl (by rw [hszA]; omega))
      have e0 := cell_below f0 hb5
      have b5 := bA.trans (hb5.mono (by rw [hszA]; omega))
      have hz5 := hb5.size
      rw [hszA] at hz5
      clear k0 k1 k2 k3 f0 f1 f2 oA bA alA hb5 ho hb hxr hBr d1 d2 d3 hszA
      obtain ⟨PP, hPP⟩ : ∃ PP, prt GG = PP := ⟨_, rfl⟩
      rw [hPP] at hP HV hp hpl hbm ⊢
      have HPP := Lib.hid hPP; clear hPP
      obtain ⟨m, hm⟩ : ∃ m, PP.length = m := ⟨_, rfl⟩
      rw [hm] at hP hpl ⊢
      have Hm := Lib.hid hm; clear hm
      go_wp2_with fail
      go_loopw [8, 24] (fun u i wx => ∃ j : Nat, j ≤ m ∧ i = .int .i64 j ∧ u = .int .i64 (mxo D (PP.take j)) ∧ wx = w5) (fun _ i _ => m - (intOf i).toNat)
      case atStart => exact ⟨0, Nat.zero_le _, rfl, rfl, rfl⟩
      case round =>
        obtain ⟨j, hj, rfl, rfl, rfl⟩ := hrel
        by_cases hlj : j < m
        · obtain ⟨bj, oj, rfl, hbj, cj⟩ := hP.at_ hlj
          have hsn : Hid (mxo D (PP.take (j + 1)) = max (mxo D (PP.take j)) (gi D (gi PP j).toNat)) := Lib.hid (mx_take (by have := Hm.out; omega))
          have hpj := hp (gi PP j) (gi_mem (by have := Hm.out; omega))
          generalize mxo D (PP.take j) = U at *
          generalize gi PP j = Y at *
          obtain ⟨Z, rfl⟩ : ∃ Z : Nat, Y = Z := ⟨Y.toNat, by omega⟩
          have hZ : Z < X + k := by omega
          have hZi : (Z : Int) < ((X + k : Nat) : Int) := by omega
          obtain ⟨g1, rfl, hl1, hl2, hl3⟩ := o5.some_ (by omega)
          obtain ⟨cc1, ff1⟩ := o5.cellAt hZ
          have e1 : Hid (gi D ((Z : Int)).toNat = gi D Z) := Lib.hid rfl
          rw [e1.out] at hsn
          clear e1 ff1
          generalize gi D Z = V at *
          go_wp2_with fail
          refine (l1MostD_any U V _).mono ?_
          rintro e w6 ⟨rfl, rfl⟩
          go_wp2
          go_roundw
          case rel => exact ⟨j + 1, by omega, by go_num, by rw [hsn.out], by first | rfl | trivial⟩
          case measure => simp [intOf]; omega
        · obtain rfl : m = j := Nat.le_antisymm (Nat.le_of_not_lt hlj) hj
          have hT : Hid (PP.take m = PP) := Lib.hid (List.take_of_length_le (by have := Hm.out; omega))
          rw [hT.out]
          generalize mxo D PP = U at *
          have hwU : IntKind.i64.wrap (U + 1) = U + 1 := by rw [IntKind.wrap_i64] <;> omega
          cases B with
          | false =>
            have HV2 : Hid (dv false GG D = U + 1) := Lib.hid HV.out
            rw [HV2.out] at HS
            clear HV HV2 hP hp
            have hoA := o5.alloc (.cells #[.int .i64 (U + 1)] 3)
            have hbA := b5.alloc (by omega) (.cells #[.int .i64 (U + 1)] 3)
            go_wp2_with (at_builtin; refine wpList_app _ rfl _ _ rfl rfl hoA rfl (RI_one _ _ _ _ (by simp)) (by omega) (by first | omega | (simp; done) | (simp; omega)) ?_; intro A5 c5 w5 hown5 hg5 hat5)
            have hb6 := below_app hbA hoA hg5 (by simp; omega) (Nat.le_refl _)
            rw [HS.out] at hown5
            clear hoA hbA hg5 hat5 o5 b5
            go_wp2
            go_roundw
            case rel => exact ⟨k + 1, A5, c5, by omega, by go_num, rfl, by rw [hE.out]; exact hown5, hb6⟩
            case measure => simp [intOf]; omega
          | true =>
            by_cases hk1 : GG.k = 1
            · have HV2 : Hid (dv true GG D = U + 1) := Lib.hid (by rw [HV.out]; simp [hk1])
              rw [HV2.out] at HS
              rw [hk1] at e0
              clear HV HV2 hP hp hk1
              have hoA := o5.alloc (.cells #[.int .i64 (U + 1)] 3)
              have hbA := b5.alloc (by omega) (.cells #[.int .i64 (U + 1)] 3)
              go_wp2_with (at_builtin; refine wpList_app _ rfl _ _ rfl rfl hoA rfl (RI_one _ _ _ _ (by simp)) (by omega) (by first | omega | (simp; done) | (simp; omega)) ?_; intro A5 c5 w5 hown5 hg5 hat5)
              have hb6 := below_app hbA hoA hg5 (by simp; omega) (Nat.le_refl _)
              rw [HS.out] at hown5
              clear hoA hbA hg5 hat5 o5 b5
              go_wp2
              go_roundw
              case rel => exact ⟨k + 1, A5, c5, by omega, by go_num, rfl, by rw [hE.out]; exact hown5, hb6⟩
              case measure => simp [intOf]; omega
            · have HV2 : Hid (dv true GG D = U) := Lib.hid (by rw [HV.out]; simp [hk1])
              rw [HV2.out] at HS
              have hq1 : (GG.k == 1) = false := by simpa using hk1
              clear HV HV2 hP hp
              have hoA := o5.alloc (.cells #[.int .i64 U] 3)
              have hbA := b5.alloc (by omega) (.cells #[.int .i64 U] 3)
              go_wp2_with (at_builtin; refine wpList_app _ rfl _ _ rfl rfl hoA rfl (RI_one _ _ _ _ (by simp)) (by omega) (by first | omega | (simp; done) | (simp; omega)) ?_; intro A5 c5 w5 hown5 hg5 hat5)
              have hb6 := below_app hbA hoA hg5 (by simp; omega) (Nat.le_refl _)
              rw [HS.out] at hown5
              clear hoA hbA hg5 hat5 o5 b5
              go_wp2
              go_roundw
              case rel => exact ⟨k + 1, A5, c5, by omega, by go_num, rfl, by rw [hE.out]; exact hown5, hb6⟩
              case measure => simp [intOf]; omega
    · obtain rfl : ng = k := Nat.le_antisymm (Nat.le_of_not_lt hlt) hk
      go_wp2
      go_ret
      exact RetI.mk_ (dps_len _ _ _ _) rfl (ho.lo_ (by omega)) hBr

set_option maxRecDepth 100000 in
set_option maxHeartbeats 3000000 in
theorem spec_DepthOf_any (x y : Int) (Ag : Option Addr) (ng cg : Nat) (Ao : Option Addr) (no co : Nat) (gs : List G3) (os : List Int) (w : World) (hr : RG w Ag ng gs ∧ RI w Ao no os) (hng : ng ≤ 2097152) (hno : no ≤ 2097152) :
    Calls Try.prog 12 #[.agg #[.int .i64 x, .int .i64 y, .slice Ag ng cg, .slice Ao no co]] w (RetDp w x y gs os) := by
  have hB : Below w.heap.size w (w.alloc (.cells #[.int .i64 x, .int .i64 y, .slice Ag ng cg, .slice Ao no co] 27)) := (Below.refl _ _).alloc (Nat.le_refl _) _
  have hx0 : BxC (w.alloc (.cells #[.int .i64 x, .int .i64 y, .slice Ag ng cg, .slice Ao no co] 27)) w.heap.size x y Ag ng cg Ao no co := BxC.new w _
  have hs0 : (w.alloc (.cells #[.int .i64 x, .int .i64 y, .slice Ag ng cg, .slice Ao no co] 27)).heap.size = w.heap.size + 1 := by simp
  have hlg := hr.1.len
  have hlo := hr.2.len
  have hq := hx0; obtain ⟨k0, k1, k2, k3⟩ := hq
  cases h0 : circB x y gs os with
  | false =>
    have H0 := Lib.hid h0; clear h0
    go_enter Try.func12, Try.ntmps12
    go_wp2_with fail
    refine (ciGood_any x y Ag ng cg Ao no co gs os _ (hr.1.below hB (Nat.le_refl _)) (hr.2.below hB (Nat.le_refl _)) hng hno).mono ?_
    rintro e v1 ⟨rfl, hb1⟩
    rw [H0.out]
    go_wp2
    go_ret3
    exact RetDp.no H0.out (hB.trans (hb1.mono hB.size))
  | true =>
    obtain ⟨hx, hy, hg3, ho3, _, hao⟩ := circB_bd h0
    have hgt0 := circB_gate_at h0 hlg
    rw [hlg] at hg3 hao
    rw [hlo] at ho3
    obtain ⟨X, hX⟩ : ∃ X : Nat, x + y = X := ⟨(x + y).toNat, by omega⟩
    have hgt : ∀ k : Nat, k < ng → GateIs (gg gs k) ((X : Int) + k) := fun k hk => by
      have h := hgt0 k hk
      rwa [hX] at h
    have HO : ∀ k, k < no → 0 ≤ gi os k ∧ gi os k < ((X + ng : Nat) : Int) := fun k hk => by have := allB_gi hao (j := k) (by omega); omega
    have hX40 : X ≤ 40 := by omega
    have HX := Lib.hid hX
    have H0 := Lib.hid h0; clear h0 hgt0 hX hao
    go_enter Try.func12, Try.ntmps12
    go_wp2_with fail
    refine (ciGood_any x y Ag ng cg Ao no co gs os _ (hr.1.below hB (Nat.le_refl _)) (hr.2.below hB (Nat.le_refl _)) hng hno).mono ?_
    rintro e v1 ⟨rfl, hb1⟩
    rw [H0.out]
    have hx1 := hx0.below hb1
    have hB1 := hB.trans (hb1.mono hB.size)
    have hz1 := hb1.size
    rw [hs0] at hz1
    clear k0 k1 k2 k3 hx0 hb1 hB
    have hq := hx1; obtain ⟨k0, k1, k2, k3⟩ := hq
    go_wp2_with fail
    refine wp_region_mem0 (6) [(⟨w.heap.size, 0, none⟩, .int .i64 x), (⟨w.heap.size, 1, none⟩, .int .i64 y), (⟨w.heap.size, 2, none⟩, .slice Ag ng cg), (⟨w.heap.size, 3, none⟩, .slice Ao no co)] [(1, [], []), (3, [], [])] [1, 3] [(1, Res.row v1.heap.size (X + ng) (dps false gs X ng)), (3, Res.row v1.heap.size (X + ng) (dps true gs X ng))] (by kernel_rfl) (by kernel_rfl) (by kernel_rfl) (by simp only [CellsL, List.mem_cons, forall_eq_or_imp, List.not_mem_nil, false_implies, implies_true, and_true]; repeat (any_goals (apply And.intro)); all_goals (first | assumption | go_simp)) ?_
    simp only [List.take_succ_cons, List.take_zero, List.drop_succ_cons, List.drop_zero, List.take_nil, List.drop_nil, List.take, List.drop]
    repeat (first
      | ((with_reducible refine mem_pure0 ?_ ?_ ?_)
         · exact rfl
         · exact rfl
         intro K hK
         apply Exists.intro
         refine ⟨fun w3 hw3 => ?_, ?_⟩
         · have hcs := hw3
           simp only [CellsL, List.mem_cons, forall_eq_or_imp, List.not_mem_nil, false_implies, implies_true, and_true] at hcs
           clear hw3
           go_simp
           first | done | exact ⟨rfl, rfl⟩ | rfl
         refine hK _ ?_
         clear hK K
         try simp only [Act.put, List.setIfInBounds_toArray, List.set_cons_zero, List.set_cons_succ])
      | ((with_reducible refine mem_skip ?_ ?_ ?_)
         · exact rfl
         · exact wanted_not rfl rfl rfl rfl
         simp only [Act.put, List.setIfInBounds_toArray, List.set_cons_zero, List.set_cons_succ])
      | ((with_reducible refine mem_pure ?_ ?_ ?_)
         · exact rfl
         · exact wanted_some rfl rfl rfl rfl
         intro K hK
         apply Exists.intro
         refine ⟨fun w3 hw3 => ?_, ?_⟩
         · have hcs := hw3
           simp only [CellsL, List.mem_cons, forall_eq_or_imp, List.not_mem_nil, false_implies, implies_true, and_true] at hcs
           clear hw3
           go_simp
           first | done | exact ⟨rfl, rfl⟩ | rfl
         refine hK _ ?_
         clear hK K
         try simp only [Act.put, List.setIfInBounds_toArray, List.set_cons_zero, List.set_cons_succ]))
    focus
      (with_reducible refine mem_row v1.heap.size (X + ng) (dps false gs X ng) ?_ ?_ ?_ ?_ ?_ (hw := ?_))
      · exact rfl
      · exact rfl
      · omega
      · intro w3 hw3 hc3 hp3
        have hcs := hc3
        simp only [CellsL, List.mem_cons, forall_eq_or_imp, List.not_mem_nil, false_implies, implies_true, and_true] at hcs
        (go_simp; have hb3 := hB1.trans ((alt_below hw3).mono hB1.size); refine (ciDepths_any x y Ag ng cg Ao no co gs false X _ (hr.1.below hb3 (Nat.le_refl _)) hg3 hx hy HX hgt).mono ?_; rintro e w4 hT; obtain ⟨A4, c4, rfl, ho4, hb4⟩ := hT.open_ (dps_len _ _ _ _); exact retPost.mk_ (postRow.mk_ ho4 hb4))
      rotate_left
      · first | exact wanted_none rfl | exact wanted_some rfl rfl rfl rfl
      intro A1 c1
      try simp only [Act.put, List.setIfInBounds_toArray, List.set_cons_zero, List.set_cons_succ]
    repeat (first
      | ((with_reducible refine mem_pure0 ?_ ?_ ?_)
         · exact rfl
         · exact rfl
         intro K hK
         apply Exists.intro
         refine ⟨fun w3 hw3 => ?_, ?_⟩
         · have hcs := hw3
           simp only [CellsL, List.mem_cons, forall_eq_or_imp, List.not_mem_nil, false_implies, implies_true, and_true] at hcs
           clear hw3
           go_simp
           first | done | exact ⟨rfl, rfl⟩ | rfl
         refine hK _ ?_
         clear hK K
         try simp only [Act.put, List.setIfInBounds_toArray, List.set_cons_zero, List.set_cons_succ])
      | ((with_reducible refine mem_skip ?_ ?_ ?_)
         · exact rfl
         · exact wanted_not rfl rfl rfl rfl
         simp only [Act.put, List.setIfInBounds_toArray, List.set_cons_zero, List.set_cons_succ])
      | ((with_reducible refine mem_pure ?_ ?_ ?_)
         · exact rfl
         · exact wanted_some rfl rfl rfl rfl
         intro K hK
         apply Exists.intro
         refine ⟨fun w3 hw3 => ?_, ?_⟩
         · have hcs := hw3
           simp only [CellsL, List.mem_cons, forall_eq_or_imp, List.not_mem_nil, false_implies, implies_true, and_true] at hcs
           clear hw3
           go_simp
           first | done | exact ⟨rfl, rfl⟩ | rfl
         refine hK _ ?_
         clear hK K
         try simp only [Act.put, List.setIfInBounds_toArray, List.set_cons_zero, List.set_cons_succ]))
    focus
      (with_reducible refine mem_row v1.heap.size (X + ng) (dps true gs X ng) ?_ ?_ ?_ ?_ ?_ (hw := ?_))
      · exact rfl
      · exact rfl
      · omega
      · intro w3 hw3 hc3 hp3
        have hcs := hc3
        simp only [CellsL, List.mem_cons, forall_eq_or_imp, List.not_mem_nil, false_implies, implies_true, and_true] at hcs
        (go_simp; have hb3 := hB1.trans ((alt_below hw3).mono hB1.size); refine (ciDepths_any x y Ag ng cg Ao no co gs true X _ (hr.1.below hb3 (Nat.le_refl _)) hg3 hx hy HX hgt).mono ?_; rintro e w4 hT; obtain ⟨A4, c4, rfl, ho4, hb4⟩ := hT.open_ (dps_len _ _ _ _); exact retPost.mk_ (postRow.mk_ ho4 hb4))
      rotate_left
      · first | exact wanted_none rfl | exact wanted_some rfl rfl rfl rfl
      intro A2 c2
      try simp only [Act.put, List.setIfInBounds_toArray, List.set_cons_zero, List.set_cons_succ]
    repeat (first
      | ((with_reducible refine mem_pure0 ?_ ?_ ?_)
         · exact rfl
         · exact rfl
         intro K hK
         apply Exists.intro
         refine ⟨fun w3 hw3 => ?_, ?_⟩
         · have hcs := hw3
           simp only [CellsL, List.mem_cons, forall_eq_or_imp, List.not_mem_nil, false_implies, implies_true, and_true] at hcs
           clear hw3
           go_simp
           first | done | exact ⟨rfl, rfl⟩ | rfl
         refine hK _ ?_
         clear hK K
         try simp only [Act.put, List.setIfInBounds_toArray, List.set_cons_zero, List.set_cons_succ])
      | ((with_reducible refine mem_skip ?_ ?_ ?_)
         · exact rfl
         · exact wanted_not rfl rfl rfl rfl
         simp only [Act.put, List.setIfInBounds_toArray, List.set_cons_zero, List.set_cons_succ])
      | ((with_reducible refine mem_pure ?_ ?_ ?_)
         · exact rfl
         · exact wanted_some rfl rfl rfl rfl
         intro K hK
         apply Exists.intro
         refine ⟨fun w3 hw3 => ?_, ?_⟩
         · have hcs := hw3
           simp only [CellsL, List.mem_cons, forall_eq_or_imp, List.not_mem_nil, false_implies, implies_true, and_true] at hcs
           clear hw3
           go_simp
           first | done | exact ⟨rfl, rfl⟩ | rfl
         refine hK _ ?_
         clear hK K
         try simp only [Act.put, List.setIfInBounds_toArray, List.set_cons_zero, List.set_cons_succ]))
    refine wpSep_end ?_
    intro wt hwt hct hfin hap
    have hbt := alt_below hwt
    have ho1 : Own wt v1.heap.size wt.heap.size (.slice A1 (X + ng) c1) (X + ng) (dps false gs X ng) := hfin.1.1
    have ho2 : Own wt v1.heap.size wt.heap.size (.slice A2 (X + ng) c2) (X + ng) (dps true gs X ng) := hfin.2.1.1
    have hxt := hx1.below hbt
    have hBt := hB1.trans (hbt.mono hB1.size)
    clear hfin hap hct hwt hbt k0 k1 k2 k3 hx1 hB1
    have hq := hxt; obtain ⟨k0, k1, k2, k3⟩ := hq
    have HE1 : ∀ u, Hid (u = mxo (dps false gs X ng) os → ∀ v, v = mxo (dps true gs X ng) os → ∀ w', Below w.heap.size w w' → RetDp w x y gs os (.returned (.tuple #[.int .i64 u, .int .i64 v, .bool true])) w') := fun u => Lib.hid fun hu v hv w' hb => RetDp.yes H0.out HX.out hlg hu hv hb
    obtain ⟨N, hN⟩ : ∃ N, X + ng = N := ⟨_, rfl⟩
    rw [hN] at ho1 ho2 HO ⊢
    have HN := Lib.hid hN; clear hN hgt
    generalize dps false gs X ng = D1 at *
    generalize dps true gs X ng = D2 at *
    go_wp2
    clear k0 k1 k2 k3
    go_loopw [5, 6, 21] (fun u v i wx => ∃ k : Nat, k ≤ no ∧ i = .int .i64 k ∧ u = .int .i64 (mxo D1 (os.take k)) ∧ v = .int .i64 (mxo D2 (os.take k)) ∧ wx = wt) (fun _ _ i _ => no - (intOf i).toNat)
    case atStart => exact ⟨0, Nat.zero_le _, rfl, rfl, rfl, rfl⟩
    case round =>
      obtain ⟨k, hk, rfl, rfl, rfl, rfl⟩ := hrel
      by_cases hlt : k < no
      · obtain ⟨kb, ob, rfl, hkb, d1⟩ := (hr.2.below hBt (Nat.le_refl _)).at_ hlt
        have hsn1 : Hid (mxo D1 (os.take (k + 1)) = max (mxo D1 (os.take k)) (gi D1 (gi os k).toNat)) := Lib.hid (mx_take (by omega))
        have hsn2 : Hid (mxo D2 (os.take (k + 1)) = max (mxo D2 (os.take k)) (gi D2 (gi os k).toNat)) := Lib.hid (mx_take (by omega))
        obtain ⟨o1, o2⟩ := HO k hlt
        generalize mxo D1 (os.take k) = U1 at *
        generalize mxo D2 (os.take k) = U2 at *
        generalize gi os k = Y at *
        obtain ⟨Z, rfl⟩ : ∃ Z : Nat, Y = Z := ⟨Y.toNat, by omega⟩
        have hZ : Z < N := by omega
        obtain ⟨g1, rfl, hl1, hl2, hl3⟩ := ho1.some_ (by omega)
        obtain ⟨g2, rfl, hm1, hm2, hm3⟩ := ho2.some_ (by omega)
        obtain ⟨cc1, ff1⟩ := ho1.cellAt hZ
        obtain ⟨cc2, ff2⟩ := ho2.cellAt hZ
        have e1 : Hid (gi D1 ((Z : Int)).toNat = gi D1 Z) := Lib.hid rfl
        have e2 : Hid (gi D2 ((Z : Int)).toNat = gi D2 Z) := Lib.hid rfl
        rw [e1.out] at hsn1
        rw [e2.out] at hsn2
        clear e1 e2 ff1 ff2 ho1 ho2
        generalize gi D1 Z = V1 at *
        generalize gi D2 Z = V2 at *
        go_wp2_with fail
        refine (l1MostD_any U1 V1 _).mono ?_
        rintro e w6 ⟨rfl, rfl⟩
        go_wp2_with fail
        refine (l1MostD_any U2 V2 _).mono ?_
        rintro e w6 ⟨rfl, rfl⟩
        go_wp2
        go_roundw
        case rel => exact ⟨k + 1, by omega, by go_num, by rw [hsn1.out], by rw [hsn2.out], by first | rfl | trivial⟩
        case measure => simp [intOf]; omega
      · obtain rfl : no = k := Nat.le_antisymm (Nat.le_of_not_lt hlt) hk
        have hT : Hid (os.take no = os) := Lib.hid (List.take_of_length_le (by omega))
        rw [hT.out]
        go_wp2
        go_ret3
        exact (HE1 _).out rfl _ rfl _ hBt

end Go.Proofs.Ytgenehiiakdadaa

namespace Go.Proofs.Ytgenehiiakdadaa
open Go.RowKit
set_option linter.unusedVariables false
set_option linter.unusedSimpArgs false

def bigB (n m : Nat) : Bool := decide (1048576 < n + m)
theorem big_any (Y Z : Option Addr) (n c m d : Nat) (w : World) (hn : n ≤ 140737488355328) (hm : m ≤ 140737488355328) :
    Calls Try.prog 4 #[.slice Y n c, .slice Z m d] w fun e w' => e = .returned (.bool (bigB n m)) ∧ w = w' := by
  by_cases h1 : 1048576 < n
  · have h2 : (1048576 : Int) < (n : Int) := by omega
    have HR : Hid (bigB n m = true) := Lib.hid (by unfold bigB; exact decide_eq_true (by omega))
    go_enter Try.func4, Try.ntmps4
    go_wp2
    go_ret
    exact ⟨by rw [HR.out]; rfl, rfl⟩
  · have h2 : ¬ (1048576 : Int) < (n : Int) := by omega
    have hw : IntKind.i64.wrap (1048576 - (n : Int)) = 1048576 - (n : Int) := by rw [IntKind.wrap_i64] <;> omega
    by_cases h3 : (1048576 : Int) - n < m
    · have HR : Hid (bigB n m = true) := Lib.hid (by unfold bigB; exact decide_eq_true (by omega))
      go_enter Try.func4, Try.ntmps4
      go_wp2
      go_ret
      exact ⟨by rw [HR.out]; simp [h3], rfl⟩
    · have HR : Hid (bigB n m = false) := Lib.hid (by unfold bigB; exact decide_eq_false (by omega))
      go_enter Try.func4, Try.ntmps4
      go_wp2
      go_ret
      exact ⟨by rw [HR.out]; first | (simp; done) | (simp; omega), rfl⟩

def sm (xs : List Int) : Nat → Int
  | 0 => 0
  | k + 1 => sm xs k + gi xs k
theorem sm_bd {xs : List Int} (h : ∀ j, 0 ≤ gi xs j ∧ gi xs j ≤ 1000) (k : Nat) : 0 ≤ sm xs k ∧ sm xs k ≤ 1000 * k := by
  induction k with
  | zero => simp [sm]
  | succ k ih => have := h k; simp only [sm]; omega
theorem pSum_any (A : Option Addr) (n c : Nat) (xs : List Int) (w : World) (ha : RI w A n xs) (hn : n ≤ 4) (hb : ∀ j, 0 ≤ gi xs j ∧ gi xs j ≤ 1000) :
    Calls Try.prog 10 #[.slice A n c] w fun e w' => e = .returned (.int .i64 (sm xs n)) ∧ w = w' := by
  go_enter Try.func10, Try.ntmps10
  go_wp2
  go_loopw [3, 8] (fun v i wr => ∃ k : Nat, k ≤ n ∧ i = .int .i64 k ∧ v = .int .i64 (sm xs k) ∧ wr = w) (fun _ i _ => n - (intOf i).toNat)
  case atStart => exact ⟨0, Nat.zero_le _, rfl, rfl, rfl⟩
  case round =>
    obtain ⟨k, hk, rfl, rfl, rfl⟩ := hrel
    by_cases hlt : k < n
    · obtain ⟨b, o, rfl, hbB, e1⟩ := ha.at_ hlt
      have hs : Hid (sm xs (k + 1) = sm xs k + gi xs k) := Lib.hid rfl
      have h1 := sm_bd hb k
      have h2 := hb k
      generalize sm xs k = S at *
      generalize gi xs k = X at *
      have hw : IntKind.i64.wrap (S + X) = S + X := by rw [IntKind.wrap_i64] <;> omega
      go_wp2
      go_roundw
      case rel => exact ⟨k + 1, by omega, by go_num, by rw [hs.out], by first | rfl | trivial⟩
      case measure => simp [intOf]; omega
    · obtain rfl : n = k := Nat.le_antisymm (Nat.le_of_not_lt hlt) hk
      go_wp2
      go_ret
      exact ⟨rfl, rfl⟩

theorem pIn_any (A : Option Addr) (n c : Nat) (xs : List Int) (v : Int) (w : World) (ha : RI w A n xs) (hn : n ≤ 2097152) (hv : v ∈ xs) :
    Calls Try.prog 17 #[.slice A n c, .int .i64 v] w fun e w' => e = .returned (.bool true) ∧ w = w' := by
  have HV : Hid (∃ q, q < n ∧ gi xs q = v) := Lib.hid (by
    obtain ⟨q, hq, he⟩ := List.getElem_of_mem hv
    exact ⟨q, by have := ha.len; omega, by rw [gi_lt hq]; exact he⟩)
  clear hv
  go_enter Try.func17, Try.ntmps17
  go_wp2
  go_loopw [9] (fun i wr => ∃ k : Nat, k ≤ n ∧ i = .int .i64 k ∧ wr = w ∧ Hid (∀ q, q < k → gi xs q ≠ v)) (fun i _ => n - (intOf i).toNat)
  case atStart => exact ⟨0, Nat.zero_le _, rfl, rfl, Lib.hid fun q hq => absurd hq (by omega)⟩
  case round =>
    obtain ⟨k, hk, rfl, rfl, hq⟩ := hrel
    by_cases hlt : k < n
    · obtain ⟨b, o, rfl, hbB, e1⟩ := ha.at_ hlt
      by_cases h1 : gi xs k = v
      · rw [h1] at e1
        have h2 : (v == v) = true := by simp
        clear h1 hq
        go_wp2
        go_ret
        exact ⟨rfl, rfl⟩
      · have h2 : (gi xs k == v) = false := by simpa using h1
        have hq2 : Hid (∀ q, q < k + 1 → gi xs q ≠ v) := Lib.hid fun q hq' => by
          rcases Nat.lt_or_ge q k with h | h
          · exact hq.out q h
          · obtain rfl : q = k := by omega
            exact h1
        clear h1 hq
        generalize gi xs k = X at *
        go_wp2
        go_roundw
        case rel => exact ⟨k + 1, by omega, by go_num, by first | rfl | trivial, hq2⟩
        case measure => simp [intOf]; omega
    · obtain rfl : n = k := Nat.le_antisymm (Nat.le_of_not_lt hlt) hk
      exact absurd (hq.out) (fun h => by obtain ⟨q, h1, h2⟩ := HV.out; exact h q h1 h2)

theorem sameB_refl' (xs : List Int) : sameB xs xs = true := sameB_all rfl fun _ _ => rfl
set_option maxRecDepth 100000 in
set_option maxHeartbeats 2000000 in
theorem pSameCircuit_any (x y : Int) (Ag Bg : Option Addr) (ng cg dg : Nat) (Ao Bo : Option Addr) (no co do_ : Nat) (gs : List G3) (os : List Int) (w : World) (hr : RG w Ag ng gs ∧ RI w Ao no os) (hs : RG w Bg ng gs ∧ RI w Bo no os) (hng : ng ≤ 2097152) (hno : no ≤ 2097152) :
    Calls Try.prog 8 #[.agg #[.int .i64 x, .int .i64 y, .slice Ag ng cg, .slice Ao no co], .agg #[.int .i64 x, .int .i64 y, .slice Bg ng dg, .slice Bo no do_]] w fun e w' => e = .returned (.bool true) ∧ Below w.heap.size w w' := by
  have hB : Below w.heap.size w ((w.alloc (.cells #[.int .i64 x, .int .i64 y, .slice Ag ng cg, .slice Ao no co] 27)).alloc (.cells #[.int .i64 x, .int .i64 y, .slice Bg ng dg, .slice Bo no do_] 27)) := ((Below.refl _ _).alloc (Nat.le_refl _) _).alloc (by simp) _
  have al1 : Below (w.alloc (.cells #[.int .i64 x, .int .i64 y, .slice Ag ng cg, .slice Ao no co] 27)).heap.size (w.alloc (.cells #[.int .i64 x, .int .i64 y, .slice Ag ng cg, .slice Ao no co] 27)) ((w.alloc (.cells #[.int .i64 x, .int .i64 y, .slice Ag ng cg, .slice Ao no co] 27)).alloc (.cells #[.int .i64 x, .int .i64 y, .slice Bg ng dg, .slice Bo no do_] 27)) := (Below.refl _ _).alloc (Nat.le_refl _) _
  have p0 : BxC ((w.alloc (.cells #[.int .i64 x, .int .i64 y, .slice Ag ng cg, .slice Ao no co] 27)).alloc (.cells #[.int .i64 x, .int .i64 y, .slice Bg ng dg, .slice Bo no do_] 27)) w.heap.size x y Ag ng cg Ao no co := (BxC.new w _).below al1
  have p1 : BxC ((w.alloc (.cells #[.int .i64 x, .int .i64 y, .slice Ag ng cg, .slice Ao no co] 27)).alloc (.cells #[.int .i64 x, .int .i64 y, .slice Bg ng dg, .slice Bo no do_] 27)) (w.heap.size + 1) x y Bg ng dg Bo no do_ := by simpa using BxC.new (x := x) (y := y) (Ag := Bg) (ng := ng) (cg := dg) (Ao := Bo) (no := no) (co := do_) (w.alloc (.cells #[.int .i64 x, .int .i64 y, .slice Ag ng cg, .slice Ao no co] 27)) 27
  have n1 : (x != x) = false := by simp
  have n2 : (y != y) = false := by simp
  have n3 : ((ng : Int) != ng) = false := by simp
  have hq := p0; obtain ⟨k0, k1, k2, k3⟩ := hq
  have hq := p1; obtain ⟨m0, m1, m2, m3⟩ := hq
  go_enter Try.func8, Try.ntmps8
  go_wp2_with fail
  refine (sameInts_any Ao Bo no co no do_ os os _ (hr.2.below hB (Nat.le_refl _)) (hs.2.below hB (Nat.le_refl _)) hno hno).mono ?_
  rintro e a1 ⟨rfl, j, rfl⟩
  rw [sameB_refl']
  have hB1 := below_drewN hB j
  have q0 : BxC (((w.alloc (.cells #[.int .i64 x, .int .i64 y, .slice Ag ng cg, .slice Ao no co] 27)).alloc (.cells #[.int .i64 x, .int .i64 y, .slice Bg ng dg, .slice Bo no do_] 27)).drewN j) w.heap.size x y Ag ng cg Ao no co := p0
  have q1 : BxC (((w.alloc (.cells #[.int .i64 x, .int .i64 y, .slice Ag ng cg, .slice Ao no co] 27)).alloc (.cells #[.int .i64 x, .int .i64 y, .slice Bg ng dg, .slice Bo no do_] 27)).drewN j) (w.heap.size + 1) x y Bg ng dg Bo no do_ := p1
  clear k0 k1 k2 k3 m0 m1 m2 m3 p0 p1 al1 hB
  generalize ((w.alloc (.cells #[.int .i64 x, .int .i64 y, .slice Ag ng cg, .slice Ao no co] 27)).alloc (.cells #[.int .i64 x, .int .i64 y, .slice Bg ng dg, .slice Bo no do_] 27)).drewN j = a1 at *
  have hq := q0; obtain ⟨k0, k1, k2, k3⟩ := hq
  have hq := q1; obtain ⟨m0, m1, m2, m3⟩ := hq
  go_wp2
  clear k0 k1 k2 k3 m0 m1 m2 m3
  go_loopw [38] (fun i wr => ∃ k j : Nat, k ≤ ng ∧ i = .int .i64 k ∧ wr = a1.drewN j) (fun i _ => ng - (intOf i).toNat)
  case atStart => exact ⟨0, 0, Nat.zero_le _, rfl, rfl⟩
  case round =>
    obtain ⟨k, j, hk, rfl, rfl⟩ := hrel
    have hB2 := below_drewN hB1 j
    obtain ⟨k0, k1, k2, k3⟩ := q0
    obtain ⟨m0, m1, m2, m3⟩ := q1
    by_cases hlt : k < ng
    · obtain ⟨kb, ob, rfl, hkb, d1, d2, d3⟩ := (hr.1.below hB1 (Nat.le_refl _)).at_ hlt
      obtain ⟨kc, oc, rfl, hkc, f1, f2, f3⟩ := (hs.1.below hB1 (Nat.le_refl _)).at_ hlt
      generalize gg gs k = GG at *
      go_wp2_with fail
      go_quiet (fail)
      clear k0 k1 k2 k3 m0 m1 m2 m3
      go_wp2
      go_roundw
      case rel => exact ⟨k + 1, _, by omega, by go_num, by first | rfl | exact World.drewN_drewN _ _ _⟩
      case measure => simp [intOf]; omega
    · obtain rfl : ng = k := Nat.le_antisymm (Nat.le_of_not_lt hlt) hk
      go_wp2
      go_ret
      exact ⟨rfl, hB2⟩

end Go.Proofs.Ytgenehiiakdadaa

namespace Go.Proofs.Ytgenehiiakdadaa
open Go.RowKit
set_option linter.unusedVariables false
set_option linter.unusedSimpArgs false

theorem RetC.open_s {w w' : World} {C : Ci} {e : Ending} (h : RetC w (some C) e w') : ∃ A c O d, e = .returned (.tuple #[.agg #[.int .i64 C.i0, .int .i64 C.i1, .slice A C.gs.length c, .slice O C.os.length d], .bool true]) ∧ OwnC w' w.heap.size w'.heap.size A C.gs.length c O C.os.length d C.gs C.os ∧ Below w.heap.size w w' := h
theorem RetC.open_n {w w' : World} {e : Ending} (h : RetC w none e w') : ∃ A c O d, e = .returned (.tuple #[.agg #[.int .i64 0, .int .i64 0, .slice A 0 c, .slice O 0 d], .bool false]) ∧ OwnC w' w.heap.size w'.heap.size A 0 c O 0 d [] [] ∧ Below w.heap.size w w' := h
theorem RetO.open_s {w w' : World} {U : List Int} {n : Nat} {e : Ending} (h : RetO w (some U) e w') (hn : U.length = n) : ∃ A c, e = .returned (.tuple #[.slice A n c, .bool true]) ∧ Own w' w.heap.size w'.heap.size (.slice A n c) n U ∧ Below w.heap.size w w' := by subst hn; exact h
theorem RetO.open_n {w w' : World} {e : Ending} (h : RetO w none e w') : ∃ A c, e = .returned (.tuple #[.slice A 0 c, .bool false]) ∧ Own w' w.heap.size w'.heap.size (.slice A 0 c) 0 [] ∧ Below w.heap.size w w' := h
theorem cnt_all {gs : List G3} (h : gs.length ≤ 300) : (∀ j, 0 ≤ gi (cntK gs gs.length) j ∧ gi (cntK gs gs.length) j ≤ 1000) := fun j => by have := cntK_bd gs gs.length j; omega
theorem uw_all {x y : Int} {gs : List G3} {os : List Int} {U : List Int} (h : uwF x y gs os = some U) : U.length ≤ 400 ∧ ∀ z ∈ os, z ∈ U := by
  unfold uwF at h
  split at h
  · rename_i hc
    injection h with h
    obtain ⟨hx, hy, hg, ho, hG, hO⟩ := circB_is hc
    refine ⟨?_, fun z hz => h ▸ used_outs z hz⟩
    have e := rowK_used (X := (x + y).toNat) (gs := gs) (os := os) (n := (x + y).toNat + gs.length) (fun j hj => by
      have := hG j hj
      rwa [show (((x + y).toNat : Nat) : Int) = x + y by omega]) (fun z hz => by have := hO z hz; omega) rfl
    rw [← h, ← e]
    have := rowK_len (usedL (x + y).toNat gs os) ((x + y).toNat + gs.length)
    omega
  · cases h
/-- What two circuits beside each other are like. -/
structure BesIs (x y : Int) (gs : List G3) (os : List Int) (u v : Int) (hs : List G3) (ps : List Int) (i j : Int) (g : List G3) (q : List Int) (K1 K2 K3 : List Int) : Prop where
  c1 : circB x y gs os = true
  c2 : circB u v hs ps = true
  c3 : circB i j g q = true
  t1 : ctF x y gs os = some K1
  t2 : ctF u v hs ps = some K2
  t3 : ctF i j g q = some K3
  l1 : K1.length = 4
  l2 : K2.length = 4
  l3 : K3.length = 4
  d1 : ∀ k, 0 ≤ gi K1 k ∧ gi K1 k ≤ 1000
  d2 : ∀ k, 0 ≤ gi K2 k ∧ gi K2 k ≤ 1000
  d3 : ∀ k, 0 ≤ gi K3 k ∧ gi K3 k ≤ 1000
  sum : ∀ k, k < 4 → gi K3 k = gi K1 k + gi K2 k
  tot : sm K3 4 = g.length
  a1 : depA x y gs os ≤ depA i j g q
  a2 : depA u v hs ps ≤ depA i j g q
  b1 : depB x y gs os ≤ depB i j g q
  b2 : depB u v hs ps ≤ depB i j g q
  top : depA i j g q ≤ g.length
  ng : g.length ≤ 300
  no : q.length ≤ 40
theorem bes_all {x y u v i j : Int} {gs hs g : List G3} {os ps q : List Int} (h : besideF x y gs os u v hs ps = some ⟨i, j, g, q⟩) : ∃ K1 K2 K3, BesIs x y gs os u v hs ps i j g q K1 K2 K3 := by
  unfold besideF at h
  split at h
  · rename_i hc
    simp only [Bool.and_eq_true] at hc
    obtain ⟨h1, h2, h3⟩ := hc
    injection h with h
    injection h with e1 e2 e3 e4
    subst e1; subst e2; subst e3; subst e4
    have i1 := circB_is h1
    have i2 := circB_is h2
    have i3 := circB_is h3
    have kd : ∀ {gs : List G3} {X : Int}, (∀ k : Nat, k < gs.length → GateIs (gg gs k) (X + k)) → ∀ k, k < gs.length → 0 ≤ (gg gs k).k ∧ (gg gs k).k ≤ 3 := fun hg k hk => (hg k hk).kd
    have m1 := bes_mx (b := false) h1 h2 h3
    have m2 := bes_mx (b := true) h1 h2 h3
    have tp := (mx_bd (d := dps false (besGs x y u v gs hs) ((x + u) + (y + v)).toNat (besGs x y u v gs hs).length) (os := besOs x y u v gs os ps) (M := ((besGs x y u v gs hs).length : Int)) (by omega) (fun j => (dps_bd false (besGs x y u v gs hs) ((x + u) + (y + v)).toNat (besGs x y u v gs hs).length j).2)).2
    refine ⟨cntK gs gs.length, cntK hs hs.length, cntK (besGs x y u v gs hs) (besGs x y u v gs hs).length, ⟨h1, h2, h3, by simp [ctF, h1], by simp [ctF, h2], by simp [ctF, h3], cntK_len _ _, cntK_len _ _, cntK_len _ _, cnt_all i1.2.2.1, cnt_all i2.2.2.1, cnt_all i3.2.2.1, fun k hk => bes_cnt (kd i2.2.2.2.2.1) hk, ?_, ?_, ?_, ?_, ?_, ?_, i3.2.2.1, i3.2.2.2.1⟩⟩
    · have := cnt_sum (gs := besGs x y u v gs hs) (besGs x y u v gs hs).length (kd i3.2.2.2.2.1)
      simp only [sm]
      omega
    · simpa [depA, h1, h3] using m1.1
    · simpa [depA, h2, h3] using m1.2
    · simpa [depB, h1, h3] using m2.1
    · simpa [depB, h2, h3] using m2.2
    · simpa [depA, h3] using tp
  · cases h

end Go.Proofs.Ytgenehiiakdadaa
