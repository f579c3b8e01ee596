/- DropDead, both sides. Lengths below 2^21. -/
import Derived.Test.YtadgmbkpbgcdjaaDri
import Derived.Test.YtadgmbkpbgcdjaaAV
namespace Go.Proofs.Ytadgmbkpbgcdjaa
open Go.RowKit
set_option linter.unusedVariables false
set_option linter.unusedSimpArgs false
attribute [local go_sem] sepAt sepUpon pureAt pureUpon

set_option maxRecDepth 100000 in
set_option maxHeartbeats 3000000 in
theorem spec_DropDead_any (x y : Int) (Ag : Option Addr) (ng cg : Nat) (Ao : Option Addr) (no co : Nat) (gs : List G3) (os : List Int) (w : World) (hr : RG w Ag ng gs ∧ RI w Ao no os) (hng : ng ≤ 2097152) (hno : no ≤ 2097152) :
    Calls Try.prog 27 #[.agg #[.int .i64 x, .int .i64 y, .slice Ag ng cg, .slice Ao no co]] w (RetC w (dropF x y gs os)) := by
  have hlg := hr.1.len
  have hlo := hr.2.len
  have hB1 : Below w.heap.size w (w.alloc (.cells #[.int .i64 x, .int .i64 y, .slice Ag ng cg, .slice Ao no co] 40)) := (Below.refl _ _).alloc (Nat.le_refl _) _
  have hB : Below w.heap.size w ((w.alloc (.cells #[.int .i64 x, .int .i64 y, .slice Ag ng cg, .slice Ao no co] 40)).alloc (.cells #[.int .i64 0, .int .i64 0, .slice none 0 0, .slice none 0 0] 40)) := hB1.alloc (by simp) _
  have hx0 : BxC ((w.alloc (.cells #[.int .i64 x, .int .i64 y, .slice Ag ng cg, .slice Ao no co] 40)).alloc (.cells #[.int .i64 0, .int .i64 0, .slice none 0 0, .slice none 0 0] 40)) w.heap.size x y Ag ng cg Ao no co := (BxC.new w _).below ((Below.refl _ _).alloc (Nat.le_refl _) _)
  have hr0 : BxC ((w.alloc (.cells #[.int .i64 x, .int .i64 y, .slice Ag ng cg, .slice Ao no co] 40)).alloc (.cells #[.int .i64 0, .int .i64 0, .slice none 0 0, .slice none 0 0] 40)) (w.heap.size + 1) 0 0 none 0 0 none 0 0 := by simpa using BxC.new (x := 0) (y := 0) (Ag := none) (ng := 0) (cg := 0) (Ao := none) (no := 0) (co := 0) (w.alloc (.cells #[.int .i64 x, .int .i64 y, .slice Ag ng cg, .slice Ao no co] 40)) 40
  have f0 : Fz ((w.alloc (.cells #[.int .i64 x, .int .i64 y, .slice Ag ng cg, .slice Ao no co] 40)).alloc (.cells #[.int .i64 0, .int .i64 0, .slice none 0 0, .slice none 0 0] 40)) (w.heap.size + 1) := by simpa using Fz.new (w.alloc (.cells #[.int .i64 x, .int .i64 y, .slice Ag ng cg, .slice Ao no co] 40)) #[.int .i64 0, .int .i64 0, .slice none 0 0, .slice none 0 0] 40
  have hs0 : ((w.alloc (.cells #[.int .i64 x, .int .i64 y, .slice Ag ng cg, .slice Ao no co] 40)).alloc (.cells #[.int .i64 0, .int .i64 0, .slice none 0 0, .slice none 0 0] 40)).heap.size = w.heap.size + 2 := by simp
  cases h0 : circB x y gs os with
  | false =>
    have HR : Hid (dropF x y gs os = none) := Lib.hid (by simp [dropF, h0])
    have H0 := Lib.hid h0; clear h0
    go_enter Try.func27, Try.ntmps27
    have hq := hx0; obtain ⟨k0, k1, k2, k3⟩ := hq
    go_wp2_with fail
    refine (ciGood_any x y Ag ng cg Ao no co gs os _ (hr.1.below hB (Nat.le_refl _)) (hr.2.below hB (Nat.le_refl _)) hng hno).mono ?_
    rintro e v1 ⟨rfl, hb1⟩
    rw [H0.out]
    clear k0 k1 k2 k3
    have hx1 := hx0.below hb1
    have hr1 := hr0.below hb1
    have f1 := f0.below hb1 (by rw [hs0]; omega)
    have hBv := hB.trans (hb1.mono hB.size)
    have hz1 := hb1.size
    rw [hs0] at hz1
    clear hx0 hr0 f0 hb1 hB hB1 hs0
    have hq := hr1; obtain ⟨r0, r1, r2, r3⟩ := hq
    have g0 := f1 0; have g1 := f1 1; have g2 := f1 2; have g3 := f1 3
    go_wp2
    have hq9 := BxC.set4 (hr1) 0 0 none 0 0 none 0 0
    obtain ⟨q0, q1, q2, q3⟩ := hq9
    refine bodyPost_ret (v := .tuple #[.agg #[.int .i64 0, .int .i64 0, .slice none 0 0, .slice none 0 0], .bool false]) (by simp [results, Try.results27, go_sem, q0, q1, q2, q3]) rfl ?_
    exact RetC.none_ (below_set4 hBv (by omega) _ _ _ _ _ _ _ _) HR.out rfl
  | true =>
    obtain ⟨hx, hy, hg3, ho3, hgB, hao⟩ := circB_bd h0
    have hgt0 := circB_gate_at h0 hlg
    rw [hlg] at hg3 hao
    rw [hlo] at ho3
    have H0 := Lib.hid h0; clear h0 hgB
    obtain ⟨X, hX1, hX2⟩ : ∃ X : Nat, (X : Int) ≤ x + y ∧ x + y ≤ X := ⟨(x + y).toNat, by omega, by omega⟩
    have hXt : (x + y).toNat = X := by omega
    have hgt : ∀ k : Nat, k < ng → GateIs (gg gs k) ((X : Int) + k) := fun k hk => by
      have h := hgt0 k hk
      rwa [show x + y = (X : Int) by omega] at h
    have hXe : Hid (x + y = (X : Int)) := Lib.hid (by omega)
    have hao' : allB 0 (((X + ng : Nat) : Int) - 1) os = true := by rw [show ((X + ng : Nat) : Int) - 1 = x + y + ng - 1 by omega]; exact hao
    have hdr := drop_ref (X := X) (gs := gs) (os := os) (fun j hj => hgt j (by omega)) (fun z hz => by have := allB_iff.1 hao z hz; omega)
    rw [hlg] at hdr
    have HF : Hid (dropF x y gs os = some ⟨x, y, (drs X gs (usedL X gs os) ng).1, pick (drs X gs (usedL X gs os) ng).2 os⟩) := Lib.hid (by unfold dropF; rw [H0.out, if_pos rfl, hXt, hlg, hdr.1, hdr.2])
    have HPl : Hid ((pick (drs X gs (usedL X gs os) ng).2 os).length = no) := Lib.hid (by rw [pick_len]; exact hlo)
    obtain ⟨kg, hkg⟩ : ∃ n, (drs X gs (usedL X gs os) ng).1.length = n := ⟨_, rfl⟩
    have HKg := Lib.hid hkg; clear hkg
    clear hgt0 hXt hdr hao
    go_enter Try.func27, Try.ntmps27
    have hq := hx0; obtain ⟨k0, k1, k2, k3⟩ := hq
    go_wp2_with fail
    refine (ciGood_any x y Ag ng cg Ao no co gs os _ (hr.1.below hB (Nat.le_refl _)) (hr.2.below hB (Nat.le_refl _)) hng hno).mono ?_
    rintro e v1 ⟨rfl, hb1⟩
    rw [H0.out]
    clear k0 k1 k2 k3
    have hx1 := hx0.below hb1
    have hr1 := hr0.below hb1
    have f1 := f0.below hb1 (by rw [hs0]; omega)
    have hBv := hB.trans (hb1.mono hB.size)
    have hz1 := hb1.size
    rw [hs0] at hz1
    clear hx0 hr0 f0 hb1 hB hB1 hs0
    have hq := hx1; obtain ⟨k0, k1, k2, k3⟩ := hq
    go_wp2_with fail
    refine (siDrop_any x y Ag ng cg Ao no co gs os X _ ⟨hr.1.below hBv (Nat.le_refl _), hr.2.below hBv (Nat.le_refl _)⟩ hg3 ho3 hx hy hXe hgt hao').mono ?_
    rintro e v2 hT
    obtain ⟨G, cG, A5, c5, rfl, hC, hb2⟩ := hT.open_ HKg.out HPl.out
    have hr2 := hr1.below hb2
    have f2 := f1.below hb2 hr1.lt
    have hB2 := hBv.trans (hb2.mono hBv.size)
    have hz2 := hb2.size
    clear k0 k1 k2 k3 hx1 hr1 f1
    have hq := hr2; obtain ⟨r0, r1, r2, r3⟩ := hq
    have g0 := f2 0; have g1 := f2 1; have g2 := f2 2; have g3 := f2 3
    go_wp2
    have hq9 := BxC.set4 (hr2) x y G kg cG A5 no c5
    obtain ⟨q0, q1, q2, q3⟩ := hq9
    refine bodyPost_ret (v := .tuple #[.agg #[.int .i64 x, .int .i64 y, .slice G kg cG, .slice A5 no c5], .bool true]) (by simp [results, Try.results27, go_sem, q0, q1, q2, q3]) rfl ?_
    exact RetC.some_ (below_set4 hB2 (by omega) _ _ _ _ _ _ _ _) HF.out HKg.out HPl.out rfl (by rw [set4_size]; exact ((hC.set4 (.inl (by omega)) _ _ _ _ _ _ _ _).lo_ (by omega)) |> fun h => h.hi_ (by simp))

set_option maxRecDepth 100000 in
set_option maxHeartbeats 3000000 in
theorem DropDead_any (x y : Int) (Ag : Option Addr) (ng cg : Nat) (Ao : Option Addr) (no co : Nat) (gs : List G3) (os : List Int) (w : World) (hr : RG w Ag ng gs ∧ RI w Ao no os) (hng : ng ≤ 2097152) (hno : no ≤ 2097152) :
    Calls Try.prog 28 #[.agg #[.int .i64 x, .int .i64 y, .slice Ag ng cg, .slice Ao no co]] w (RetC w (dropF x y gs os)) := by
  have hlg := hr.1.len
  have hlo := hr.2.len
  have hB1 : Below w.heap.size w (w.alloc (.cells #[.int .i64 x, .int .i64 y, .slice Ag ng cg, .slice Ao no co] 40)) := (Below.refl _ _).alloc (Nat.le_refl _) _
  have hB : Below w.heap.size w ((w.alloc (.cells #[.int .i64 x, .int .i64 y, .slice Ag ng cg, .slice Ao no co] 40)).alloc (.cells #[.int .i64 0, .int .i64 0, .slice none 0 0, .slice none 0 0] 40)) := hB1.alloc (by simp) _
  have hx0 : BxC ((w.alloc (.cells #[.int .i64 x, .int .i64 y, .slice Ag ng cg, .slice Ao no co] 40)).alloc (.cells #[.int .i64 0, .int .i64 0, .slice none 0 0, .slice none 0 0] 40)) w.heap.size x y Ag ng cg Ao no co := (BxC.new w _).below ((Below.refl _ _).alloc (Nat.le_refl _) _)
  have hr0 : BxC ((w.alloc (.cells #[.int .i64 x, .int .i64 y, .slice Ag ng cg, .slice Ao no co] 40)).alloc (.cells #[.int .i64 0, .int .i64 0, .slice none 0 0, .slice none 0 0] 40)) (w.heap.size + 1) 0 0 none 0 0 none 0 0 := by simpa using BxC.new (x := 0) (y := 0) (Ag := none) (ng := 0) (cg := 0) (Ao := none) (no := 0) (co := 0) (w.alloc (.cells #[.int .i64 x, .int .i64 y, .slice Ag ng cg, .slice Ao no co] 40)) 40
  have f0 : Fz ((w.alloc (.cells #[.int .i64 x, .int .i64 y, .slice Ag ng cg, .slice Ao no co] 40)).alloc (.cells #[.int .i64 0, .int .i64 0, .slice none 0 0, .slice none 0 0] 40)) (w.heap.size + 1) := by simpa using Fz.new (w.alloc (.cells #[.int .i64 x, .int .i64 y, .slice Ag ng cg, .slice Ao no co] 40)) #[.int .i64 0, .int .i64 0, .slice none 0 0, .slice none 0 0] 40
  have hs0 : ((w.alloc (.cells #[.int .i64 x, .int .i64 y, .slice Ag ng cg, .slice Ao no co] 40)).alloc (.cells #[.int .i64 0, .int .i64 0, .slice none 0 0, .slice none 0 0] 40)).heap.size = w.heap.size + 2 := by simp
  cases h0 : circB x y gs os with
  | false =>
    have HR : Hid (dropF x y gs os = none) := Lib.hid (by simp [dropF, h0])
    have H0 := Lib.hid h0; clear h0
    go_enter Try.func28, Try.ntmps28
    have hq := hx0; obtain ⟨k0, k1, k2, k3⟩ := hq
    go_wp2_with fail
    refine (IsCircuit_any x y Ag ng cg Ao no co gs os _ (hr.1.below hB (Nat.le_refl _)) (hr.2.below hB (Nat.le_refl _)) hng hno).mono ?_
    rintro e v1 ⟨rfl, hb1⟩
    rw [H0.out]
    clear k0 k1 k2 k3
    have hx1 := hx0.below hb1
    have hr1 := hr0.below hb1
    have f1 := f0.below hb1 (by rw [hs0]; omega)
    have hBv := hB.trans (hb1.mono hB.size)
    have hz1 := hb1.size
    rw [hs0] at hz1
    clear hx0 hr0 f0 hb1 hB hB1 hs0
    have hq := hr1; obtain ⟨r0, r1, r2, r3⟩ := hq
    have g0 := f1 0; have g1 := f1 1; have g2 := f1 2; have g3 := f1 3
    go_wp2
    have hq9 := BxC.set4 (hr1) 0 0 none 0 0 none 0 0
    obtain ⟨q0, q1, q2, q3⟩ := hq9
    refine bodyPost_ret (v := .tuple #[.agg #[.int .i64 0, .int .i64 0, .slice none 0 0, .slice none 0 0], .bool false]) (by simp [results, Try.results28, go_sem, q0, q1, q2, q3]) rfl ?_
    exact RetC.none_ (below_set4 hBv (by omega) _ _ _ _ _ _ _ _) HR.out rfl
  | true =>
    obtain ⟨hx, hy, hg3, ho3, hgB, hao⟩ := circB_bd h0
    have hgt0 := circB_gate_at h0 hlg
    rw [hlg] at hg3 hao
    rw [hlo] at ho3
    have H0 := Lib.hid h0; clear h0 hgB
    obtain ⟨X, hX1, hX2⟩ : ∃ X : Nat, (X : Int) ≤ x + y ∧ x + y ≤ X := ⟨(x + y).toNat, by omega, by omega⟩
    have hXt : (x + y).toNat = X := by omega
    have hgt : ∀ k : Nat, k < ng → GateIs (gg gs k) ((X : Int) + k) := fun k hk => by
      have h := hgt0 k hk
      rwa [show x + y = (X : Int) by omega] at h
    have hXe : Hid (x + y = (X : Int)) := Lib.hid (by omega)
    have hao' : allB 0 (((X + ng : Nat) : Int) - 1) os = true := by rw [show ((X + ng : Nat) : Int) - 1 = x + y + ng - 1 by omega]; exact hao
    have hdr := drop_ref (X := X) (gs := gs) (os := os) (fun j hj => hgt j (by omega)) (fun z hz => by have := allB_iff.1 hao z hz; omega)
    rw [hlg] at hdr
    have HF : Hid (dropF x y gs os = some ⟨x, y, (drp X gs (usedL X gs os) ng).1, pick (drp X gs (usedL X gs os) ng).2 os⟩) := Lib.hid (by unfold dropF; rw [H0.out, if_pos rfl, hXt, hlg])
    have HPl : Hid ((pick (drp X gs (usedL X gs os) ng).2 os).length = no) := Lib.hid (by rw [pick_len]; exact hlo)
    obtain ⟨kg, hkg⟩ : ∃ n, (drp X gs (usedL X gs os) ng).1.length = n := ⟨_, rfl⟩
    have HKg := Lib.hid hkg; clear hkg
    clear hgt0 hXt hdr hao
    go_enter Try.func28, Try.ntmps28
    have hq := hx0; obtain ⟨k0, k1, k2, k3⟩ := hq
    go_wp2_with fail
    refine (IsCircuit_any x y Ag ng cg Ao no co gs os _ (hr.1.below hB (Nat.le_refl _)) (hr.2.below hB (Nat.le_refl _)) hng hno).mono ?_
    rintro e v1 ⟨rfl, hb1⟩
    rw [H0.out]
    clear k0 k1 k2 k3
    have hx1 := hx0.below hb1
    have hr1 := hr0.below hb1
    have f1 := f0.below hb1 (by rw [hs0]; omega)
    have hBv := hB.trans (hb1.mono hB.size)
    have hz1 := hb1.size
    rw [hs0] at hz1
    clear hx0 hr0 f0 hb1 hB hB1 hs0
    have hq := hx1; obtain ⟨k0, k1, k2, k3⟩ := hq
    go_wp2_with fail
    refine (dropDead_any x y Ag ng cg Ao no co gs os X _ ⟨hr.1.below hBv (Nat.le_refl _), hr.2.below hBv (Nat.le_refl _)⟩ hg3 ho3 hx hy hXe hgt hao').mono ?_
    rintro e v2 hT
    obtain ⟨G, cG, A5, c5, rfl, hC, hb2⟩ := hT.open_ HKg.out HPl.out
    have hr2 := hr1.below hb2
    have f2 := f1.below hb2 hr1.lt
    have hB2 := hBv.trans (hb2.mono hBv.size)
    have hz2 := hb2.size
    clear k0 k1 k2 k3 hx1 hr1 f1
    have hq := hr2; obtain ⟨r0, r1, r2, r3⟩ := hq
    have g0 := f2 0; have g1 := f2 1; have g2 := f2 2; have g3 := f2 3
    go_wp2
    have hq9 := BxC.set4 (hr2) x y G kg cG A5 no c5
    obtain ⟨q0, q1, q2, q3⟩ := hq9
    refine bodyPost_ret (v := .tuple #[.agg #[.int .i64 x, .int .i64 y, .slice G kg cG, .slice A5 no c5], .bool true]) (by simp [results, Try.results28, go_sem, q0, q1, q2, q3]) rfl ?_
    exact RetC.some_ (below_set4 hB2 (by omega) _ _ _ _ _ _ _ _) HF.out HKg.out HPl.out rfl (by rw [set4_size]; exact ((hC.set4 (.inl (by omega)) _ _ _ _ _ _ _ _).lo_ (by omega)) |> fun h => h.hi_ (by simp))

end Go.Proofs.Ytadgmbkpbgcdjaa
