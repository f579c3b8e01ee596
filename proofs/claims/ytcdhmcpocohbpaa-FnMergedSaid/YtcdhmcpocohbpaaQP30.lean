/- DropDead, both sides. Lengths below 2^21. Plain facts of circuits' shapes: counts of kinds, depths, used wires, two circuits beside each other. No program in sight. CountGates and UsedWires, both hands. Lengths below 2^21. -/
import Derived.Test.YtcdhmcpocohbpaaQP29
import Derived.Test.YtcdhmcpocohbpaaQP07
import Derived.Test.YtcdhmcpocohbpaaQP16
import Derived.Test.YtcdhmcpocohbpaaQP17
import Derived.Test.YtcdhmcpocohbpaaQP28
namespace Go.Proofs.Ytcdhmcpocohbpaa
open Go.RowKit
set_option linter.unusedVariables false
set_option linter.unusedSimpArgs false
attribute [local go_sem] sepAt sepUpon pureAt pureUpon
set_option maxRecDepth 100000 in
set_option maxHeartbeats 3000000 in
theorem spec_DropDead_any (x y : Int) (Ag : Option Addr) (ng cg : Nat) (Ao : Option Addr) (no co : Nat) (gs : List G3) (os : List Int) (w : World) (hr : RG w Ag ng gs ∧ RI w Ao no os) (hng : ng ≤ 2097152) (hno : no ≤ 2097152) :
    Calls Try.prog 8 #[.agg #[.int .i64 x, .int .i64 y, .slice Ag ng cg, .slice Ao no co]] w (RetC w (dropF x y gs os)) := by
  have hlg := hr.1.len
  have hlo := hr.2.len
  have hB1 : Below w.heap.size w (w.alloc (.cells #[.int .i64 x, .int .i64 y, .slice Ag ng cg, .slice Ao no co] 26)) := (Below.refl _ _).alloc (Nat.le_refl _) _
  have hB : Below w.heap.size w ((w.alloc (.cells #[.int .i64 x, .int .i64 y, .slice Ag ng cg, .slice Ao no co] 26)).alloc (.cells #[.int .i64 0, .int .i64 0, .slice none 0 0, .slice none 0 0] 26)) := hB1.alloc (by simp) _
  have hx0 : BxC ((w.alloc (.cells #[.int .i64 x, .int .i64 y, .slice Ag ng cg, .slice Ao no co] 26)).alloc (.cells #[.int .i64 0, .int .i64 0, .slice none 0 0, .slice none 0 0] 26)) w.heap.size x y Ag ng cg Ao no co := (BxC.new w _).below ((Below.refl _ _).alloc (Nat.le_refl _) _)
  have hr0 : BxC ((w.alloc (.cells #[.int .i64 x, .int .i64 y, .slice Ag ng cg, .slice Ao no co] 26)).alloc (.cells #[.int .i64 0, .int .i64 0, .slice none 0 0, .slice none 0 0] 26)) (w.heap.size + 1) 0 0 none 0 0 none 0 0 := by simpa using BxC.new (x := 0) (y := 0) (Ag := none) (ng := 0) (cg := 0) (Ao := none) (no := 0) (co := 0) (w.alloc (.cells #[.int .i64 x, .int .i64 y, .slice Ag ng cg, .slice Ao no co] 26)) 26
  have f0 : Fz ((w.alloc (.cells #[.int .i64 x, .int .i64 y, .slice Ag ng cg, .slice Ao no co] 26)).alloc (.cells #[.int .i64 0, .int .i64 0, .slice none 0 0, .slice none 0 0] 26)) (w.heap.size + 1) := by simpa using Fz.new (w.alloc (.cells #[.int .i64 x, .int .i64 y, .slice Ag ng cg, .slice Ao no co] 26)) #[.int .i64 0, .int .i64 0, .slice none 0 0, .slice none 0 0] 26
  have hs0 : ((w.alloc (.cells #[.int .i64 x, .int .i64 y, .slice Ag ng cg, .slice Ao no co] 26)).alloc (.cells #[.int .i64 0, .int .i64 0, .slice none 0 0, .slice none 0 0] 26)).heap.size = w.heap.size + 2 := by simp
  cases h0 : circB x y gs os with
  | false =>
    have HR : Hid (dropF x y gs os = none) := Lib.hid (by simp [dropF, h0])
    have H0 := Lib.hid h0; clear h0
    go_enter Try.func8, Try.ntmps8
    have hq := hx0; obtain ⟨k0, k1, k2, k3⟩ := hq
    go_wp2_with fail
    refine (ciGood_any x y Ag ng cg Ao no co gs os _ (hr.1.below hB (Nat.le_refl _)) (hr.2.below hB (Nat.le_refl _)) hng hno).mono ?_
    rintro e v1 ⟨rfl, hb1⟩
    rw [H0.out]
    clear k0 k1 k2 k3
    have hx1 := hx0.below hb1
    have hr1 := hr0.below hb1
    have f1 := f0.below hb1 (by rw [hs0]; omega)
    have hBv := hB.trans (hb1.mono hB.size)
    have hz1 := hb1.size
    rw [hs0] at hz1
    clear hx0 hr0 f0 hb1 hB hB1 hs0
    have hq := hr1; obtain ⟨r0, r1, r2, r3⟩ := hq
    have g0 := f1 0; have g1 := f1 1; have g2 := f1 2; have g3 := f1 3
    go_wp2
    have hq9 := BxC.set4 (hr1) 0 0 none 0 0 none 0 0
    obtain ⟨q0, q1, q2, q3⟩ := hq9
    refine bodyPost_ret (v := .tuple #[.agg #[.int .i64 0, .int .i64 0, .slice none 0 0, .slice none 0 0], .bool false]) (by simp [results, Try.results8, go_sem, q0, q1, q2, q3]) rfl ?_
    exact RetC.none_ (below_set4 hBv (by omega) _ _ _ _ _ _ _ _) HR.out rfl
  | true =>
    obtain ⟨hx, hy, hg3, ho3, hgB, hao⟩ := circB_bd h0
    have hgt0 := circB_gate_at h0 hlg
    rw [hlg] at hg3 hao
    rw [hlo] at ho3
    have H0 := Lib.hid h0; clear h0 hgB
    obtain ⟨X, hX1, hX2⟩ : ∃ X : Nat, (X : Int) ≤ x + y ∧ x + y ≤ X := ⟨(x + y).toNat, by omega, by omega⟩
    have hXt : (x + y).toNat = X := by omega
    have hgt : ∀ k : Nat, k < ng → GateIs (gg gs k) ((X : Int) + k) := fun k hk => by
      have h := hgt0 k hk
      rwa [show x + y = (X : Int) by omega] at h
    have hXe : Hid (x + y = (X : Int)) := Lib.hid (by omega)
    have hao' : allB 0 (((X + ng : Nat) : Int) - 1) os = true := by rw [show ((X + ng : Nat) : Int) - 1 = x + y + ng - 1 by omega]; exact hao
    have hdr := drop_ref (X := X) (gs := gs) (os := os) (fun j hj => hgt j (by omega)) (fun z hz => by have := allB_iff.1 hao z hz; omega)
    rw [hlg] at hdr
    have HF : Hid (dropF x y gs os = some ⟨x, y, (drs X gs (usedL X gs os) ng).1, pick (drs X gs (usedL X gs os) ng).2 os⟩) := Lib.hid (by unfold dropF; rw [H0.out, if_pos rfl, hXt, hlg, hdr.1, hdr.2])
    have HPl : Hid ((pick (drs X gs (usedL X gs os) ng).2 os).length = no) := Lib.hid (by rw [pick_len]; exact hlo)
    obtain ⟨kg, hkg⟩ : ∃ n, (drs X gs (usedL X gs os) ng).1.length = n := ⟨_, rfl⟩
    have HKg := Lib.hid hkg; clear hkg
    clear hgt0 hXt hdr hao
    go_enter Try.func8, Try.ntmps8
    have hq := hx0; obtain ⟨k0, k1, k2, k3⟩ := hq
    go_wp2_with fail
    refine (ciGood_any x y Ag ng cg Ao no co gs os _ (hr.1.below hB (Nat.le_refl _)) (hr.2.below hB (Nat.le_refl _)) hng hno).mono ?_
    rintro e v1 ⟨rfl, hb1⟩
    rw [H0.out]
    clear k0 k1 k2 k3
    have hx1 := hx0.below hb1
    have hr1 := hr0.below hb1
    have f1 := f0.below hb1 (by rw [hs0]; omega)
    have hBv := hB.trans (hb1.mono hB.size)
    have hz1 := hb1.size
    rw [hs0] at hz1
    clear hx0 hr0 f0 hb1 hB hB1 hs0
    have hq := hx1; obtain ⟨k0, k1, k2, k3⟩ := hq
    go_wp2_with fail
    refine (siDrop_any x y Ag ng cg Ao no co gs os X _ ⟨hr.1.below hBv (Nat.le_refl _), hr.2.below hBv (Nat.le_refl _)⟩ (by omega) ho3 hx hy hXe hgt hao').mono ?_
    rintro e v2 hT
    obtain ⟨G, cG, A5, c5, rfl, hC, hb2⟩ := hT.open_ HKg.out HPl.out
    have hr2 := hr1.below hb2
    have f2 := f1.below hb2 hr1.lt
    have hB2 := hBv.trans (hb2.mono hBv.size)
    have hz2 := hb2.size
    clear k0 k1 k2 k3 hx1 hr1 f1
    have hq := hr2; obtain ⟨r0, r1, r2, r3⟩ := hq
    have g0 := f2 0; have g1 := f2 1; have g2 := f2 2; have g3 := f2 3
    go_wp2
    have hq9 := BxC.set4 (hr2) x y G kg cG A5 no c5
    obtain ⟨q0, q1, q2, q3⟩ := hq9
    refine bodyPost_ret (v := .tuple #[.agg #[.int .i64 x, .int .i64 y, .slice G kg cG, .slice A5 no c5], .bool true]) (by simp [results, Try.results8, go_sem, q0, q1, q2, q3]) rfl ?_
    exact RetC.some_ (below_set4 hB2 (by omega) _ _ _ _ _ _ _ _) HF.out HKg.out HPl.out rfl (by rw [set4_size]; exact ((hC.set4 (.inl (by omega)) _ _ _ _ _ _ _ _).lo_ (by omega)) |> fun h => h.hi_ (by simp))
set_option maxRecDepth 100000 in
set_option maxHeartbeats 3000000 in
theorem DropDead_any (x y : Int) (Ag : Option Addr) (ng cg : Nat) (Ao : Option Addr) (no co : Nat) (gs : List G3) (os : List Int) (w : World) (hr : RG w Ag ng gs ∧ RI w Ao no os) (hng : ng ≤ 2097152) (hno : no ≤ 2097152) :
    Calls Try.prog 7 #[.agg #[.int .i64 x, .int .i64 y, .slice Ag ng cg, .slice Ao no co]] w (RetC w (dropF x y gs os)) := by
  have hlg := hr.1.len
  have hlo := hr.2.len
  have hB1 : Below w.heap.size w (w.alloc (.cells #[.int .i64 x, .int .i64 y, .slice Ag ng cg, .slice Ao no co] 26)) := (Below.refl _ _).alloc (Nat.le_refl _) _
  have hB : Below w.heap.size w ((w.alloc (.cells #[.int .i64 x, .int .i64 y, .slice Ag ng cg, .slice Ao no co] 26)).alloc (.cells #[.int .i64 0, .int .i64 0, .slice none 0 0, .slice none 0 0] 26)) := hB1.alloc (by simp) _
  have hx0 : BxC ((w.alloc (.cells #[.int .i64 x, .int .i64 y, .slice Ag ng cg, .slice Ao no co] 26)).alloc (.cells #[.int .i64 0, .int .i64 0, .slice none 0 0, .slice none 0 0] 26)) w.heap.size x y Ag ng cg Ao no co := (BxC.new w _).below ((Below.refl _ _).alloc (Nat.le_refl _) _)
  have hr0 : BxC ((w.alloc (.cells #[.int .i64 x, .int .i64 y, .slice Ag ng cg, .slice Ao no co] 26)).alloc (.cells #[.int .i64 0, .int .i64 0, .slice none 0 0, .slice none 0 0] 26)) (w.heap.size + 1) 0 0 none 0 0 none 0 0 := by simpa using BxC.new (x := 0) (y := 0) (Ag := none) (ng := 0) (cg := 0) (Ao := none) (no := 0) (co := 0) (w.alloc (.cells #[.int .i64 x, .int .i64 y, .slice Ag ng cg, .slice Ao no co] 26)) 26
  have f0 : Fz ((w.alloc (.cells #[.int .i64 x, .int .i64 y, .slice Ag ng cg, .slice Ao no co] 26)).alloc (.cells #[.int .i64 0, .int .i64 0, .slice none 0 0, .slice none 0 0] 26)) (w.heap.size + 1) := by simpa using Fz.new (w.alloc (.cells #[.int .i64 x, .int .i64 y, .slice Ag ng cg, .slice Ao no co] 26)) #[.int .i64 0, .int .i64 0, .slice none 0 0, .slice none 0 0] 26
  have hs0 : ((w.alloc (.cells #[.int .i64 x, .int .i64 y, .slice Ag ng cg, .slice Ao no co] 26)).alloc (.cells #[.int .i64 0, .int .i64 0, .slice none 0 0, .slice none 0 0] 26)).heap.size = w.heap.size + 2 := by simp
  cases h0 : circB x y gs os with
  | false =>
    have HR : Hid (dropF x y gs os = none) := Lib.hid (by simp [dropF, h0])
    have H0 := Lib.hid h0; clear h0
    go_enter Try.func7, Try.ntmps7
    have hq := hx0; obtain ⟨k0, k1, k2, k3⟩ := hq
    go_wp2_with fail
    refine (IsCircuit_any x y Ag ng cg Ao no co gs os _ (hr.1.below hB (Nat.le_refl _)) (hr.2.below hB (Nat.le_refl _)) hng hno).mono ?_
    rintro e v1 ⟨rfl, hb1⟩
    rw [H0.out]
    clear k0 k1 k2 k3
    have hx1 := hx0.below hb1
    have hr1 := hr0.below hb1
    have f1 := f0.below hb1 (by rw [hs0]; omega)
    have hBv := hB.trans (hb1.mono hB.size)
    have hz1 := hb1.size
    rw [hs0] at hz1
    clear hx0 hr0 f0 hb1 hB hB1 hs0
    have hq := hr1; obtain ⟨r0, r1, r2, r3⟩ := hq
    have g0 := f1 0; have g1 := f1 1; have g2 := f1 2; have g3 := f1 3
    go_wp2
    have hq9 := BxC.set4 (hr1) 0 0 none 0 0 none 0 0
    obtain ⟨q0, q1, q2, q3⟩ := hq9
    refine bodyPost_ret (v := .tuple #[.agg #[.int .i64 0, .int .i64 0, .slice none 0 0, .slice none 0 0], .bool false]) (by simp [results, Try.results7, go_sem, q0, q1, q2, q3]) rfl ?_
    exact RetC.none_ (below_set4 hBv (by omega) _ _ _ _ _ _ _ _) HR.out rfl
  | true =>
    obtain ⟨hx, hy, hg3, ho3, hgB, hao⟩ := circB_bd h0
    have hgt0 := circB_gate_at h0 hlg
    rw [hlg] at hg3 hao
    rw [hlo] at ho3
    have H0 := Lib.hid h0; clear h0 hgB
    obtain ⟨X, hX1, hX2⟩ : ∃ X : Nat, (X : Int) ≤ x + y ∧ x + y ≤ X := ⟨(x + y).toNat, by omega, by omega⟩
    have hXt : (x + y).toNat = X := by omega
    have hgt : ∀ k : Nat, k < ng → GateIs (gg gs k) ((X : Int) + k) := fun k hk => by
      have h := hgt0 k hk
      rwa [show x + y = (X : Int) by omega] at h
    have hXe : Hid (x + y = (X : Int)) := Lib.hid (by omega)
    have hao' : allB 0 (((X + ng : Nat) : Int) - 1) os = true := by rw [show ((X + ng : Nat) : Int) - 1 = x + y + ng - 1 by omega]; exact hao
    have hdr := drop_ref (X := X) (gs := gs) (os := os) (fun j hj => hgt j (by omega)) (fun z hz => by have := allB_iff.1 hao z hz; omega)
    rw [hlg] at hdr
    have HF : Hid (dropF x y gs os = some ⟨x, y, (drp X gs (usedL X gs os) ng).1, pick (drp X gs (usedL X gs os) ng).2 os⟩) := Lib.hid (by unfold dropF; rw [H0.out, if_pos rfl, hXt, hlg])
    have HPl : Hid ((pick (drp X gs (usedL X gs os) ng).2 os).length = no) := Lib.hid (by rw [pick_len]; exact hlo)
    obtain ⟨kg, hkg⟩ : ∃ n, (drp X gs (usedL X gs os) ng).1.length = n := ⟨_, rfl⟩
    have HKg := Lib.hid hkg; clear hkg
    clear hgt0 hXt hdr hao
    go_enter Try.func7, Try.ntmps7
    have hq := hx0; obtain ⟨k0, k1, k2, k3⟩ := hq
    go_wp2_with fail
    refine (IsCircuit_any x y Ag ng cg Ao no co gs os _ (hr.1.below hB (Nat.le_refl _)) (hr.2.below hB (Nat.le_refl _)) hng hno).mono ?_
    rintro e v1 ⟨rfl, hb1⟩
    rw [H0.out]
    clear k0 k1 k2 k3
    have hx1 := hx0.below hb1
    have hr1 := hr0.below hb1
    have f1 := f0.below hb1 (by rw [hs0]; omega)
    have hBv := hB.trans (hb1.mono hB.size)
    have hz1 := hb1.size
    rw [hs0] at hz1
    clear hx0 hr0 f0 hb1 hB hB1 hs0
    have hq := hx1; obtain ⟨k0, k1, k2, k3⟩ := hq
    go_wp2_with fail
    refine (dropDead_any x y Ag ng cg Ao no co gs os X _ ⟨hr.1.below hBv (Nat.le_refl _), hr.2.below hBv (Nat.le_refl _)⟩ (by omega) ho3 hx hy hXe hgt hao').mono ?_
    rintro e v2 hT
    obtain ⟨G, cG, A5, c5, rfl, hC, hb2⟩ := hT.open_ HKg.out HPl.out
    have hr2 := hr1.below hb2
    have f2 := f1.below hb2 hr1.lt
    have hB2 := hBv.trans (hb2.mono hBv.size)
    have hz2 := hb2.size
    clear k0 k1 k2 k3 hx1 hr1 f1
    have hq := hr2; obtain ⟨r0, r1, r2, r3⟩ := hq
    have g0 := f2 0; have g1 := f2 1; have g2 := f2 2; have g3 := f2 3
    go_wp2
    have hq9 := BxC.set4 (hr2) x y G kg cG A5 no c5
    obtain ⟨q0, q1, q2, q3⟩ := hq9
    refine bodyPost_ret (v := .tuple #[.agg #[.int .i64 x, .int .i64 y, .slice G kg cG, .slice A5 no c5], .bool true]) (by simp [results, Try.results7, go_sem, q0, q1, q2, q3]) rfl ?_
    exact RetC.some_ (below_set4 hB2 (by omega) _ _ _ _ _ _ _ _) HF.out HKg.out HPl.out rfl (by rw [set4_size]; exact ((hC.set4 (.inl (by omega)) _ _ _ _ _ _ _ _).lo_ (by omega)) |> fun h => h.hi_ (by simp))
end Go.Proofs.Ytcdhmcpocohbpaa
namespace Go.Proofs.Ytcdhmcpocohbpaa
open Go.RowKit
set_option linter.unusedVariables false
set_option linter.unusedSimpArgs false
def dv (b : Bool) (g : G3) (d : List Int) : Int :=
  (if g.k = 0 ∨ g.k = 1 then max (gi d g.a.toNat) (gi d g.b.toNat) else if g.k = 2 then gi d g.a.toNat else 0) + (if b = true then (if g.k = 1 then 1 else 0) else 1)
theorem circB_is {x y : Int} {gs : List G3} {os : List Int} (h : circB x y gs os = true) : (0 ≤ x ∧ x ≤ 20) ∧ (0 ≤ y ∧ y ≤ 20) ∧ gs.length ≤ 300 ∧ os.length ≤ 40 ∧ (∀ k : Nat, k < gs.length → GateIs (gg gs k) (x + y + k)) ∧ ∀ z ∈ os, 0 ≤ z ∧ z < x + y + gs.length := by
  have hb := circB_bd h
  refine ⟨hb.1, hb.2.1, hb.2.2.1, hb.2.2.2.1, circB_gate_at h rfl, fun z hz => ?_⟩
  have := allB_iff.1 hb.2.2.2.2.2 z hz
  omega
def srt (l : List Int) : Prop := l.Pairwise (· < ·)
theorem putL_nil (x : Int) : putL [] x = [x] := by simp [putL, lessN]
theorem putL_cons (a : Int) (l : List Int) (x : Int) : putL (a :: l) x = if a < x then a :: putL l x else if a = x then a :: l else x :: a :: l := by
  unfold putL
  by_cases h : a < x
  · have e : lessN (a :: l) x = lessN l x + 1 := by simp [lessN, h]
    have g : gi (a :: l) (lessN l x + 1) = gi l (lessN l x) := by simp [gi]
    rw [if_pos h, e, g]
    by_cases h2 : gi l (lessN l x) = x ∧ lessN l x < l.length
    · rw [if_pos h2, if_pos ⟨h2.1, by simpa using h2.2⟩]
    · rw [if_neg h2, if_neg (fun hc => h2 ⟨hc.1, by simpa using hc.2⟩)]
      simp
  · have e : lessN (a :: l) x = 0 := by simp [lessN, h]
    have g : gi (a :: l) 0 = a := rfl
    rw [if_neg h, e, g]
    by_cases h2 : a = x
    · rw [if_pos h2, if_pos ⟨h2, by simp⟩]
    · rw [if_neg h2, if_neg (fun hc => h2 hc.1)]
      simp
theorem putL_srt {l : List Int} (h : srt l) (x : Int) : srt (putL l x) := by
  induction l with
  | nil => rw [putL_nil]; exact List.pairwise_singleton _ _
  | cons a l ih =>
    have hc := List.pairwise_cons.1 h
    rw [putL_cons]
    split
    · rename_i hax
      refine List.pairwise_cons.2 ⟨fun z hz => ?_, ih hc.2⟩
      rcases putL_mem.1 hz with rfl | hz
      · exact hax
      · exact hc.1 z hz
    · rename_i hax
      split
      · exact h
      · rename_i hne
        refine List.pairwise_cons.2 ⟨fun z hz => ?_, h⟩
        rcases List.mem_cons.1 hz with rfl | hz
        · omega
        · have := hc.1 z hz; omega
theorem puts_srt {xs : List Int} : ∀ {l : List Int}, srt l → srt (puts l xs) := by
  induction xs with
  | nil => intro l h; exact h
  | cons a xs ih => intro l h; exact ih (putL_srt h a)
theorem usd_srt {X : Nat} {gs : List G3} : ∀ (k : Nat) {L : List Int}, srt L → srt (usd X gs k L) := by
  intro k
  induction k with
  | zero => intro L h; exact h
  | succ k ih =>
    intro L h
    refine ih ?_
    unfold stp
    split
    · exact puts_srt h
    · exact h
theorem srt_ext : ∀ {l m : List Int}, srt l → srt m → (∀ z, z ∈ l ↔ z ∈ m) → l = m := by
  intro l
  induction l with
  | nil =>
    intro m _ _ h
    cases m with
    | nil => rfl
    | cons b m => have := (h b).2 (by simp); simp at this
  | cons a l ih =>
    intro m hl hm h
    cases m with
    | nil => have := (h a).1 (by simp); simp at this
    | cons b m =>
      have cl := List.pairwise_cons.1 hl
      have cm := List.pairwise_cons.1 hm
      have hab : a = b := by
        have h1 := (h a).1 (by simp)
        have h2 := (h b).2 (by simp)
        rcases List.mem_cons.1 h1 with h1 | h1
        · exact h1
        · rcases List.mem_cons.1 h2 with h2 | h2
          · exact h2.symm
          · have := cl.1 b h2; have := cm.1 a h1; omega
      subst hab
      congr 1
      refine ih cl.2 cm.2 fun z => ⟨fun hz => ?_, fun hz => ?_⟩
      · rcases List.mem_cons.1 ((h z).1 (by simp [hz])) with rfl | h3
        · have := cl.1 z hz; omega
        · exact h3
      · rcases List.mem_cons.1 ((h z).2 (by simp [hz])) with rfl | h3
        · have := cm.1 z hz; omega
        · exact h3
def rowK (L : List Int) : Nat → List Int
  | 0 => []
  | k + 1 => if inL L (k : Int) = true then rowK L k ++ [(k : Int)] else rowK L k
theorem rowK_mem {L : List Int} : ∀ (k : Nat) (z : Int), z ∈ rowK L k ↔ z ∈ L ∧ 0 ≤ z ∧ z < k := by
  intro k
  induction k with
  | zero =>
    intro z
    constructor
    · intro h; cases h
    · rintro ⟨_, h1, h2⟩; omega
  | succ k ih =>
    intro z
    rw [rowK]
    by_cases h : inL L (k : Int) = true
    · have hk : (k : Int) ∈ L := by unfold inL at h; exact of_decide_eq_true h
      rw [if_pos h, List.mem_append, ih z]
      constructor
      · rintro (h1 | h1)
        · exact ⟨h1.1, h1.2.1, by omega⟩
        · have : z = k := by simpa using h1
          subst this; exact ⟨hk, by omega, by omega⟩
      · rintro ⟨h1, h2, h3⟩
        by_cases hz : z = (k : Int)
        · right; simp [hz]
        · left; exact ⟨h1, h2, by omega⟩
    · have hk : ¬ (k : Int) ∈ L := fun hc => h (by unfold inL; exact decide_eq_true hc)
      rw [if_neg h, ih z]
      constructor
      · rintro ⟨h1, h2, h3⟩; exact ⟨h1, h2, by omega⟩
      · rintro ⟨h1, h2, h3⟩
        refine ⟨h1, h2, ?_⟩
        have : z ≠ (k : Int) := fun hc => hk (hc ▸ h1)
        omega
theorem rowK_srt {L : List Int} : ∀ k : Nat, srt (rowK L k) := by
  intro k
  induction k with
  | zero => exact List.Pairwise.nil
  | succ k ih =>
    rw [rowK]
    split
    · refine List.pairwise_append.2 ⟨ih, List.pairwise_singleton _ _, fun a ha b hb => ?_⟩
      have := (rowK_mem k a).1 ha
      have : b = k := by simpa using hb
      omega
    · exact ih
theorem rowK_len (L : List Int) (k : Nat) : (rowK L k).length ≤ k := by
  induction k with
  | zero => simp [rowK]
  | succ k ih =>
    rw [rowK]
    split
    · simp; omega
    · omega
theorem rowK_used {X : Nat} {gs : List G3} {os : List Int} {n : Nat} (hg : ∀ j, j < gs.length → GateIs (gg gs j) ((X : Int) + j)) (ho : ∀ z ∈ os, 0 ≤ z ∧ z < (X : Int) + gs.length) (hn : n = X + gs.length) : rowK (usedL X gs os) n = usedL X gs os := by
  refine srt_ext (rowK_srt n) (usd_srt _ (puts_srt List.Pairwise.nil)) fun z => ?_
  rw [rowK_mem]
  have hb := usd_bd (X := X) (gs := gs) (m := gs.length) (L := puts [] os) (n := (X : Int) + gs.length) hg (Int.le_refl _) (fun z hz => by
    rcases puts_mem.1 hz with h | h
    · exact ho z h
    · cases h)
  constructor
  · exact fun h => h.1
  · intro h
    have := hb z h
    exact ⟨h, this.1, by omega⟩
theorem used_outs {X : Nat} {gs : List G3} {os : List Int} : ∀ z ∈ os, z ∈ usedL X gs os := fun z hz => usd_mono (puts_mem.2 (.inl hz))
def uwF (x y : Int) (gs : List G3) (os : List Int) : Option (List Int) := if circB x y gs os = true then some (usedL (x + y).toNat gs os) else none
theorem GateIs.kd {g : G3} {n : Int} (h : GateIs g n) : 0 ≤ g.k ∧ g.k ≤ 3 := by cases h <;> omega
theorem uw_all {x y : Int} {gs : List G3} {os : List Int} {U : List Int} (h : uwF x y gs os = some U) : U.length ≤ 400 ∧ ∀ z ∈ os, z ∈ U := by
  unfold uwF at h
  split at h
  · rename_i hc
    injection h with h
    obtain ⟨hx, hy, hg, ho, hG, hO⟩ := circB_is hc
    refine ⟨?_, fun z hz => h ▸ used_outs z hz⟩
    have e := rowK_used (X := (x + y).toNat) (gs := gs) (os := os) (n := (x + y).toNat + gs.length) (fun j hj => by
      have := hG j hj
      rwa [show (((x + y).toNat : Nat) : Int) = x + y by omega]) (fun z hz => by have := hO z hz; omega) rfl
    rw [← h, ← e]
    have := rowK_len (usedL (x + y).toNat gs os) ((x + y).toNat + gs.length)
    omega
  · cases h
set_option maxRecDepth 100000 in
set_option maxHeartbeats 2000000 in
theorem UsedWires_any (x y : Int) (Ag : Option Addr) (ng cg : Nat) (Ao : Option Addr) (no co : Nat) (gs : List G3) (os : List Int) (w : World) (hr : RG w Ag ng gs ∧ RI w Ao no os) (hng : ng ≤ 2097152) (hno : no ≤ 2097152) :
    Calls Try.prog 15 #[.agg #[.int .i64 x, .int .i64 y, .slice Ag ng cg, .slice Ao no co]] w (RetO w (uwF x y gs os)) := by
  have hB : Below w.heap.size w (w.alloc (.cells #[.int .i64 x, .int .i64 y, .slice Ag ng cg, .slice Ao no co] 26)) := (Below.refl _ _).alloc (Nat.le_refl _) _
  have hx0 : BxC (w.alloc (.cells #[.int .i64 x, .int .i64 y, .slice Ag ng cg, .slice Ao no co] 26)) w.heap.size x y Ag ng cg Ao no co := BxC.new w _
  have hs0 : (w.alloc (.cells #[.int .i64 x, .int .i64 y, .slice Ag ng cg, .slice Ao no co] 26)).heap.size = w.heap.size + 1 := by simp
  have hlg := hr.1.len
  have hlo := hr.2.len
  have hq := hx0; obtain ⟨k0, k1, k2, k3⟩ := hq
  cases h0 : circB x y gs os with
  | false =>
    have HR : Hid (uwF x y gs os = none) := Lib.hid (by simp [uwF, h0])
    have H0 := Lib.hid h0; clear h0
    go_enter Try.func15, Try.ntmps15
    go_wp2_with fail
    refine (IsCircuit_any x y Ag ng cg Ao no co gs os _ (hr.1.below hB (Nat.le_refl _)) (hr.2.below hB (Nat.le_refl _)) hng hno).mono ?_
    rintro e v1 ⟨rfl, hb1⟩
    rw [H0.out]
    go_wp2
    go_ret2
    exact RetO.none_ (hB.trans (hb1.mono hB.size)) HR.out rfl
  | true =>
    obtain ⟨hx, hy, hg3, ho3, _, hao⟩ := circB_bd h0
    have hgt0 := circB_gate_at h0 hlg
    rw [hlg] at hg3 hao
    rw [hlo] at ho3
    obtain ⟨X, hX⟩ : ∃ X : Nat, x + y = X := ⟨(x + y).toNat, by omega⟩
    have hgt : ∀ k : Nat, k < ng → GateIs (gg gs k) ((X : Int) + k) := fun k hk => by
      have h := hgt0 k hk
      rwa [hX] at h
    have hao' : allB 0 (((X + ng : Nat) : Int) - 1) os = true := by rw [show ((X + ng : Nat) : Int) - 1 = x + y + ng - 1 by omega]; exact hao
    have HR : Hid (uwF x y gs os = some (rowK (usedL X gs os) (X + ng))) := Lib.hid (by
      rw [rowK_used (gs := gs) (os := os) (fun j hj => hgt j (by omega)) (fun z hz => by have := allB_iff.1 hao z hz; omega) (by omega)]
      simp [uwF, h0, hX])
    have hX40 : X ≤ 40 := by omega
    have HX := Lib.hid hX
    have H0 := Lib.hid h0; clear h0 hgt0 hX hao
    go_enter Try.func15, Try.ntmps15
    go_wp2_with fail
    refine (IsCircuit_any x y Ag ng cg Ao no co gs os _ (hr.1.below hB (Nat.le_refl _)) (hr.2.below hB (Nat.le_refl _)) hng hno).mono ?_
    rintro e v1 ⟨rfl, hb1⟩
    rw [H0.out]
    have hx1 := hx0.below hb1
    have hB1 := hB.trans (hb1.mono hB.size)
    have hz1 := hb1.size
    rw [hs0] at hz1
    clear k0 k1 k2 k3 hx0 hb1 hB
    have hq := hx1; obtain ⟨k0, k1, k2, k3⟩ := hq
    have hal : Below v1.heap.size v1 (v1.alloc (.cells #[] 3)) := (Below.refl _ _).alloc (Nat.le_refl _) _
    have hE0 := Own_new0 v1 (w.heap.size + 1) hz1
    have hB1a := hB1.alloc hB1.size (.cells #[] 3)
    have hq := hx1.below hal; obtain ⟨q0, q1, q2, q3⟩ := hq
    have hz2 : (v1.alloc (.cells #[] 3)).heap.size = v1.heap.size + 1 := by simp
    go_wp2_with fail
    refine (used_any x y Ag ng cg Ao no co gs os X _ ⟨hr.1.below hB1a (Nat.le_refl _), hr.2.below hB1a (Nat.le_refl _)⟩ (by omega) ho3 hx hy HX hgt hao').mono ?_
    rintro e v2 ⟨g, rfl, hg1, hR, hb2⟩
    rw [hz2] at hg1
    have hE2 := hE0.below hb2 (.inr (by rw [hz2]; exact Nat.le_refl _))
    have hB2 := hB1a.trans (hb2.mono hB1a.size)
    have hzv := hb2.size
    rw [hz2] at hzv
    generalize usedL X gs os = U at *
    obtain ⟨N, hN⟩ : ∃ N, X + ng = N := ⟨_, rfl⟩
    rw [hN] at hR HR ⊢
    have hNb : N ≤ 400 := by omega
    clear k0 k1 k2 k3 q0 q1 q2 q3 hE0 hb2 hal hB1a hx1 hgt hao' hN hB1
    go_wp2_with fail
    go_loopw [4, 14] (fun v i wr => ∃ (k : Nat) (A' : Option Addr) (c' : Nat), k ≤ N ∧ i = .int .i64 k ∧ v = .slice A' (rowK U k).length c' ∧ Own wr (w.heap.size + 1) wr.heap.size (.slice A' (rowK U k).length c') (rowK U k).length (rowK U k) ∧ (∀ b, (Value.slice A' (rowK U k).length c').ownBlock = some b → b ≠ g) ∧ BRow wr g N U ∧ Below w.heap.size w wr) (fun _ i _ => N - (intOf i).toNat)
    case atStart => exact ⟨0, _, _, Nat.zero_le _, rfl, rfl, hE2.now, fun b hb => by simp [Value.ownBlock] at hb; omega, hR, hB2⟩
    case round =>
      clear hE2 hR hB2
      obtain ⟨k, A', c', hk, rfl, rfl, ho, hne, hR, hb⟩ := hrel
      have hz := hb.size
      have hlen := rowK_len U k
      by_cases hlt : k < N
      · have hcb := hR.at_ k hlt
        have hglt := hR.lt
        cases hu : inL U (k : Int) with
        | true =>
          have hsn : Hid (rowK U (k + 1) = rowK U k ++ [(k : Int)]) := Lib.hid (by rw [rowK, if_pos hu])
          rw [hu] at hcb
          generalize hM : rowK U k = M at *
          have hM2 := Lib.hid hM; clear hM hu
          obtain ⟨m, hm⟩ : ∃ m, M.length = m := ⟨_, rfl⟩
          rw [hm] at ho hne hlen ⊢
          have hm2 := Lib.hid hm; clear hm
          have hoA := ho.alloc (.cells #[.int .i64 (k : Int)] 3)
          have hbA := hb.alloc hz (.cells #[.int .i64 (k : Int)] 3)
          have hRA := hR.below ((Below.refl wr.heap.size wr).alloc (Nat.le_refl _) (.cells #[.int .i64 (k : Int)] 3))
          go_wp2_with (at_builtin; refine wpList_app _ rfl _ _ rfl rfl hoA rfl (RI_one _ _ _ _ (by simp)) (by omega) (by first | omega | (simp; done) | (simp; omega)) ?_; intro A5 c5 w5 hown5 hg5 hat5)
          have hb5 := below_app hbA hoA hg5 (by simp; omega) (by omega)
          have hR5 := hRA.alt (Alt.of_grown (S := fun i => (Value.slice A' m c').ownBlock = some i) hg5 (fun i hi => hi)) (fun hc => hne g hc rfl)
          have hne5 : ∀ b, (Value.slice A5 (m + 1) c5).ownBlock = some b → b ≠ g := fun b hb9 => by
            rcases hat5 with h | h
            · exact hne b (h.symm.trans hb9)
            · rw [hb9] at h; injection h with h; simp at h; omega
          rw [← hsn.out] at hown5
          have hl5 : Hid ((rowK U (k + 1)).length = m + 1) := Lib.hid (by rw [hsn.out]; simp [hm2.out])
          clear ho hb hoA hbA hg5 hat5 hRA hR hne
          go_wp2
          go_roundw
          case rel => exact ⟨k + 1, A5, c5, by omega, by go_num, by rw [hl5.out], by rw [hl5.out]; exact hown5, by rw [hl5.out]; exact hne5, hR5, hb5⟩
          case measure => simp [intOf]; omega
        | false =>
          have hsn : Hid (rowK U (k + 1) = rowK U k) := Lib.hid (by rw [rowK, if_neg (by simp [hu])])
          rw [hu] at hcb
          clear hu
          go_wp2
          go_roundw
          case rel => exact ⟨k + 1, A', c', by omega, by go_num, by rw [hsn.out], by rw [hsn.out]; exact ho, by rw [hsn.out]; exact hne, hR, hb⟩
          case measure => simp [intOf]; omega
      · obtain rfl : N = k := Nat.le_antisymm (Nat.le_of_not_lt hlt) hk
        go_wp2
        go_ret2
        exact RetO.some_ hb HR.out rfl rfl (ho.lo_ (by omega))
end Go.Proofs.Ytcdhmcpocohbpaa
