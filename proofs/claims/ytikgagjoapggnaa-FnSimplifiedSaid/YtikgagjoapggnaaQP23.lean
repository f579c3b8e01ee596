/- SimplifyCircuit of the reference. Lengths below 2^21. -/
import Derived.Test.YtikgagjoapggnaaQP22
namespace Go.Proofs.Ytikgagjoapggnaa
open Go.RowKit
set_option linter.unusedVariables false
set_option linter.unusedSimpArgs false
attribute [local go_sem] sepAt sepUpon pureAt pureUpon
set_option maxRecDepth 100000 in
set_option maxHeartbeats 3000000 in
theorem spec_SimplifyCircuit_any (x y : Int) (Ag : Option Addr) (ng cg : Nat) (Ao : Option Addr) (no co : Nat) (gs : List G3) (os : List Int) (w : World) (hr : RG w Ag ng gs ∧ RI w Ao no os) (hng : ng ≤ 2097152) (hno : no ≤ 2097152) :
    Calls Try.prog 6 #[.agg #[.int .i64 x, .int .i64 y, .slice Ag ng cg, .slice Ao no co]] w (RetC w (simpF x y gs os)) := by
  have hlg := hr.1.len
  have hlo := hr.2.len
  have hB1 : Below w.heap.size w (w.alloc (.cells #[.int .i64 x, .int .i64 y, .slice Ag ng cg, .slice Ao no co] 26)) := (Below.refl _ _).alloc (Nat.le_refl _) _
  have hB : Below w.heap.size w ((w.alloc (.cells #[.int .i64 x, .int .i64 y, .slice Ag ng cg, .slice Ao no co] 26)).alloc (.cells #[.int .i64 0, .int .i64 0, .slice none 0 0, .slice none 0 0] 26)) := hB1.alloc (by simp) _
  have hx0 : BxC ((w.alloc (.cells #[.int .i64 x, .int .i64 y, .slice Ag ng cg, .slice Ao no co] 26)).alloc (.cells #[.int .i64 0, .int .i64 0, .slice none 0 0, .slice none 0 0] 26)) w.heap.size x y Ag ng cg Ao no co := (BxC.new w _).below ((Below.refl _ _).alloc (Nat.le_refl _) _)
  have hr0 : BxC ((w.alloc (.cells #[.int .i64 x, .int .i64 y, .slice Ag ng cg, .slice Ao no co] 26)).alloc (.cells #[.int .i64 0, .int .i64 0, .slice none 0 0, .slice none 0 0] 26)) (w.heap.size + 1) 0 0 none 0 0 none 0 0 := by simpa using BxC.new (x := 0) (y := 0) (Ag := none) (ng := 0) (cg := 0) (Ao := none) (no := 0) (co := 0) (w.alloc (.cells #[.int .i64 x, .int .i64 y, .slice Ag ng cg, .slice Ao no co] 26)) 26
  have f0 : Fz ((w.alloc (.cells #[.int .i64 x, .int .i64 y, .slice Ag ng cg, .slice Ao no co] 26)).alloc (.cells #[.int .i64 0, .int .i64 0, .slice none 0 0, .slice none 0 0] 26)) (w.heap.size + 1) := by simpa using Fz.new (w.alloc (.cells #[.int .i64 x, .int .i64 y, .slice Ag ng cg, .slice Ao no co] 26)) #[.int .i64 0, .int .i64 0, .slice none 0 0, .slice none 0 0] 26
  have hs0 : ((w.alloc (.cells #[.int .i64 x, .int .i64 y, .slice Ag ng cg, .slice Ao no co] 26)).alloc (.cells #[.int .i64 0, .int .i64 0, .slice none 0 0, .slice none 0 0] 26)).heap.size = w.heap.size + 2 := by simp
  cases h0 : circB x y gs os with
  | false =>
    have HR : Hid (simpF x y gs os = none) := Lib.hid (by simp [simpF, h0])
    have H0 := Lib.hid h0; clear h0
    go_enter Try.func6, Try.ntmps6
    have hq := hx0; obtain ⟨k0, k1, k2, k3⟩ := hq
    go_wp2_with fail
    refine (ciGood_any x y Ag ng cg Ao no co gs os _ (hr.1.below hB (Nat.le_refl _)) (hr.2.below hB (Nat.le_refl _)) hng hno).mono ?_
    rintro e v1 ⟨rfl, hb1⟩
    rw [H0.out]
    clear k0 k1 k2 k3
    have hx1 := hx0.below hb1
    have hr1 := hr0.below hb1
    have f1 := f0.below hb1 (by rw [hs0]; omega)
    have hBv := hB.trans (hb1.mono hB.size)
    have hz1 := hb1.size
    rw [hs0] at hz1
    clear hx0 hr0 f0 hb1 hB hB1 hs0
    have hq := hr1; obtain ⟨r0, r1, r2, r3⟩ := hq
    have g0 := f1 0; have g1 := f1 1; have g2 := f1 2; have g3 := f1 3
    go_wp2
    have hq9 := BxC.set4 (hr1) 0 0 none 0 0 none 0 0
    obtain ⟨q0, q1, q2, q3⟩ := hq9
    refine bodyPost_ret (v := .tuple #[.agg #[.int .i64 0, .int .i64 0, .slice none 0 0, .slice none 0 0], .bool false]) (by simp [results, Try.results6, go_sem, q0, q1, q2, q3]) rfl ?_
    exact RetC.none_ (below_set4 hBv (by omega) _ _ _ _ _ _ _ _) HR.out rfl
  | true =>
    obtain ⟨hx, hy, hg3, ho3, hgB, hao⟩ := circB_bd h0
    have hgt0 := circB_gate_at h0 hlg
    rw [hlg] at hg3 hao
    rw [hlo] at ho3
    have H0 := Lib.hid h0; clear h0 hgB
    obtain ⟨X, hX1, hX2⟩ : ∃ X : Nat, (X : Int) ≤ x + y ∧ x + y ≤ X := ⟨(x + y).toNat, by omega, by omega⟩
    have hXt : (x + y).toNat = X := by omega
    have hgt : ∀ k : Nat, k < ng → GateIs (gg gs k) ((X : Int) + k) := fun k hk => by
      have h := hgt0 k hk
      rwa [show x + y = (X : Int) by omega] at h
    have hao' : allB 0 (((X + ng : Nat) : Int) - 1) os = true := by rw [show ((X + ng : Nat) : Int) - 1 = x + y + ng - 1 by omega]; exact hao
    have hXe : Hid (x + y = (X : Int)) := Lib.hid (by omega)
    have hos : ∀ j : Nat, j < os.length → 0 ≤ gi os j ∧ gi os j < ((X + ng : Nat) : Int) := fun j hj => by
      have h := allB_gi hao hj
      omega
    have hsm := smp_ok (X := X) (gs := gs) (m := ng) hgt
    have hso := smo_ok (X := X) (N := X + ng) (hsm ng (Nat.le_refl _)).ok (hsm ng (Nat.le_refl _)).tb hos os.length (Nat.le_refl _)
    have hn5 := (hsm ng (Nat.le_refl _)).le
    have hsg : smpG X gs os = smo X (smp X gs ng).1 (smp X gs ng).2 os os.length := by unfold smpG; rw [hlg]
    rw [← hsg] at hso
    obtain ⟨S1, S2, hS⟩ : ∃ S1 S2, Hid (smpG X gs os = (S1, S2)) := ⟨_, _, Lib.hid rfl⟩
    rw [hS.out] at hso
    obtain ⟨so1, so2, so3⟩ := hso
    dsimp only at so1 so2 so3
    have hS2l : S2.length = no := by have h := smo_len X (smp X gs ng).1 (smp X gs ng).2 os os.length; rw [← hsg, hS.out, hlo] at h; exact h
    have hdr := drop_ref (X := X) (gs := S1) (os := S2) so1 (fun z hz => by
      obtain ⟨j, hj, rfl⟩ := List.getElem_of_mem hz
      have h := so3 j (by omega)
      rw [gi_lt hj] at h
      exact h)
    have hdl := (drp_len X S1 (usedL X S1 S2) S1.length).1
    obtain ⟨DG, hDG⟩ : ∃ D, Hid ((drp X S1 (usedL X S1 S2) S1.length).1 = D) := ⟨_, Lib.hid rfl⟩
    obtain ⟨DO, hDO⟩ : ∃ D, Hid (pick (drp X S1 (usedL X S1 S2) S1.length).2 S2 = D) := ⟨_, Lib.hid rfl⟩
    have HPl : DO.length = no := by rw [← hDO.out, pick_len]; exact hS2l
    rw [hDG.out] at hdl
    rw [hDG.out, hDO.out] at hdr
    have HDR := Lib.hid hdr
    have hDl : DG.length ≤ 3000 := by omega
    have HSD : smpD X gs os = (DG, DO) := by unfold smpD; rw [hS.out]; dsimp only; rw [hDG.out, hDO.out]
    have HF1 : Hid (circB x y DG DO = true → simpF x y gs os = some ⟨x, y, DG, DO⟩) := Lib.hid fun h => by unfold simpF; rw [H0.out, if_pos rfl, hXt, HSD, if_pos h]
    have HF0 : Hid (circB x y DG DO = false → simpF x y gs os = none) := Lib.hid fun h => by unfold simpF; rw [H0.out, if_pos rfl, hXt, HSD, h]; rfl
    clear hgt0 hXt hsm hos hsg hdr so1 so2 so3 hdl hn5 HSD hao
    go_enter Try.func6, Try.ntmps6
    have hq := hx0; obtain ⟨k0, k1, k2, k3⟩ := hq
    go_wp2_with fail
    refine (ciGood_any x y Ag ng cg Ao no co gs os _ (hr.1.below hB (Nat.le_refl _)) (hr.2.below hB (Nat.le_refl _)) hng hno).mono ?_
    rintro e v1 ⟨rfl, hb1⟩
    rw [H0.out]
    clear k0 k1 k2 k3
    have hx1 := hx0.below hb1
    have hr1 := hr0.below hb1
    have f1 := f0.below hb1 (by rw [hs0]; omega)
    have hBv := hB.trans (hb1.mono hB.size)
    have hz1 := hb1.size
    rw [hs0] at hz1
    clear hx0 hr0 f0 hb1 hB hB1 hs0
    have hq := hx1; obtain ⟨k0, k1, k2, k3⟩ := hq
    go_wp2_with fail
    refine (siSimple_any x y Ag ng cg Ao no co gs os X _ ⟨hr.1.below hBv (Nat.le_refl _), hr.2.below hBv (Nat.le_refl _)⟩ hg3 ho3 hx hy hXe hgt hao' S1 S2 hS).mono ?_
    rintro e v2 hT
    rw [HDR.out.1, HDR.out.2] at hT
    obtain ⟨G6, cG, A5, c5, rfl, hC, hb2⟩ := hT.open_ rfl HPl
    have hz2 := hb2.size
    clear k0 k1 k2 k3
    cases h9 : circB x y DG DO with
    | true =>
      have HF := Lib.hid (HF1.out h9)
      go_wp2_with fail
      refine (ciIf_t x y G6 DG.length cG A5 no c5 DG DO _ hC.reads.1 hC.reads.2 (by omega) (by omega) h9).mono ?_
      rintro e w6 ⟨rfl, hb6⟩
      have hBl := hb2.trans (hb6.mono hz2)
      have hr2 := hr1.below hBl
      have f2 := f1.below hBl hr1.lt
      have hB2 := hBv.trans (hBl.mono hBv.size)
      have hC6 := hC.below hb6 (.inl (Nat.le_refl _))
      have hz6 := hb6.size
      have hq := hr2; obtain ⟨r0, r1, r2, r3⟩ := hq
      have g0 := f2 0; have g1 := f2 1; have g2 := f2 2; have g3 := f2 3
      go_wp2
      have hq9 := BxC.set4 (hr2) x y G6 DG.length cG A5 no c5
      obtain ⟨q0, q1, q2, q3⟩ := hq9
      refine bodyPost_ret (v := .tuple #[.agg #[.int .i64 x, .int .i64 y, .slice G6 DG.length cG, .slice A5 no c5], .bool true]) (by simp [results, Try.results6, go_sem, q0, q1, q2, q3]) rfl ?_
      exact RetC.some_ (below_set4 hB2 (by omega) _ _ _ _ _ _ _ _) HF.out rfl HPl rfl (by rw [set4_size]; exact ((hC6.set4 (.inl (by omega)) _ _ _ _ _ _ _ _).lo_ (by omega)) |> fun h => h.hi_ (by omega))
    | false =>
      have HF := Lib.hid (HF0.out h9)
      go_wp2_with fail
      refine (ciIf_f x y G6 DG.length cG A5 no c5 DG DO _ hC.reads.1 hC.reads.2 (by omega) (by omega) h9).mono ?_
      rintro e w6 ⟨rfl, hb6⟩
      have hBl := hb2.trans (hb6.mono hz2)
      have hr2 := hr1.below hBl
      have f2 := f1.below hBl hr1.lt
      have hB2 := hBv.trans (hBl.mono hBv.size)
      have hq := hr2; obtain ⟨r0, r1, r2, r3⟩ := hq
      have g0 := f2 0; have g1 := f2 1; have g2 := f2 2; have g3 := f2 3
      go_wp2
      have hq9 := BxC.set4 (hr2) 0 0 none 0 0 none 0 0
      obtain ⟨q0, q1, q2, q3⟩ := hq9
      refine bodyPost_ret (v := .tuple #[.agg #[.int .i64 0, .int .i64 0, .slice none 0 0, .slice none 0 0], .bool false]) (by simp [results, Try.results6, go_sem, q0, q1, q2, q3]) rfl ?_
      exact RetC.none_ (below_set4 hB2 (by omega) _ _ _ _ _ _ _ _) HF.out rfl
end Go.Proofs.Ytikgagjoapggnaa
