/- SimplifyCircuit of the program. Lengths below 2^21. -/
import Derived.Test.YtikgagjoapggnaaQP18
import Derived.Test.YtikgagjoapggnaaQP28
import Derived.Test.YtikgagjoapggnaaQP30
namespace Go.Proofs.Ytikgagjoapggnaa
open Go.RowKit
set_option linter.unusedVariables false
set_option linter.unusedSimpArgs false
attribute [local go_sem] sepAt sepUpon pureAt pureUpon
set_option maxRecDepth 100000 in
set_option maxHeartbeats 8000000 in
theorem SimplifyCircuit_any (x y : Int) (Ag : Option Addr) (ng cg : Nat) (Ao : Option Addr) (no co : Nat) (gs : List G3) (os : List Int) (w : World) (hr : RG w Ag ng gs ∧ RI w Ao no os) (hng : ng ≤ 2097152) (hno : no ≤ 2097152) :
    Calls Try.prog 5 #[.agg #[.int .i64 x, .int .i64 y, .slice Ag ng cg, .slice Ao no co]] w (RetC w (simpF x y gs os)) := by
  have hlg := hr.1.len
  have hlo := hr.2.len
  have hB1 : Below w.heap.size w (w.alloc (.cells #[.int .i64 x, .int .i64 y, .slice Ag ng cg, .slice Ao no co] 26)) := (Below.refl _ _).alloc (Nat.le_refl _) _
  have hB : Below w.heap.size w ((w.alloc (.cells #[.int .i64 x, .int .i64 y, .slice Ag ng cg, .slice Ao no co] 26)).alloc (.cells #[.int .i64 0, .int .i64 0, .slice none 0 0, .slice none 0 0] 26)) := hB1.alloc (by simp) _
  have hx0 : BxC ((w.alloc (.cells #[.int .i64 x, .int .i64 y, .slice Ag ng cg, .slice Ao no co] 26)).alloc (.cells #[.int .i64 0, .int .i64 0, .slice none 0 0, .slice none 0 0] 26)) w.heap.size x y Ag ng cg Ao no co := (BxC.new w _).below ((Below.refl _ _).alloc (Nat.le_refl _) _)
  have hr0 : BxC ((w.alloc (.cells #[.int .i64 x, .int .i64 y, .slice Ag ng cg, .slice Ao no co] 26)).alloc (.cells #[.int .i64 0, .int .i64 0, .slice none 0 0, .slice none 0 0] 26)) (w.heap.size + 1) 0 0 none 0 0 none 0 0 := by simpa using BxC.new (x := 0) (y := 0) (Ag := none) (ng := 0) (cg := 0) (Ao := none) (no := 0) (co := 0) (w.alloc (.cells #[.int .i64 x, .int .i64 y, .slice Ag ng cg, .slice Ao no co] 26)) 26
  have f0 : Fz ((w.alloc (.cells #[.int .i64 x, .int .i64 y, .slice Ag ng cg, .slice Ao no co] 26)).alloc (.cells #[.int .i64 0, .int .i64 0, .slice none 0 0, .slice none 0 0] 26)) (w.heap.size + 1) := by simpa using Fz.new (w.alloc (.cells #[.int .i64 x, .int .i64 y, .slice Ag ng cg, .slice Ao no co] 26)) #[.int .i64 0, .int .i64 0, .slice none 0 0, .slice none 0 0] 26
  have hs0 : ((w.alloc (.cells #[.int .i64 x, .int .i64 y, .slice Ag ng cg, .slice Ao no co] 26)).alloc (.cells #[.int .i64 0, .int .i64 0, .slice none 0 0, .slice none 0 0] 26)).heap.size = w.heap.size + 2 := by simp
  cases h0 : circB x y gs os with
  | false =>
    have HR : Hid (simpF x y gs os = none) := Lib.hid (by simp [simpF, h0])
    have H0 := Lib.hid h0; clear h0
    go_enter Try.func5, Try.ntmps5
    have hq := hx0; obtain ⟨k0, k1, k2, k3⟩ := hq
    go_wp2_with fail
    refine (IsCircuit_any x y Ag ng cg Ao no co gs os _ (hr.1.below hB (Nat.le_refl _)) (hr.2.below hB (Nat.le_refl _)) hng hno).mono ?_
    rintro e v1 ⟨rfl, hb1⟩
    rw [H0.out]
    clear k0 k1 k2 k3
    have hx1 := hx0.below hb1
    have hr1 := hr0.below hb1
    have f1 := f0.below hb1 (by rw [hs0]; omega)
    have hBv := hB.trans (hb1.mono hB.size)
    have hz1 := hb1.size
    rw [hs0] at hz1
    clear hx0 hr0 f0 hb1 hB hB1 hs0
    have hq := hr1; obtain ⟨r0, r1, r2, r3⟩ := hq
    have g0 := f1 0; have g1 := f1 1; have g2 := f1 2; have g3 := f1 3
    go_wp2
    have hq9 := BxC.set4 (hr1) 0 0 none 0 0 none 0 0
    obtain ⟨q0, q1, q2, q3⟩ := hq9
    refine bodyPost_ret (v := .tuple #[.agg #[.int .i64 0, .int .i64 0, .slice none 0 0, .slice none 0 0], .bool false]) (by simp [results, Try.results5, go_sem, q0, q1, q2, q3]) rfl ?_
    exact RetC.none_ (below_set4 hBv (by omega) _ _ _ _ _ _ _ _) HR.out rfl
  | true =>
    obtain ⟨hx, hy, hg3, ho3, hgB, hao⟩ := circB_bd h0
    have hgt0 := circB_gate_at h0 hlg
    rw [hlg] at hg3 hao
    rw [hlo] at ho3
    have H0 := Lib.hid h0; clear h0 hgB
    obtain ⟨X, hX1, hX2⟩ : ∃ X : Nat, (X : Int) ≤ x + y ∧ x + y ≤ X := ⟨(x + y).toNat, by omega, by omega⟩
    have hXt : (x + y).toNat = X := by omega
    have hgt : ∀ k : Nat, k < ng → GateIs (gg gs k) ((X : Int) + k) := fun k hk => by
      have h := hgt0 k hk
      rwa [show x + y = (X : Int) by omega] at h
    have hos : ∀ j : Nat, j < os.length → 0 ≤ gi os j ∧ gi os j < ((X + ng : Nat) : Int) := fun j hj => by
      have h := allB_gi hao hj
      omega
    have hX40 : X ≤ 40 := by omega
    have hsm := smp_ok (X := X) (gs := gs) (m := ng) hgt
    have hso := smo_ok (X := X) (N := X + ng) (hsm ng (Nat.le_refl _)).ok (hsm ng (Nat.le_refl _)).tb hos
    have hn5 := (hsm ng (Nat.le_refl _)).le
    rw [hlo] at hso hos
    obtain ⟨GS0, L0, hS0⟩ : ∃ GS0 L0, Hid (smp X gs ng = (GS0, L0)) := ⟨_, _, Lib.hid rfl⟩
    rw [hS0.out] at hso hn5
    dsimp only at hso hn5
    obtain ⟨S1, S2, hS12⟩ : ∃ S1 S2, Hid (smo X GS0 L0 os no = (S1, S2)) := ⟨_, _, Lib.hid rfl⟩
    have hsoN := hso no (Nat.le_refl _)
    rw [hS12.out] at hsoN
    have hS2l : S2.length = no := by have h := smo_len X GS0 L0 os no; rw [hS12.out] at h; exact h
    have hS1l : S1.length ≤ 1600 := by have h := hsoN.le.2; dsimp only at h; omega
    have HGS := Lib.hid hsoN.ok
    have hao9 : allB 0 (((X + S1.length : Nat) : Int) - 1) S2 = true := allB_iff.2 fun z hz => by
      obtain ⟨j, hj, rfl⟩ := List.getElem_of_mem hz
      have h := hsoN.out j (by omega)
      dsimp only at h
      rw [gi_lt hj] at h
      omega
    have HSM := Lib.hid hsm
    have HSO := Lib.hid hso
    have HOS := Lib.hid hos
    have hXe : Hid (x + y = (X : Int)) := Lib.hid (by omega)
    have hdl := (drp_len X S1 (usedL X S1 S2) S1.length).1
    obtain ⟨DG, hDG⟩ : ∃ D, Hid ((drp X S1 (usedL X S1 S2) S1.length).1 = D) := ⟨_, Lib.hid rfl⟩
    obtain ⟨DO, hDO⟩ : ∃ D, Hid (pick (drp X S1 (usedL X S1 S2) S1.length).2 S2 = D) := ⟨_, Lib.hid rfl⟩
    have HPl : DO.length = no := by rw [← hDO.out, pick_len]; exact hS2l
    rw [hDG.out] at hdl
    have HSD : smpD X gs os = (DG, DO) := by
      have e1 : smpG X gs os = (S1, S2) := by unfold smpG; rw [hlg, hlo, hS0.out]; exact hS12.out
      unfold smpD; rw [e1]; dsimp only; rw [hDG.out, hDO.out]
    have HF1 : Hid (circB x y DG DO = true → simpF x y gs os = some ⟨x, y, DG, DO⟩) := Lib.hid fun h => by unfold simpF; rw [H0.out, if_pos rfl, hXt, HSD, if_pos h]
    have HF0 : Hid (circB x y DG DO = false → simpF x y gs os = none) := Lib.hid fun h => by unfold simpF; rw [H0.out, if_pos rfl, hXt, HSD, h]; rfl
    clear hgt0 hXt hsm hso hsoN hao HSD hos
    go_enter Try.func5, Try.ntmps5
    have hq := hx0; obtain ⟨k0, k1, k2, k3⟩ := hq
    go_wp2_with fail
    refine (IsCircuit_any x y Ag ng cg Ao no co gs os _ (hr.1.below hB (Nat.le_refl _)) (hr.2.below hB (Nat.le_refl _)) hng hno).mono ?_
    rintro e v1 ⟨rfl, hb1⟩
    rw [H0.out]
    clear k0 k1 k2 k3
    have hx1 := hx0.below hb1
    have hr1 := hr0.below hb1
    have f1 := f0.below hb1 (by rw [hs0]; omega)
    have hBv := hB.trans (hb1.mono hB.size)
    have hz1 := hb1.size
    rw [hs0] at hz1
    clear hx0 hr0 f0 hb1 hB hB1 hs0
    obtain ⟨W1, hW1⟩ : ∃ W1, W1 = (v1.alloc (.cells #[.int .i64 x, .int .i64 y, .slice none 0 0, .slice none 0 0] 44)).alloc (.cells #[] 48) := ⟨_, rfl⟩
    have hbW : Below v1.heap.size v1 W1 := by subst hW1; exact ((Below.refl _ _).alloc (Nat.le_refl _) _).alloc (by simp) _
    have hsW : W1.heap.size = v1.heap.size + 2 := by subst hW1; simp
    have hm0 : MkO W1 v1.heap.size v1.heap.size x y none 0 0 [] none := by subst hW1; exact (MkO.new v1 v1.heap.size x y _).alloc_ _
    have ho0 : OMT 48 3 tbC W1 v1.heap.size none v1.heap.size (.slice (some ⟨v1.heap.size + 1, 0, none⟩) 0 0) (0) (wiresT 0) := by
      subst hW1
      have h := (OwnT.new0 48 3 tbC (v1.alloc (.cells #[.int .i64 x, .int .i64 y, .slice none 0 0, .slice none 0 0] 44)) v1.heap.size (by simp)).now
      exact ⟨by rw [show wiresT 0 = [] from rfl]; simpa using h, fun g hg => ⟨(by have hg' : v1.heap.size + 1 = g := (by simpa [Value.ownBlock] using hg); omega), by simp⟩⟩
    have hxW := hx1.below hbW
    have hqW := hxW; rw [hW1] at hqW; obtain ⟨l0, l1, l2, l3⟩ := hqW
    have HWW := Lib.hid hW1; clear hW1
    have hq := hx1; obtain ⟨k0, k1, k2, k3⟩ := hq
    go_wp2_with fail
    rw [← HWW.out]
    refine (Circuit_inputs_any x y Ag ng cg Ao no co _ hx hy).mono ?_
    rintro e v2 ⟨rfl, hb2⟩
    rw [hXe.out]
    have hm2 := hm0.below_ hb2 (Nat.le_refl _)
    have ho2 := ho0.below_ hb2 (Nat.le_refl _)
    have hb0 := hbW.trans (hb2.mono hbW.size)
    clear l0 l1 l2 l3 k0 k1 k2 k3 hxW hbW hsW hm0 ho0 hb2
    go_wp2
    go_loopw [5, 26] (fun o i wr => ∃ (k : Nat) (O : Option Addr) (oc : Nat), k ≤ X ∧ i = .int .i64 k ∧ o = .slice O k oc ∧ MkO wr v1.heap.size v1.heap.size x y none 0 0 [] none ∧ OMT 48 3 tbC wr v1.heap.size none v1.heap.size (.slice O k oc) (k) (wiresT k) ∧ Below v1.heap.size v1 wr) (fun _ i _ => X - (intOf i).toNat)
    case atStart => exact ⟨0, _, _, Nat.zero_le _, rfl, rfl, hm2, ho2, hb0⟩
    case round =>
      obtain ⟨k, O, oc, hk, rfl, rfl, hm, ho, hb⟩ := hrel
      clear hm2 ho2 hb0
      have hBr := hBv.trans (hb.mono hBv.size)
      have hzr := hb.size
      have hxr := hx1.below hb
      have hq := hxr; obtain ⟨k0, k1, k2, k3⟩ := hq
      by_cases hlt : k < X
      · have hoA := ho.alloc_ (.cells #[.bool false, .int .i64 (k : Int), .bool false] 48)
        have hmA := hm.alloc_ (.cells #[.bool false, .int .i64 (k : Int), .bool false] 48)
        have hbA := hb.alloc (by omega) (.cells #[.bool false, .int .i64 (k : Int), .bool false] 48)
        go_wp2_with (at_builtin; refine wpList_appP rfl _ _ rfl rfl hoA.1 rfl (cells_new _ (tbC ⟨false, (k : Int), false⟩) _) (by omega) (by simp; omega) ?_; intro A5 c5 w5 hown5 hg5 hat5 hk5)
        have ho5 := hoA.app hmA hown5 hat5
        have hm5 := hmA.app hoA hg5
        have hb5 := below_grown hbA hg5 (by simp; omega) (fun j hj => (hoA.1.lt j hj).1)
        rw [← wiresT_snoc] at ho5
        clear hoA hmA hbA hown5 hg5 hat5 hk5 hm ho hb hxr hBr k0 k1 k2 k3
        go_wp2
        go_roundw
        case rel => exact ⟨k + 1, _, _, by omega, by go_num, rfl, hm5, ho5, hb5⟩
        case measure => simp [intOf]; omega
      · obtain rfl : X = k := Nat.le_antisymm (Nat.le_of_not_lt hlt) hk
        go_wp2
        clear k0 k1 k2 k3 hxr
        go_loopw [5, 38] (fun o i wr => ∃ (k : Nat) (O : Option Addr) (oc : Nat) (G : Option Nat), k ≤ ng ∧ i = .int .i64 k ∧ o = .slice O (X + k) oc ∧ MkO wr v1.heap.size v1.heap.size x y none 0 0 (smp X gs k).1 G ∧ OMT 48 3 tbC wr v1.heap.size G v1.heap.size (.slice O (X + k) oc) (X + k) (smp X gs k).2 ∧ Below v1.heap.size v1 wr) (fun _ i _ => ng - (intOf i).toNat)
        case atStart => exact ⟨0, _, _, _, Nat.zero_le _, rfl, rfl, hm, ho, hb⟩
        case round =>
          clear hm ho hb hBr hzr
          obtain ⟨k, O, oc, G, hk, rfl, rfl, hm, ho, hb⟩ := hrel
          have hBr := hBv.trans (hb.mono hBv.size)
          have hzr := hb.size
          have hsl := smp_len X gs k
          by_cases hlt : k < ng
          · obtain ⟨bb, o, rfl, hbB, c1, c2, c3⟩ := (hr.1.below hBr (Nat.le_refl _)).at_ hlt
            have hgk := hgt k hlt
            have hok := HSM.out k (by omega)
            obtain ⟨SG, SL, hSk⟩ : ∃ SG SL, Hid (smp X gs k = (SG, SL)) := ⟨_, _, Lib.hid rfl⟩
            have hS1 : Hid (smp X gs (k + 1) = ((gateT X SG SL (gg gs k)).1, SL ++ [(gateT X SG SL (gg gs k)).2])) := Lib.hid (by simp only [smp]; rw [hSk.out])
            rw [hSk.out] at hm ho hok hsl
            obtain ⟨hokG, hle, htb⟩ := hok
            dsimp only at hm ho hokG hle htb hsl
            have hle' : SG.length ≤ 2000 := by omega
            clear hle
            have off : ∀ i, wr.heap.size ≤ i → OffB v1.heap.size G i := fun i hi => ⟨by have := hm.1; omega, fun hc => by have := (hm.lt _ hc).2; omega⟩
            obtain ⟨g, hg⟩ : ∃ g, g = gg gs k := ⟨_, rfl⟩
            rw [← hg] at hgk hS1 c1 c2 c3
            clear hg
            obtain ⟨gk, ga, gb⟩ := g
            dsimp only at c1 c2 c3
            cases hgk with
            | one_ hk' a0 b0 =>
              dsimp only at hk' a0 b0
              subst hk'
              subst a0
              subst b0
              have hS : Hid (smp X gs (k + 1) = (SG, SL ++ [⟨true, 0, false⟩])) := Lib.hid hS1.out
              clear hS1 htb hokG
              obtain ⟨W2, hW2⟩ : ∃ W2, W2 = (wr.alloc (.cells #[.int .i64 3, .int .i64 0, .int .i64 0] 50)).alloc (.cells #[.bool true, .int .i64 0, .bool false] 48) := ⟨_, rfl⟩
              have hbW2 : Below wr.heap.size wr W2 := by subst hW2; exact ((Below.refl _ _).alloc (Nat.le_refl _) _).alloc (by simp) _
              have hsW2 : W2.heap.size = wr.heap.size + 2 := by subst hW2; simp
              have hm2 := hm.below_ hbW2 (Nat.le_refl _)
              have ho2 := ho.below_ hbW2 (Nat.le_refl _)
              have hb2 := hb.trans (hbW2.mono hzr)
              have g2 : BxG W2 wr.heap.size 3 0 0 := by subst hW2; exact (BxG.new wr _).below ((Below.refl _ _).alloc (Nat.le_refl _) _)
              have r2 : Bx3 W2 (wr.heap.size + 1) (.bool true) (.int .i64 0) (.bool false) := by
                subst hW2
                simpa using Bx3.new (wr.alloc (.cells #[.int .i64 3, .int .i64 0, .int .i64 0] 50)) (.bool true) (.int .i64 0) (.bool false) 48
              have f2 : Fz W2 (wr.heap.size + 1) := by
                subst hW2
                simpa using Fz.new (wr.alloc (.cells #[.int .i64 3, .int .i64 0, .int .i64 0] 50)) #[.bool true, .int .i64 0, .bool false] 48
              have hcn := fun T => cells_new W2 (tbC ⟨true, 0, false⟩) T
              subst hW2
              clear hsW2
              simp only [World.size_alloc] at hcn
              have hoA := (ho2).alloc_ (.cells #[.bool true, .int .i64 0, .bool false] 48)
              have hmA := (hm2).alloc_ (.cells #[.bool true, .int .i64 0, .bool false] 48)
              have hbA := (hb2).alloc ((hb2).size) (.cells #[.bool true, .int .i64 0, .bool false] 48)
              go_wp2_with (at_builtin; refine wpList_appP rfl _ _ rfl rfl hoA.1 rfl (hcn _) (by omega) (hbA.size) ?_; intro A7 c7 w7 hown7 hg7 hat7 hk7)
              have ho7 := hoA.app hmA hown7 hat7
              have hm7 := hmA.app hoA hg7
              have hb7 := below_grown hbA hg7 hbA.size (fun j hj => (hoA.1.lt j hj).1)
              have hrel1 : MkO w7 v1.heap.size v1.heap.size x y none 0 0 (smp X gs (k + 1)).1 G ∧ OMT 48 3 tbC w7 v1.heap.size G v1.heap.size (.slice A7 (X + k + 1) c7) (X + k + 1) (smp X gs (k + 1)).2 := by rw [hS.out]; exact ⟨hm7, ho7⟩
              clear hm7 ho7 hoA hmA hbA hown7 hg7 hat7 hk7 hS hm ho hb
              go_wp2
              go_roundw
              case rel => exact ⟨k + 1, _, _, _, by omega, by go_num, rfl, hrel1.1, hrel1.2, hb7⟩
              case measure => simp [intOf]; omega
            | not_ hk' a0 a1 b0 =>
              dsimp only at hk' a0 a1 b0
              subst hk'
              subst b0
              obtain ⟨A, rfl⟩ : ∃ A : Nat, ga = A := ⟨ga.toNat, by omega⟩
              have hA11 : (A : Int) < (X : Int) + (k : Int) := by omega
              have hA12 : (A : Int) < ((X + k : Nat) : Int) := by omega
              have hA13 : A < X + k := by omega
              obtain ⟨c1, w1, t1, hT1⟩ : ∃ c w t, Hid (tt SL A = ⟨c, w, t⟩) := ⟨_, _, _, Lib.hid rfl⟩
              obtain ⟨nc, nw, nt, hN⟩ : ∃ c w t, Hid ((⟨c1, w1, t1⟩ : Tb).by_ true = ⟨c, w, t⟩) := ⟨_, _, _, Lib.hid rfl⟩
              have hS : Hid (smp X gs (k + 1) = (SG, SL ++ [⟨nc, nw, nt⟩])) := Lib.hid (by rw [hS1.out, ← hN.out, ← hT1.out]; rfl)
              have hcall := fun W' => turnedBy_any ⟨c1, w1, t1⟩ true W'
              rw [hN.out] at hcall
              dsimp only at hcall
              have HC := Lib.hid hcall; clear hcall hS1 htb hokG
              obtain ⟨W2, hW2⟩ : ∃ W2, W2 = (wr.alloc (.cells #[.int .i64 2, .int .i64 (A : Int), .int .i64 0] 50)).alloc (.cells #[.bool true, .int .i64 0, .bool false] 48) := ⟨_, rfl⟩
              have hbW2 : Below wr.heap.size wr W2 := by subst hW2; exact ((Below.refl _ _).alloc (Nat.le_refl _) _).alloc (by simp) _
              have hsW2 : W2.heap.size = wr.heap.size + 2 := by subst hW2; simp
              have hm2 := hm.below_ hbW2 (Nat.le_refl _)
              have ho2 := ho.below_ hbW2 (Nat.le_refl _)
              have hb2 := hb.trans (hbW2.mono hzr)
              have g2 : BxG W2 wr.heap.size 2 (A : Int) 0 := by subst hW2; exact (BxG.new wr _).below ((Below.refl _ _).alloc (Nat.le_refl _) _)
              have r2 : Bx3 W2 (wr.heap.size + 1) (.bool true) (.int .i64 0) (.bool false) := by
                subst hW2
                simpa using Bx3.new (wr.alloc (.cells #[.int .i64 2, .int .i64 (A : Int), .int .i64 0] 50)) (.bool true) (.int .i64 0) (.bool false) 48
              have f2 : Fz W2 (wr.heap.size + 1) := by
                subst hW2
                simpa using Fz.new (wr.alloc (.cells #[.int .i64 2, .int .i64 (A : Int), .int .i64 0] 50)) #[.bool true, .int .i64 0, .bool false] 48
              have hnl : (Value.slice O (X + k) oc).ownBlock ≠ some (wr.heap.size + 1) := fun hc => by have := (ho.1.lt _ hc).2.2; omega
              obtain ⟨lb1, hO1, hl11, hl12, hl13, hce1⟩ := ho2.1.at_ tbC_len (k := A) hA13
              rw [hT1.out] at hce1
              have la10 : W2.cell? ⟨lb1, A * 3, none⟩ = some (.bool c1) := by have h := hce1 0 (.bool c1) (rfl); simpa using h
              have la11 : W2.cell? ⟨lb1, A * 3 + 1, none⟩ = some (.int .i64 w1) := by have h := hce1 1 (.int .i64 w1) (rfl); simpa using h
              have la12 : W2.cell? ⟨lb1, A * 3 + 2, none⟩ = some (.bool t1) := by have h := hce1 2 (.bool t1) (rfl); simpa using h
              subst hO1
              have HWW2 := Lib.hid hW2
              have hq := g2; rw [hW2] at hq; obtain ⟨u0, u1, u2⟩ := hq
              rw [hW2] at la10
              rw [hW2] at la11
              rw [hW2] at la12
              clear hW2
              go_wp2_with fail
              rw [← HWW2.out]
              refine (HC.out _).mono ?_
              rintro e w5 ⟨rfl, hw5⟩
              have r5 := r2.bel hw5 (by omega)
              have f5 := f2.below hw5 (by omega)
              have hm5 := hm2.below_ hw5 (Nat.le_refl _)
              have ho5 := ho2.below_ hw5 (Nat.le_refl _)
              have hb5 := hb2.trans (hw5.mono hb2.size)
              have hq := r5; obtain ⟨j0, j1, j2⟩ := hq
              have e0 := f5 0; have e1 := f5 1; have e2 := f5 2
              have r6 := r5.set (.bool nc) (.int .i64 nw) (.bool nt)
              obtain ⟨s0, s1, s2⟩ := r6
              clear u0 u1 u2 la10 la11 la12
              have hsz : (((w5.setCell ⟨wr.heap.size + 1, 0, none⟩ (.bool nc)).setCell ⟨wr.heap.size + 1, 1, none⟩ (.int .i64 nw)).setCell ⟨wr.heap.size + 1, 2, none⟩ (.bool nt)).heap.size = w5.heap.size := by simp
              have hcn : ∀ i u, (tbC ⟨nc, nw, nt⟩)[i]? = some u → ((((w5.setCell ⟨wr.heap.size + 1, 0, none⟩ (.bool nc)).setCell ⟨wr.heap.size + 1, 1, none⟩ (.int .i64 nw)).setCell ⟨wr.heap.size + 1, 2, none⟩ (.bool nt)).alloc (.cells #[.bool nc, .int .i64 nw, .bool nt] 48)).cell? ⟨w5.heap.size, i, none⟩ = some u := by
                intro i u h
                have h8 := cells_new (((w5.setCell ⟨wr.heap.size + 1, 0, none⟩ (.bool nc)).setCell ⟨wr.heap.size + 1, 1, none⟩ (.int .i64 nw)).setCell ⟨wr.heap.size + 1, 2, none⟩ (.bool nt)) (tbC ⟨nc, nw, nt⟩) 48 i u h
                rw [hsz] at h8
                exact h8
              clear hsz
              have hoA := (((((ho5).setc ⟨wr.heap.size + 1, 0, none⟩ (.bool nc) hnl).setc ⟨wr.heap.size + 1, 1, none⟩ (.int .i64 nw) hnl).setc ⟨wr.heap.size + 1, 2, none⟩ (.bool nt) hnl)).alloc_ (.cells #[.bool nc, .int .i64 nw, .bool nt] 48)
              have hmA := ((hm5).set3 (off (wr.heap.size + 1) (by omega)) (.bool nc) (.int .i64 nw) (.bool nt)).alloc_ (.cells #[.bool nc, .int .i64 nw, .bool nt] 48)
              have hbA := (((((hb5).setCell (p := ⟨wr.heap.size + 1, 0, none⟩) (by show v1.heap.size ≤ wr.heap.size + 1; omega) (.bool nc)).setCell (p := ⟨wr.heap.size + 1, 1, none⟩) (by show v1.heap.size ≤ wr.heap.size + 1; omega) (.int .i64 nw)).setCell (p := ⟨wr.heap.size + 1, 2, none⟩) (by show v1.heap.size ≤ wr.heap.size + 1; omega) (.bool nt))).alloc ((((((hb5).setCell (p := ⟨wr.heap.size + 1, 0, none⟩) (by show v1.heap.size ≤ wr.heap.size + 1; omega) (.bool nc)).setCell (p := ⟨wr.heap.size + 1, 1, none⟩) (by show v1.heap.size ≤ wr.heap.size + 1; omega) (.int .i64 nw)).setCell (p := ⟨wr.heap.size + 1, 2, none⟩) (by show v1.heap.size ≤ wr.heap.size + 1; omega) (.bool nt))).size) (.cells #[.bool nc, .int .i64 nw, .bool nt] 48)
              go_wp2_with (at_builtin; refine wpList_appP rfl _ _ rfl rfl hoA.1 rfl hcn (by omega) (hbA.size) ?_; intro A7 c7 w7 hown7 hg7 hat7 hk7)
              have ho7 := hoA.app hmA hown7 hat7
              have hm7 := hmA.app hoA hg7
              have hb7 := below_grown hbA hg7 hbA.size (fun j hj => (hoA.1.lt j hj).1)
              have hrel1 : MkO w7 v1.heap.size v1.heap.size x y none 0 0 (smp X gs (k + 1)).1 G ∧ OMT 48 3 tbC w7 v1.heap.size G v1.heap.size (.slice A7 (X + k + 1) c7) (X + k + 1) (smp X gs (k + 1)).2 := by rw [hS.out]; exact ⟨hm7, ho7⟩
              clear hm7 ho7 hoA hmA hbA hown7 hg7 hat7 hk7 hS hm ho hb
              go_wp2
              go_roundw
              case rel => exact ⟨k + 1, _, _, _, by omega, by go_num, rfl, hrel1.1, hrel1.2, hb7⟩
              case measure => simp [intOf]; omega
            | xor_ hk' a0 a1 b0 b1 =>
              dsimp only at hk' a0 a1 b0 b1
              subst hk'
              obtain ⟨A, rfl⟩ : ∃ A : Nat, ga = A := ⟨ga.toNat, by omega⟩
              obtain ⟨B, rfl⟩ : ∃ B : Nat, gb = B := ⟨gb.toNat, by omega⟩
              have hA11 : (A : Int) < (X : Int) + (k : Int) := by omega
              have hA12 : (A : Int) < ((X + k : Nat) : Int) := by omega
              have hA13 : A < X + k := by omega
              have hA21 : (B : Int) < (X : Int) + (k : Int) := by omega
              have hA22 : (B : Int) < ((X + k : Nat) : Int) := by omega
              have hA23 : B < X + k := by omega
              obtain ⟨c1, w1, t1, hT1⟩ : ∃ c w t, Hid (tt SL A = ⟨c, w, t⟩) := ⟨_, _, _, Lib.hid rfl⟩
              obtain ⟨c2, w2, t2, hT2⟩ : ∃ c w t, Hid (tt SL B = ⟨c, w, t⟩) := ⟨_, _, _, Lib.hid rfl⟩
              obtain ⟨Z, nc, nw, nt, hN⟩ : ∃ Z c w t, Hid (xorT X SG ⟨c1, w1, t1⟩ ⟨c2, w2, t2⟩ = (Z, ⟨c, w, t⟩)) := ⟨_, _, _, _, Lib.hid rfl⟩
              have hS : Hid (smp X gs (k + 1) = (Z, SL ++ [⟨nc, nw, nt⟩])) := Lib.hid (by
                have h : gateT X SG SL ⟨0, (A : Int), (B : Int)⟩ = (Z, ⟨nc, nw, nt⟩) := by rw [← hN.out, ← hT1.out, ← hT2.out]; rfl
                rw [hS1.out, h])
              have hcall := fun W' h1 h2 => xorOf_any v1.heap.size v1.heap.size x y none 0 0 SG G X ⟨c1, w1, t1⟩ ⟨c2, w2, t2⟩ W' h1 hx hy (by omega) h2 hXe
              rw [hN.out] at hcall
              dsimp only at hcall
              have HC := Lib.hid hcall; clear hcall hS1 htb hokG
              obtain ⟨W2, hW2⟩ : ∃ W2, W2 = (wr.alloc (.cells #[.int .i64 0, .int .i64 (A : Int), .int .i64 (B : Int)] 50)).alloc (.cells #[.bool true, .int .i64 0, .bool false] 48) := ⟨_, rfl⟩
              have hbW2 : Below wr.heap.size wr W2 := by subst hW2; exact ((Below.refl _ _).alloc (Nat.le_refl _) _).alloc (by simp) _
              have hsW2 : W2.heap.size = wr.heap.size + 2 := by subst hW2; simp
              have hm2 := hm.below_ hbW2 (Nat.le_refl _)
              have ho2 := ho.below_ hbW2 (Nat.le_refl _)
              have hb2 := hb.trans (hbW2.mono hzr)
              have g2 : BxG W2 wr.heap.size 0 (A : Int) (B : Int) := by subst hW2; exact (BxG.new wr _).below ((Below.refl _ _).alloc (Nat.le_refl _) _)
              have r2 : Bx3 W2 (wr.heap.size + 1) (.bool true) (.int .i64 0) (.bool false) := by
                subst hW2
                simpa using Bx3.new (wr.alloc (.cells #[.int .i64 0, .int .i64 (A : Int), .int .i64 (B : Int)] 50)) (.bool true) (.int .i64 0) (.bool false) 48
              have f2 : Fz W2 (wr.heap.size + 1) := by
                subst hW2
                simpa using Fz.new (wr.alloc (.cells #[.int .i64 0, .int .i64 (A : Int), .int .i64 (B : Int)] 50)) #[.bool true, .int .i64 0, .bool false] 48
              have hnl : (Value.slice O (X + k) oc).ownBlock ≠ some (wr.heap.size + 1) := fun hc => by have := (ho.1.lt _ hc).2.2; omega
              obtain ⟨lb1, hO1, hl11, hl12, hl13, hce1⟩ := ho2.1.at_ tbC_len (k := A) hA13
              rw [hT1.out] at hce1
              have la10 : W2.cell? ⟨lb1, A * 3, none⟩ = some (.bool c1) := by have h := hce1 0 (.bool c1) (rfl); simpa using h
              have la11 : W2.cell? ⟨lb1, A * 3 + 1, none⟩ = some (.int .i64 w1) := by have h := hce1 1 (.int .i64 w1) (rfl); simpa using h
              have la12 : W2.cell? ⟨lb1, A * 3 + 2, none⟩ = some (.bool t1) := by have h := hce1 2 (.bool t1) (rfl); simpa using h
              obtain ⟨lb2, hO2, hl21, hl22, hl23, hce2⟩ := ho2.1.at_ tbC_len (k := B) hA23
              rw [hT2.out] at hce2
              obtain rfl : lb1 = lb2 := by rw [hO1] at hO2; injection hO2 with h; injection h
              have la20 : W2.cell? ⟨lb1, B * 3, none⟩ = some (.bool c2) := by have h := hce2 0 (.bool c2) (rfl); simpa using h
              have la21 : W2.cell? ⟨lb1, B * 3 + 1, none⟩ = some (.int .i64 w2) := by have h := hce2 1 (.int .i64 w2) (rfl); simpa using h
              have la22 : W2.cell? ⟨lb1, B * 3 + 2, none⟩ = some (.bool t2) := by have h := hce2 2 (.bool t2) (rfl); simpa using h
              subst hO1
              have HWW2 := Lib.hid hW2; clear hW2
              have hq := g2; obtain ⟨u0, u1, u2⟩ := hq
              have r2d : Bx3 (W2.drewN 1) (wr.heap.size + 1) (.bool true) (.int .i64 0) (.bool false) := r2
              have f2d : Fz (W2.drewN 1) (wr.heap.size + 1) := f2
              have g2d : BxG (W2.drewN 1) wr.heap.size 0 (A : Int) (B : Int) := g2
              have hlD : v1.heap.size ≤ (W2.drewN 1).heap.size := hb2.size
              have hsD : (W2.drewN 1).heap.size = wr.heap.size + 2 := hsW2
              have o1 := off wr.heap.size (Nat.le_refl _)
              have o2 := off (wr.heap.size + 1) (by omega)
              go_wp2_with fail
              rw [← HWW2.out]
              have n1 : ∀ q q' : Nat, (⟨lb1, q, none⟩ : Addr) ≠ ⟨wr.heap.size + 1, q', none⟩ := fun q q' h9 => by have h8 := congrArg Addr.block h9; dsimp only at h8; have := (ho.1.lt lb1 (by simp [Value.ownBlock])).2.2; omega
              have n2 : ∀ q q' : Nat, (⟨wr.heap.size, q, none⟩ : Addr) ≠ ⟨wr.heap.size + 1, q', none⟩ := fun q q' h9 => by have h8 := congrArg Addr.block h9; dsimp only at h8; omega
              have hlbw : lb1 < wr.heap.size := (ho.1.lt lb1 (by simp [Value.ownBlock])).2.2
              have ol : OffB v1.heap.size G lb1 := ho.2 lb1 (by simp [Value.ownBlock])
              have u1d : (W2.drewN 1).cell? ⟨wr.heap.size, 1, none⟩ = some (.int .i64 (A : Int)) := u1
              have u1e : (World.drew W2).cell? ⟨wr.heap.size, 1, none⟩ = some (.int .i64 (A : Int)) := u1
              have u2d : (W2.drewN 1).cell? ⟨wr.heap.size, 2, none⟩ = some (.int .i64 (B : Int)) := u2
              have u2e : (World.drew W2).cell? ⟨wr.heap.size, 2, none⟩ = some (.int .i64 (B : Int)) := u2
              have la10d : (W2.drewN 1).cell? ⟨lb1, A * 3, none⟩ = some (.bool c1) := la10
              have la10e : (World.drew W2).cell? ⟨lb1, A * 3, none⟩ = some (.bool c1) := la10
              have la11d : (W2.drewN 1).cell? ⟨lb1, A * 3 + 1, none⟩ = some (.int .i64 w1) := la11
              have la11e : (World.drew W2).cell? ⟨lb1, A * 3 + 1, none⟩ = some (.int .i64 w1) := la11
              have la12d : (W2.drewN 1).cell? ⟨lb1, A * 3 + 2, none⟩ = some (.bool t1) := la12
              have la12e : (World.drew W2).cell? ⟨lb1, A * 3 + 2, none⟩ = some (.bool t1) := la12
              have la20d : (W2.drewN 1).cell? ⟨lb1, B * 3, none⟩ = some (.bool c2) := la20
              have la20e : (World.drew W2).cell? ⟨lb1, B * 3, none⟩ = some (.bool c2) := la20
              have la21d : (W2.drewN 1).cell? ⟨lb1, B * 3 + 1, none⟩ = some (.int .i64 w2) := la21
              have la21e : (World.drew W2).cell? ⟨lb1, B * 3 + 1, none⟩ = some (.int .i64 w2) := la21
              have la22d : (W2.drewN 1).cell? ⟨lb1, B * 3 + 2, none⟩ = some (.bool t2) := la22
              have la22e : (World.drew W2).cell? ⟨lb1, B * 3 + 2, none⟩ = some (.bool t2) := la22
              go_region_held3 (fun w' => w'.cell? ⟨wr.heap.size, 1, none⟩ = some (.int .i64 (A : Int)) ∧ w'.cell? ⟨wr.heap.size, 2, none⟩ = some (.int .i64 (B : Int)) ∧ w'.cell? ⟨lb1, A * 3, none⟩ = some (.bool c1) ∧ w'.cell? ⟨lb1, A * 3 + 1, none⟩ = some (.int .i64 w1) ∧ w'.cell? ⟨lb1, A * 3 + 2, none⟩ = some (.bool t1) ∧ w'.cell? ⟨lb1, B * 3, none⟩ = some (.bool c2) ∧ w'.cell? ⟨lb1, B * 3 + 1, none⟩ = some (.int .i64 w2) ∧ w'.cell? ⟨lb1, B * 3 + 2, none⟩ = some (.bool t2)) (first | (with_reducible exact ⟨u1e, u2e, la10e, la11e, la12e, la20e, la21e, la22e⟩) | (with_reducible exact ⟨u1d, u2d, la10d, la11d, la12d, la20d, la21d, la22d⟩) | (with_reducible exact ⟨hv5.cellF u1d o1, hv5.cellF u2d o1, hv5.cellF la10d ol, hv5.cellF la11d ol, hv5.cellF la12d ol, hv5.cellF la20d ol, hv5.cellF la21d ol, hv5.cellF la22d ol⟩) | (exact ⟨(World.cell?_setCell_other _ _ _ _ (by first | exact n2 _ _ | exact (n2 _ _).symm)).trans ((World.cell?_setCell_other _ _ _ _ (by first | exact n2 _ _ | exact (n2 _ _).symm)).trans ((World.cell?_setCell_other _ _ _ _ (by first | exact n2 _ _ | exact (n2 _ _).symm)).trans (hv5.cellF u1d o1))), (World.cell?_setCell_other _ _ _ _ (by first | exact n2 _ _ | exact (n2 _ _).symm)).trans ((World.cell?_setCell_other _ _ _ _ (by first | exact n2 _ _ | exact (n2 _ _).symm)).trans ((World.cell?_setCell_other _ _ _ _ (by first | exact n2 _ _ | exact (n2 _ _).symm)).trans (hv5.cellF u2d o1))), (World.cell?_setCell_other _ _ _ _ (by first | exact n1 _ _ | exact (n1 _ _).symm)).trans ((World.cell?_setCell_other _ _ _ _ (by first | exact n1 _ _ | exact (n1 _ _).symm)).trans ((World.cell?_setCell_other _ _ _ _ (by first | exact n1 _ _ | exact (n1 _ _).symm)).trans (hv5.cellF la10d ol))), (World.cell?_setCell_other _ _ _ _ (by first | exact n1 _ _ | exact (n1 _ _).symm)).trans ((World.cell?_setCell_other _ _ _ _ (by first | exact n1 _ _ | exact (n1 _ _).symm)).trans ((World.cell?_setCell_other _ _ _ _ (by first | exact n1 _ _ | exact (n1 _ _).symm)).trans (hv5.cellF la11d ol))), (World.cell?_setCell_other _ _ _ _ (by first | exact n1 _ _ | exact (n1 _ _).symm)).trans ((World.cell?_setCell_other _ _ _ _ (by first | exact n1 _ _ | exact (n1 _ _).symm)).trans ((World.cell?_setCell_other _ _ _ _ (by first | exact n1 _ _ | exact (n1 _ _).symm)).trans (hv5.cellF la12d ol))), (World.cell?_setCell_other _ _ _ _ (by first | exact n1 _ _ | exact (n1 _ _).symm)).trans ((World.cell?_setCell_other _ _ _ _ (by first | exact n1 _ _ | exact (n1 _ _).symm)).trans ((World.cell?_setCell_other _ _ _ _ (by first | exact n1 _ _ | exact (n1 _ _).symm)).trans (hv5.cellF la20d ol))), (World.cell?_setCell_other _ _ _ _ (by first | exact n1 _ _ | exact (n1 _ _).symm)).trans ((World.cell?_setCell_other _ _ _ _ (by first | exact n1 _ _ | exact (n1 _ _).symm)).trans ((World.cell?_setCell_other _ _ _ _ (by first | exact n1 _ _ | exact (n1 _ _).symm)).trans (hv5.cellF la21d ol))), (World.cell?_setCell_other _ _ _ _ (by first | exact n1 _ _ | exact (n1 _ _).symm)).trans ((World.cell?_setCell_other _ _ _ _ (by first | exact n1 _ _ | exact (n1 _ _).symm)).trans ((World.cell?_setCell_other _ _ _ _ (by first | exact n1 _ _ | exact (n1 _ _).symm)).trans (hv5.cellF la22d ol)))⟩) | go_keep) (first | (go_at_call 19; refine (HC.out _ (hm2.drewN_ 1) hlD).mono ?_; rintro e w5 ⟨G5, rfl, hm5, hv5⟩; have r5 := r2d.mv hv5 o2; have f5 := f2d.mvO hv5 (by omega) o2; have hq5 := r5; obtain ⟨j0, j1, j2⟩ := hq5; have e0 := f5 0; have e1 := f5 1; have e2 := f5 2))
              have ho5 := (show OMT 48 3 tbC (W2.drewN 1) v1.heap.size G v1.heap.size _ _ _ from ho2).mv hv5
              have hb5 := hv5.toBelow (below_drewN hb2 1) (Nat.le_refl _) (fun g hg => (hm2.lt g hg).1) hlD
              have r6 := r5.set (.bool nc) (.int .i64 nw) (.bool nt)
              obtain ⟨s0, s1, s2⟩ := r6
              clear u0 u1 u2 n1 n2 la10 la11 la12 la20 la21 la22 u1d u2d la10d la11d la12d la20d la21d la22d u1e u2e la10e la11e la12e la20e la21e la22e
              have hsz : (((w5.setCell ⟨wr.heap.size + 1, 0, none⟩ (.bool nc)).setCell ⟨wr.heap.size + 1, 1, none⟩ (.int .i64 nw)).setCell ⟨wr.heap.size + 1, 2, none⟩ (.bool nt)).heap.size = w5.heap.size := by simp
              have hcn : ∀ i u, (tbC ⟨nc, nw, nt⟩)[i]? = some u → ((((w5.setCell ⟨wr.heap.size + 1, 0, none⟩ (.bool nc)).setCell ⟨wr.heap.size + 1, 1, none⟩ (.int .i64 nw)).setCell ⟨wr.heap.size + 1, 2, none⟩ (.bool nt)).alloc (.cells #[.bool nc, .int .i64 nw, .bool nt] 48)).cell? ⟨w5.heap.size, i, none⟩ = some u := by
                intro i u h
                have h8 := cells_new (((w5.setCell ⟨wr.heap.size + 1, 0, none⟩ (.bool nc)).setCell ⟨wr.heap.size + 1, 1, none⟩ (.int .i64 nw)).setCell ⟨wr.heap.size + 1, 2, none⟩ (.bool nt)) (tbC ⟨nc, nw, nt⟩) 48 i u h
                rw [hsz] at h8
                exact h8
              clear hsz
              have hoA := (((((ho5).setc ⟨wr.heap.size + 1, 0, none⟩ (.bool nc) hnl).setc ⟨wr.heap.size + 1, 1, none⟩ (.int .i64 nw) hnl).setc ⟨wr.heap.size + 1, 2, none⟩ (.bool nt) hnl)).alloc_ (.cells #[.bool nc, .int .i64 nw, .bool nt] 48)
              have hmA := ((hm5).set3 (hv5.offF (by omega) o2) (.bool nc) (.int .i64 nw) (.bool nt)).alloc_ (.cells #[.bool nc, .int .i64 nw, .bool nt] 48)
              have hbA := (((((hb5).setCell (p := ⟨wr.heap.size + 1, 0, none⟩) (by show v1.heap.size ≤ wr.heap.size + 1; omega) (.bool nc)).setCell (p := ⟨wr.heap.size + 1, 1, none⟩) (by show v1.heap.size ≤ wr.heap.size + 1; omega) (.int .i64 nw)).setCell (p := ⟨wr.heap.size + 1, 2, none⟩) (by show v1.heap.size ≤ wr.heap.size + 1; omega) (.bool nt))).alloc ((((((hb5).setCell (p := ⟨wr.heap.size + 1, 0, none⟩) (by show v1.heap.size ≤ wr.heap.size + 1; omega) (.bool nc)).setCell (p := ⟨wr.heap.size + 1, 1, none⟩) (by show v1.heap.size ≤ wr.heap.size + 1; omega) (.int .i64 nw)).setCell (p := ⟨wr.heap.size + 1, 2, none⟩) (by show v1.heap.size ≤ wr.heap.size + 1; omega) (.bool nt))).size) (.cells #[.bool nc, .int .i64 nw, .bool nt] 48)
              go_wp2_with (at_builtin; refine wpList_appP rfl _ _ rfl rfl hoA.1 rfl hcn (by omega) (hbA.size) ?_; intro A7 c7 w7 hown7 hg7 hat7 hk7)
              have ho7 := hoA.app hmA hown7 hat7
              have hm7 := hmA.app hoA hg7
              have hb7 := below_grown hbA hg7 hbA.size (fun j hj => (hoA.1.lt j hj).1)
              have hrel1 : MkO w7 v1.heap.size v1.heap.size x y none 0 0 (smp X gs (k + 1)).1 G5 ∧ OMT 48 3 tbC w7 v1.heap.size G5 v1.heap.size (.slice A7 (X + k + 1) c7) (X + k + 1) (smp X gs (k + 1)).2 := by rw [hS.out]; exact ⟨hm7, ho7⟩
              clear hm7 ho7 hoA hmA hbA hown7 hg7 hat7 hk7 hS hm ho hb
              go_wp2
              go_roundw
              case rel => exact ⟨k + 1, _, _, _, by omega, by go_num, rfl, hrel1.1, hrel1.2, hb7⟩
              case measure => simp [intOf]; omega
            | and_ hk' a0 a1 b0 b1 =>
              dsimp only at hk' a0 a1 b0 b1
              subst hk'
              obtain ⟨A, rfl⟩ : ∃ A : Nat, ga = A := ⟨ga.toNat, by omega⟩
              obtain ⟨B, rfl⟩ : ∃ B : Nat, gb = B := ⟨gb.toNat, by omega⟩
              have hA11 : (A : Int) < (X : Int) + (k : Int) := by omega
              have hA12 : (A : Int) < ((X + k : Nat) : Int) := by omega
              have hA13 : A < X + k := by omega
              have hA21 : (B : Int) < (X : Int) + (k : Int) := by omega
              have hA22 : (B : Int) < ((X + k : Nat) : Int) := by omega
              have hA23 : B < X + k := by omega
              obtain ⟨c1, w1, t1, hT1⟩ : ∃ c w t, Hid (tt SL A = ⟨c, w, t⟩) := ⟨_, _, _, Lib.hid rfl⟩
              obtain ⟨c2, w2, t2, hT2⟩ : ∃ c w t, Hid (tt SL B = ⟨c, w, t⟩) := ⟨_, _, _, Lib.hid rfl⟩
              obtain ⟨Z, nc, nw, nt, hN⟩ : ∃ Z c w t, Hid (andT X SG ⟨c1, w1, t1⟩ ⟨c2, w2, t2⟩ = (Z, ⟨c, w, t⟩)) := ⟨_, _, _, _, Lib.hid rfl⟩
              have hS : Hid (smp X gs (k + 1) = (Z, SL ++ [⟨nc, nw, nt⟩])) := Lib.hid (by
                have h : gateT X SG SL ⟨1, (A : Int), (B : Int)⟩ = (Z, ⟨nc, nw, nt⟩) := by rw [← hN.out, ← hT1.out, ← hT2.out]; rfl
                rw [hS1.out, h])
              have hcall := fun W' h1 h2 => andOf_any v1.heap.size v1.heap.size x y none 0 0 SG G X ⟨c1, w1, t1⟩ ⟨c2, w2, t2⟩ W' h1 hx hy (by omega) h2 hXe
              rw [hN.out] at hcall
              dsimp only at hcall
              have HC := Lib.hid hcall; clear hcall hS1 htb hokG
              obtain ⟨W2, hW2⟩ : ∃ W2, W2 = (wr.alloc (.cells #[.int .i64 1, .int .i64 (A : Int), .int .i64 (B : Int)] 50)).alloc (.cells #[.bool true, .int .i64 0, .bool false] 48) := ⟨_, rfl⟩
              have hbW2 : Below wr.heap.size wr W2 := by subst hW2; exact ((Below.refl _ _).alloc (Nat.le_refl _) _).alloc (by simp) _
              have hsW2 : W2.heap.size = wr.heap.size + 2 := by subst hW2; simp
              have hm2 := hm.below_ hbW2 (Nat.le_refl _)
              have ho2 := ho.below_ hbW2 (Nat.le_refl _)
              have hb2 := hb.trans (hbW2.mono hzr)
              have g2 : BxG W2 wr.heap.size 1 (A : Int) (B : Int) := by subst hW2; exact (BxG.new wr _).below ((Below.refl _ _).alloc (Nat.le_refl _) _)
              have r2 : Bx3 W2 (wr.heap.size + 1) (.bool true) (.int .i64 0) (.bool false) := by
                subst hW2
                simpa using Bx3.new (wr.alloc (.cells #[.int .i64 1, .int .i64 (A : Int), .int .i64 (B : Int)] 50)) (.bool true) (.int .i64 0) (.bool false) 48
              have f2 : Fz W2 (wr.heap.size + 1) := by
                subst hW2
                simpa using Fz.new (wr.alloc (.cells #[.int .i64 1, .int .i64 (A : Int), .int .i64 (B : Int)] 50)) #[.bool true, .int .i64 0, .bool false] 48
              have hnl : (Value.slice O (X + k) oc).ownBlock ≠ some (wr.heap.size + 1) := fun hc => by have := (ho.1.lt _ hc).2.2; omega
              obtain ⟨lb1, hO1, hl11, hl12, hl13, hce1⟩ := ho2.1.at_ tbC_len (k := A) hA13
              rw [hT1.out] at hce1
              have la10 : W2.cell? ⟨lb1, A * 3, none⟩ = some (.bool c1) := by have h := hce1 0 (.bool c1) (rfl); simpa using h
              have la11 : W2.cell? ⟨lb1, A * 3 + 1, none⟩ = some (.int .i64 w1) := by have h := hce1 1 (.int .i64 w1) (rfl); simpa using h
              have la12 : W2.cell? ⟨lb1, A * 3 + 2, none⟩ = some (.bool t1) := by have h := hce1 2 (.bool t1) (rfl); simpa using h
              obtain ⟨lb2, hO2, hl21, hl22, hl23, hce2⟩ := ho2.1.at_ tbC_len (k := B) hA23
              rw [hT2.out] at hce2
              obtain rfl : lb1 = lb2 := by rw [hO1] at hO2; injection hO2 with h; injection h
              have la20 : W2.cell? ⟨lb1, B * 3, none⟩ = some (.bool c2) := by have h := hce2 0 (.bool c2) (rfl); simpa using h
              have la21 : W2.cell? ⟨lb1, B * 3 + 1, none⟩ = some (.int .i64 w2) := by have h := hce2 1 (.int .i64 w2) (rfl); simpa using h
              have la22 : W2.cell? ⟨lb1, B * 3 + 2, none⟩ = some (.bool t2) := by have h := hce2 2 (.bool t2) (rfl); simpa using h
              subst hO1
              have HWW2 := Lib.hid hW2; clear hW2
              have hq := g2; obtain ⟨u0, u1, u2⟩ := hq
              have r2d : Bx3 (W2.drewN 1) (wr.heap.size + 1) (.bool true) (.int .i64 0) (.bool false) := r2
              have f2d : Fz (W2.drewN 1) (wr.heap.size + 1) := f2
              have g2d : BxG (W2.drewN 1) wr.heap.size 1 (A : Int) (B : Int) := g2
              have hlD : v1.heap.size ≤ (W2.drewN 1).heap.size := hb2.size
              have hsD : (W2.drewN 1).heap.size = wr.heap.size + 2 := hsW2
              have o1 := off wr.heap.size (Nat.le_refl _)
              have o2 := off (wr.heap.size + 1) (by omega)
              go_wp2_with fail
              rw [← HWW2.out]
              have n1 : ∀ q q' : Nat, (⟨lb1, q, none⟩ : Addr) ≠ ⟨wr.heap.size + 1, q', none⟩ := fun q q' h9 => by have h8 := congrArg Addr.block h9; dsimp only at h8; have := (ho.1.lt lb1 (by simp [Value.ownBlock])).2.2; omega
              have n2 : ∀ q q' : Nat, (⟨wr.heap.size, q, none⟩ : Addr) ≠ ⟨wr.heap.size + 1, q', none⟩ := fun q q' h9 => by have h8 := congrArg Addr.block h9; dsimp only at h8; omega
              have hlbw : lb1 < wr.heap.size := (ho.1.lt lb1 (by simp [Value.ownBlock])).2.2
              have ol : OffB v1.heap.size G lb1 := ho.2 lb1 (by simp [Value.ownBlock])
              have u1d : (W2.drewN 1).cell? ⟨wr.heap.size, 1, none⟩ = some (.int .i64 (A : Int)) := u1
              have u1e : (World.drew W2).cell? ⟨wr.heap.size, 1, none⟩ = some (.int .i64 (A : Int)) := u1
              have u2d : (W2.drewN 1).cell? ⟨wr.heap.size, 2, none⟩ = some (.int .i64 (B : Int)) := u2
              have u2e : (World.drew W2).cell? ⟨wr.heap.size, 2, none⟩ = some (.int .i64 (B : Int)) := u2
              have la10d : (W2.drewN 1).cell? ⟨lb1, A * 3, none⟩ = some (.bool c1) := la10
              have la10e : (World.drew W2).cell? ⟨lb1, A * 3, none⟩ = some (.bool c1) := la10
              have la11d : (W2.drewN 1).cell? ⟨lb1, A * 3 + 1, none⟩ = some (.int .i64 w1) := la11
              have la11e : (World.drew W2).cell? ⟨lb1, A * 3 + 1, none⟩ = some (.int .i64 w1) := la11
              have la12d : (W2.drewN 1).cell? ⟨lb1, A * 3 + 2, none⟩ = some (.bool t1) := la12
              have la12e : (World.drew W2).cell? ⟨lb1, A * 3 + 2, none⟩ = some (.bool t1) := la12
              have la20d : (W2.drewN 1).cell? ⟨lb1, B * 3, none⟩ = some (.bool c2) := la20
              have la20e : (World.drew W2).cell? ⟨lb1, B * 3, none⟩ = some (.bool c2) := la20
              have la21d : (W2.drewN 1).cell? ⟨lb1, B * 3 + 1, none⟩ = some (.int .i64 w2) := la21
              have la21e : (World.drew W2).cell? ⟨lb1, B * 3 + 1, none⟩ = some (.int .i64 w2) := la21
              have la22d : (W2.drewN 1).cell? ⟨lb1, B * 3 + 2, none⟩ = some (.bool t2) := la22
              have la22e : (World.drew W2).cell? ⟨lb1, B * 3 + 2, none⟩ = some (.bool t2) := la22
              go_region_held3 (fun w' => w'.cell? ⟨wr.heap.size, 1, none⟩ = some (.int .i64 (A : Int)) ∧ w'.cell? ⟨wr.heap.size, 2, none⟩ = some (.int .i64 (B : Int)) ∧ w'.cell? ⟨lb1, A * 3, none⟩ = some (.bool c1) ∧ w'.cell? ⟨lb1, A * 3 + 1, none⟩ = some (.int .i64 w1) ∧ w'.cell? ⟨lb1, A * 3 + 2, none⟩ = some (.bool t1) ∧ w'.cell? ⟨lb1, B * 3, none⟩ = some (.bool c2) ∧ w'.cell? ⟨lb1, B * 3 + 1, none⟩ = some (.int .i64 w2) ∧ w'.cell? ⟨lb1, B * 3 + 2, none⟩ = some (.bool t2)) (first | (with_reducible exact ⟨u1e, u2e, la10e, la11e, la12e, la20e, la21e, la22e⟩) | (with_reducible exact ⟨u1d, u2d, la10d, la11d, la12d, la20d, la21d, la22d⟩) | (with_reducible exact ⟨hv5.cellF u1d o1, hv5.cellF u2d o1, hv5.cellF la10d ol, hv5.cellF la11d ol, hv5.cellF la12d ol, hv5.cellF la20d ol, hv5.cellF la21d ol, hv5.cellF la22d ol⟩) | (exact ⟨(World.cell?_setCell_other _ _ _ _ (by first | exact n2 _ _ | exact (n2 _ _).symm)).trans ((World.cell?_setCell_other _ _ _ _ (by first | exact n2 _ _ | exact (n2 _ _).symm)).trans ((World.cell?_setCell_other _ _ _ _ (by first | exact n2 _ _ | exact (n2 _ _).symm)).trans (hv5.cellF u1d o1))), (World.cell?_setCell_other _ _ _ _ (by first | exact n2 _ _ | exact (n2 _ _).symm)).trans ((World.cell?_setCell_other _ _ _ _ (by first | exact n2 _ _ | exact (n2 _ _).symm)).trans ((World.cell?_setCell_other _ _ _ _ (by first | exact n2 _ _ | exact (n2 _ _).symm)).trans (hv5.cellF u2d o1))), (World.cell?_setCell_other _ _ _ _ (by first | exact n1 _ _ | exact (n1 _ _).symm)).trans ((World.cell?_setCell_other _ _ _ _ (by first | exact n1 _ _ | exact (n1 _ _).symm)).trans ((World.cell?_setCell_other _ _ _ _ (by first | exact n1 _ _ | exact (n1 _ _).symm)).trans (hv5.cellF la10d ol))), (World.cell?_setCell_other _ _ _ _ (by first | exact n1 _ _ | exact (n1 _ _).symm)).trans ((World.cell?_setCell_other _ _ _ _ (by first | exact n1 _ _ | exact (n1 _ _).symm)).trans ((World.cell?_setCell_other _ _ _ _ (by first | exact n1 _ _ | exact (n1 _ _).symm)).trans (hv5.cellF la11d ol))), (World.cell?_setCell_other _ _ _ _ (by first | exact n1 _ _ | exact (n1 _ _).symm)).trans ((World.cell?_setCell_other _ _ _ _ (by first | exact n1 _ _ | exact (n1 _ _).symm)).trans ((World.cell?_setCell_other _ _ _ _ (by first | exact n1 _ _ | exact (n1 _ _).symm)).trans (hv5.cellF la12d ol))), (World.cell?_setCell_other _ _ _ _ (by first | exact n1 _ _ | exact (n1 _ _).symm)).trans ((World.cell?_setCell_other _ _ _ _ (by first | exact n1 _ _ | exact (n1 _ _).symm)).trans ((World.cell?_setCell_other _ _ _ _ (by first | exact n1 _ _ | exact (n1 _ _).symm)).trans (hv5.cellF la20d ol))), (World.cell?_setCell_other _ _ _ _ (by first | exact n1 _ _ | exact (n1 _ _).symm)).trans ((World.cell?_setCell_other _ _ _ _ (by first | exact n1 _ _ | exact (n1 _ _).symm)).trans ((World.cell?_setCell_other _ _ _ _ (by first | exact n1 _ _ | exact (n1 _ _).symm)).trans (hv5.cellF la21d ol))), (World.cell?_setCell_other _ _ _ _ (by first | exact n1 _ _ | exact (n1 _ _).symm)).trans ((World.cell?_setCell_other _ _ _ _ (by first | exact n1 _ _ | exact (n1 _ _).symm)).trans ((World.cell?_setCell_other _ _ _ _ (by first | exact n1 _ _ | exact (n1 _ _).symm)).trans (hv5.cellF la22d ol)))⟩) | go_keep) (first | (go_at_call 20; refine (HC.out _ (hm2.drewN_ 1) hlD).mono ?_; rintro e w5 ⟨G5, rfl, hm5, hv5⟩; have r5 := r2d.mv hv5 o2; have f5 := f2d.mvO hv5 (by omega) o2; have hq5 := r5; obtain ⟨j0, j1, j2⟩ := hq5; have e0 := f5 0; have e1 := f5 1; have e2 := f5 2))
              have ho5 := (show OMT 48 3 tbC (W2.drewN 1) v1.heap.size G v1.heap.size _ _ _ from ho2).mv hv5
              have hb5 := hv5.toBelow (below_drewN hb2 1) (Nat.le_refl _) (fun g hg => (hm2.lt g hg).1) hlD
              have r6 := r5.set (.bool nc) (.int .i64 nw) (.bool nt)
              obtain ⟨s0, s1, s2⟩ := r6
              clear u0 u1 u2 n1 n2 la10 la11 la12 la20 la21 la22 u1d u2d la10d la11d la12d la20d la21d la22d u1e u2e la10e la11e la12e la20e la21e la22e
              have hsz : (((w5.setCell ⟨wr.heap.size + 1, 0, none⟩ (.bool nc)).setCell ⟨wr.heap.size + 1, 1, none⟩ (.int .i64 nw)).setCell ⟨wr.heap.size + 1, 2, none⟩ (.bool nt)).heap.size = w5.heap.size := by simp
              have hcn : ∀ i u, (tbC ⟨nc, nw, nt⟩)[i]? = some u → ((((w5.setCell ⟨wr.heap.size + 1, 0, none⟩ (.bool nc)).setCell ⟨wr.heap.size + 1, 1, none⟩ (.int .i64 nw)).setCell ⟨wr.heap.size + 1, 2, none⟩ (.bool nt)).alloc (.cells #[.bool nc, .int .i64 nw, .bool nt] 48)).cell? ⟨w5.heap.size, i, none⟩ = some u := by
                intro i u h
                have h8 := cells_new (((w5.setCell ⟨wr.heap.size + 1, 0, none⟩ (.bool nc)).setCell ⟨wr.heap.size + 1, 1, none⟩ (.int .i64 nw)).setCell ⟨wr.heap.size + 1, 2, none⟩ (.bool nt)) (tbC ⟨nc, nw, nt⟩) 48 i u h
                rw [hsz] at h8
                exact h8
              clear hsz
              have hoA := (((((ho5).setc ⟨wr.heap.size + 1, 0, none⟩ (.bool nc) hnl).setc ⟨wr.heap.size + 1, 1, none⟩ (.int .i64 nw) hnl).setc ⟨wr.heap.size + 1, 2, none⟩ (.bool nt) hnl)).alloc_ (.cells #[.bool nc, .int .i64 nw, .bool nt] 48)
              have hmA := ((hm5).set3 (hv5.offF (by omega) o2) (.bool nc) (.int .i64 nw) (.bool nt)).alloc_ (.cells #[.bool nc, .int .i64 nw, .bool nt] 48)
              have hbA := (((((hb5).setCell (p := ⟨wr.heap.size + 1, 0, none⟩) (by show v1.heap.size ≤ wr.heap.size + 1; omega) (.bool nc)).setCell (p := ⟨wr.heap.size + 1, 1, none⟩) (by show v1.heap.size ≤ wr.heap.size + 1; omega) (.int .i64 nw)).setCell (p := ⟨wr.heap.size + 1, 2, none⟩) (by show v1.heap.size ≤ wr.heap.size + 1; omega) (.bool nt))).alloc ((((((hb5).setCell (p := ⟨wr.heap.size + 1, 0, none⟩) (by show v1.heap.size ≤ wr.heap.size + 1; omega) (.bool nc)).setCell (p := ⟨wr.heap.size + 1, 1, none⟩) (by show v1.heap.size ≤ wr.heap.size + 1; omega) (.int .i64 nw)).setCell (p := ⟨wr.heap.size + 1, 2, none⟩) (by show v1.heap.size ≤ wr.heap.size + 1; omega) (.bool nt))).size) (.cells #[.bool nc, .int .i64 nw, .bool nt] 48)
              go_wp2_with (at_builtin; refine wpList_appP rfl _ _ rfl rfl hoA.1 rfl hcn (by omega) (hbA.size) ?_; intro A7 c7 w7 hown7 hg7 hat7 hk7)
              have ho7 := hoA.app hmA hown7 hat7
              have hm7 := hmA.app hoA hg7
              have hb7 := below_grown hbA hg7 hbA.size (fun j hj => (hoA.1.lt j hj).1)
              have hrel1 : MkO w7 v1.heap.size v1.heap.size x y none 0 0 (smp X gs (k + 1)).1 G5 ∧ OMT 48 3 tbC w7 v1.heap.size G5 v1.heap.size (.slice A7 (X + k + 1) c7) (X + k + 1) (smp X gs (k + 1)).2 := by rw [hS.out]; exact ⟨hm7, ho7⟩
              clear hm7 ho7 hoA hmA hbA hown7 hg7 hat7 hk7 hS hm ho hb
              go_wp2
              go_roundw
              case rel => exact ⟨k + 1, _, _, _, by omega, by go_num, rfl, hrel1.1, hrel1.2, hb7⟩
              case measure => simp [intOf]; omega
          · obtain rfl : ng = k := Nat.le_antisymm (Nat.le_of_not_lt hlt) hk
            have hxr := hx1.below hb
            have hq := hxr; obtain ⟨k0, k1, k2, k3⟩ := hq
            rw [hS0.out] at hm ho hsl
            dsimp only at hm ho hsl
            go_wp2
            clear k0 k1 k2 k3 hxr
            go_loopw [89] (fun i wr => ∃ (k : Nat) (G : Option Nat) (U : Option Addr) (uc : Nat), k ≤ no ∧ i = .int .i64 k ∧ MkO wr v1.heap.size v1.heap.size x y U k uc (smo X GS0 L0 os k).1 G ∧ OM wr v1.heap.size G v1.heap.size (.slice U k uc) k (smo X GS0 L0 os k).2 ∧ OMT 48 3 tbC wr v1.heap.size G v1.heap.size (.slice O (X + ng) oc) (X + ng) L0 ∧ Apart (.slice U k uc) (.slice O (X + ng) oc) ∧ Below v1.heap.size v1 wr) (fun i _ => no - (intOf i).toNat)
            case atStart => exact ⟨0, G, none, 0, Nat.zero_le _, rfl, hm, OM.none_ _ _ _ _, ho, Apart.noneG _ _ _, hb⟩
            case round =>
              clear hm ho hb hBr hzr
              obtain ⟨k, G, U, uc, hk, rfl, hm, hu, ho, hap, hb⟩ := hrel
              have hBr := hBv.trans (hb.mono hBv.size)
              have hzr := hb.size
              by_cases hlt : k < no
              · obtain ⟨bo, oo, rfl, hboB, cz⟩ := (hr.2.below hBr (Nat.le_refl _)).at_ hlt
                have hzz := HOS.out k hlt
                have hok := HSO.out k (by omega)
                obtain ⟨Zi, hZi⟩ : ∃ Z : Nat, Hid (gi os k = (Z : Int)) := ⟨(gi os k).toNat, Lib.hid (by omega)⟩
                rw [hZi.out] at hzz cz
                obtain ⟨hz0, hz2⟩ := hzz
                have hA13 : Zi < X + ng := by omega
                have hA11 : (Zi : Int) < (X : Int) + (ng : Int) := by omega
                obtain ⟨SG, SU, hSk⟩ : ∃ SG SU, Hid (smo X GS0 L0 os k = (SG, SU)) := ⟨_, _, Lib.hid rfl⟩
                have hS1 : Hid (smo X GS0 L0 os (k + 1) = ((made X SG (tt L0 Zi)).1, SU ++ [(made X SG (tt L0 Zi)).2])) := Lib.hid (by simp only [smo]; rw [hSk.out, hZi.out, Int.toNat_natCast])
                rw [hSk.out] at hm hu hok
                obtain ⟨hokG, hle, _⟩ := hok
                dsimp only at hm hu hokG hle
                have hle' : SG.length ≤ 2000 := by omega
                have htb := (HSM.out ng (Nat.le_refl _)).tb Zi hA13
                rw [hS0.out] at htb
                dsimp only at htb
                have htb := htb.mono (m := (X : Int) + SG.length) (by omega)
                clear hle
                obtain ⟨c1, w1, t1, hT1⟩ : ∃ c w t, Hid (tt L0 Zi = ⟨c, w, t⟩) := ⟨_, _, _, Lib.hid rfl⟩
                rw [hT1.out] at htb hS1
                obtain ⟨Z, V, hN⟩ : ∃ Z V, Hid (made X SG ⟨c1, w1, t1⟩ = (Z, V)) := ⟨_, _, Lib.hid rfl⟩
                rw [hN.out] at hS1
                dsimp only at hS1
                have hcall := fun W' h1 h2 => made_any v1.heap.size v1.heap.size x y U k uc SG G X ⟨c1, w1, t1⟩ W' h1 hx hy (by omega) h2 hXe
                rw [hN.out] at hcall
                dsimp only at hcall
                have HC := Lib.hid hcall; clear hcall htb hokG
                obtain ⟨lb1, hO1, hl11, hl12, hl13, hce1⟩ := ho.1.at_ tbC_len (k := Zi) hA13
                rw [hT1.out] at hce1
                have la10 : wr.cell? ⟨lb1, Zi * 3, none⟩ = some (.bool c1) := by have h := hce1 0 (.bool c1) (rfl); simpa using h
                have la11 : wr.cell? ⟨lb1, Zi * 3 + 1, none⟩ = some (.int .i64 w1) := by have h := hce1 1 (.int .i64 w1) (rfl); simpa using h
                have la12 : wr.cell? ⟨lb1, Zi * 3 + 2, none⟩ = some (.bool t1) := by have h := hce1 2 (.bool t1) (rfl); simpa using h
                subst hO1
                have hq := hm; obtain ⟨_, _, _, A8, c8, hx8, _, _⟩ := hq
                obtain ⟨_, _, _, m3⟩ := hx8
                have hlD : v1.heap.size ≤ (wr.drewN 1).heap.size := hzr
                go_wp2_with fail
                have m3' : (World.drew wr).cell? ⟨v1.heap.size, 3, none⟩ = some (.slice U k uc) := m3
                have la10' : (World.drew wr).cell? ⟨lb1, Zi * 3, none⟩ = some (.bool c1) := la10
                have la11' : (World.drew wr).cell? ⟨lb1, Zi * 3 + 1, none⟩ = some (.int .i64 w1) := la11
                have la12' : (World.drew wr).cell? ⟨lb1, Zi * 3 + 2, none⟩ = some (.bool t1) := la12
                go_region_law (first | (go_simp; go_at_call 22; refine (HC.out _ (hm.drewN_ 1) hlD).mono ?_; rintro e w5 ⟨G5, rfl, hm5, hv5⟩; have hz5 := hv5.size; have hq5 := hm5; obtain ⟨_, _, _, A9, c9, hx9, _, _⟩ := hq5; obtain ⟨_, _, _, n3⟩ := hx9; have hmA := hm5.alloc_ (.cells #[.int .i64 V] 3); have hqA := hmA; obtain ⟨_, _, _, A10, c10, hx10, _, _⟩ := hqA; obtain ⟨_, _, _, n4⟩ := hx10; have huA := (OM.mv (show OM (wr.drewN 1) v1.heap.size G v1.heap.size _ _ _ from hu) hv5).alloc_ (.cells #[.int .i64 V] 3)) | (refine step_appI _ (by rfl) _ _ (by rfl) (by rfl) huA.1 (by rfl) (RI_one _ _ _ _ (by simp)) (by omega) (by simp; omega) ?_; intro A6 c6 w6 hown6 hg6 hat6 hk6; have hm6 := hmA.appM huA hg6; have hq6 := hm6; obtain ⟨_, _, hf6, A11, c11, hx11, _, _⟩ := hq6; obtain ⟨_, _, _, n5⟩ := hx11; have e3 := hf6 3))
                all_goals
                  have ho5 := (show OMT 48 3 tbC (wr.drewN 1) v1.heap.size G v1.heap.size _ _ _ from ho).mv hv5
                  have hb5 := hv5.toBelow (below_drewN hb 1) (Nat.le_refl _) (fun g hg => (hm.lt g hg).1) hlD
                  have hbA := hb5.alloc hb5.size (.cells #[.int .i64 V] 3)
                  have hb6 := below_grown hbA hg6 hbA.size (fun j hj => (huA.1.lt j hj).1)
                  have hu6 := huA.appO hmA hown6 hat6
                  have ho6 := (ho5.alloc_ (.cells #[.int .i64 V] 3)).other hg6 (fun g h1 h2 => hap g h1 h2)
                  have hap6 : Apart (.slice A6 (k + 1) c6) (.slice (some ⟨lb1, 0, none⟩) (X + ng) oc) := fun g h1 h2 => by
                    rcases hat6 with h | h
                    · exact hap g (h.symm.trans h1) h2
                    · rw [h] at h1; injection h1 with h1; have := (ho5.1.lt g h2).2.2; simp at h1; omega
                  have hm8 := hm6.outs A6 (k + 1) c6
                  have hu8 := hu6.setc ⟨v1.heap.size, 3, none⟩ (.slice A6 (k + 1) c6) (fun hc => (hu6.2 _ hc).1 rfl)
                  have ho8 := ho6.setc ⟨v1.heap.size, 3, none⟩ (.slice A6 (k + 1) c6) (fun hc => (ho6.2 _ hc).1 rfl)
                  have hb8 := hb6.setCell (p := ⟨v1.heap.size, 3, none⟩) (Nat.le_refl _) (.slice A6 (k + 1) c6)
                  have hrel1 : MkO (w6.setCell ⟨v1.heap.size, 3, none⟩ (.slice A6 (k + 1) c6)) v1.heap.size v1.heap.size x y A6 (k + 1) c6 (smo X GS0 L0 os (k + 1)).1 G5 ∧ OM (w6.setCell ⟨v1.heap.size, 3, none⟩ (.slice A6 (k + 1) c6)) v1.heap.size G5 v1.heap.size (.slice A6 (k + 1) c6) (k + 1) (smo X GS0 L0 os (k + 1)).2 := by rw [hS1.out]; exact ⟨hm8, hu8⟩
                  clear hm8 hu8 hm6 hu6 ho6 hmA huA hown6 hg6 hat6 hk6 hm hu ho hb m3 n3 n4 n5 e3 hS1
                  go_wp2
                  go_roundw
                  case rel => exact ⟨k + 1, _, _, _, by omega, by go_num, hrel1.1, hrel1.2, ho8, hap6, hb8⟩
                  case measure => simp [intOf]; omega
              · obtain rfl : no = k := Nat.le_antisymm (Nat.le_of_not_lt hlt) hk
                rw [hS12.out] at hm hu
                dsimp only at hm hu
                have hq := hm; obtain ⟨_, _, _, A8, c8, hx8, hown8, _⟩ := hq
                obtain ⟨m0, m1, m2, m3⟩ := hx8
                go_wp2_with fail
                refine (dropDead_any x y A8 S1.length c8 U no uc S1 S2 X _ ⟨hown8.reads, hu.1.reads⟩ (by omega) ho3 hx hy hXe HGS.out hao9).mono ?_
                rintro e w5 hT
                rw [hDG.out, hDO.out] at hT
                obtain ⟨G6, cG, A5, c5, rfl, hC, hb5⟩ := hT.open_ rfl HPl
                have hzc := hb5.size
                clear m0 m1 m2 m3
                cases h9 : circB x y DG DO with
                | true =>
                  have HF := Lib.hid (HF1.out h9)
                  go_wp2_with fail
                  refine (valid_t x y G6 DG.length cG A5 no c5 DG DO _ hC.reads.1 hC.reads.2 (by omega) (by omega) h9).mono ?_
                  rintro e w6 ⟨rfl, hb6⟩
                  have hBl := (hb.trans (hb5.mono hzr)).trans (hb6.mono (by omega))
                  have hr2 := hr1.below hBl
                  have f2 := f1.below hBl hr1.lt
                  have hB2 := hBv.trans (hBl.mono hBv.size)
                  have hC6 := hC.below hb6 (.inl (Nat.le_refl _))
                  have hz6 := hb6.size
                  have hq := hr2; obtain ⟨r0, r1, r2, r3⟩ := hq
                  have g0 := f2 0; have g1 := f2 1; have g2 := f2 2; have g3 := f2 3
                  go_wp2
                  have hq9 := BxC.set4 (hr2) x y G6 DG.length cG A5 no c5
                  obtain ⟨q0, q1, q2, q3⟩ := hq9
                  refine bodyPost_ret (v := .tuple #[.agg #[.int .i64 x, .int .i64 y, .slice G6 DG.length cG, .slice A5 no c5], .bool true]) (by simp [results, Try.results5, go_sem, q0, q1, q2, q3]) rfl ?_
                  exact RetC.some_ (below_set4 hB2 (by omega) _ _ _ _ _ _ _ _) HF.out rfl HPl rfl (by rw [set4_size]; exact ((hC6.set4 (.inl (by omega)) _ _ _ _ _ _ _ _).lo_ (by omega)) |> fun h => h.hi_ (by omega))
                | false =>
                  have HF := Lib.hid (HF0.out h9)
                  go_wp2_with fail
                  refine (valid_f x y G6 DG.length cG A5 no c5 DG DO _ hC.reads.1 hC.reads.2 (by omega) (by omega) h9).mono ?_
                  rintro e w6 ⟨rfl, hb6⟩
                  have hBl := (hb.trans (hb5.mono hzr)).trans (hb6.mono (by omega))
                  have hr2 := hr1.below hBl
                  have f2 := f1.below hBl hr1.lt
                  have hB2 := hBv.trans (hBl.mono hBv.size)
                  have hq := hr2; obtain ⟨r0, r1, r2, r3⟩ := hq
                  have g0 := f2 0; have g1 := f2 1; have g2 := f2 2; have g3 := f2 3
                  go_wp2
                  have hq9 := BxC.set4 (hr2) 0 0 none 0 0 none 0 0
                  obtain ⟨q0, q1, q2, q3⟩ := hq9
                  refine bodyPost_ret (v := .tuple #[.agg #[.int .i64 0, .int .i64 0, .slice none 0 0, .slice none 0 0], .bool false]) (by simp [results, Try.results5, go_sem, q0, q1, q2, q3]) rfl ?_
                  exact RetC.none_ (below_set4 hB2 (by omega) _ _ _ _ _ _ _ _) HF.out rfl
end Go.Proofs.Ytikgagjoapggnaa
