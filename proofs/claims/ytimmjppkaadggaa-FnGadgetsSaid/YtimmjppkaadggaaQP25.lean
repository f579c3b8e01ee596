/- Contracts of CountCircuit: both hands return the circuit that counts, or none. -/
import Derived.Test.YtimmjppkaadggaaQP24
import Derived.Test.YtimmjppkaadggaaQP19
import Derived.Test.YtimmjppkaadggaaQP18
namespace Go.Proofs.Ytimmjppkaadggaa
open Go.RowKit
set_option linter.unusedVariables false
set_option linter.unusedSimpArgs false
theorem drop_at {os : List Int} {j : Nat} (A : List Int) (hA : A.length = j) : gi (A ++ os.drop j) j = gi os j := by
  unfold gi
  rw [List.getD_eq_getElem?_getD, List.getD_eq_getElem?_getD, List.getElem?_append_right (by omega), hA, Nat.sub_self, List.getElem?_drop]
  simp
theorem drop_set {os : List Int} {j : Nat} (A : List Int) (v : Int) (hA : A.length = j) (h : j < os.length) : (A ++ os.drop j).set j v = A ++ [v] ++ os.drop (j + 1) := by
  rw [List.set_append_right _ _ (by omega), hA, Nat.sub_self, List.drop_eq_getElem_cons h, List.set_cons_zero, List.append_assoc]
  rfl
structure CtrOk (n : Nat) (P : Nat → Go2) (F : Nat → Nat → Ad) : Prop where
  g : ∀ k, k < n → (P k).g.length ≤ 200 ∧ 1 ≤ (P k).o.length ∧ (P k).o.length ≤ 5
  f : ∀ k i, k < n → i ≤ 5 → (F k i).g.length ≤ 300 ∧ (F k i).o.length = i
  f0 : ∀ k, F k 0 = ⟨(P k).g, [], (k : Int) + 1⟩
  fs : ∀ k i, F k (i + 1) = ⟨(F k i).g ++ [⟨0, gi (P k).o i, (F k i).c⟩] ++ [⟨1, gi (P k).o i, (F k i).c⟩], (F k i).o ++ [(n : Int) + (F k i).g.length], (n : Int) + (F k i).g.length + 1⟩
  p0 : P 0 = ⟨[], [0]⟩
  ps : ∀ k, P (k + 1) = ⟨(F k (P k).o.length).g, if 2 ^ (P k).o.length ≤ k + 2 then (F k (P k).o.length).o ++ [(F k (P k).o.length).c] else (F k (P k).o.length).o⟩
theorem CtrOk.mk_ (n : Nat) (h : n ≤ 16) : CtrOk n (ctrS n) (fun k i => ctrIn n (ctrS n k).g (ctrS n k).o ((k : Int) + 1) i) where
  g := fun k hk => by
    have h1 := ctrS_g n k (by omega)
    have h2 := ctrL_bd k (by omega)
    rw [ctrS_o]; omega
  f := fun k i hk hi => by
    have h1 := ctrS_g n k (by omega)
    rw [ctrIn_g, ctrIn_o]; omega
  f0 := fun k => rfl
  fs := fun k i => rfl
  p0 := rfl
  ps := fun k => rfl
theorem pow_bd {m : Nat} (h1 : 1 ≤ m) (h : m ≤ 5) : 2 ≤ 2 ^ m ∧ 2 ^ m ≤ 32 := by
  rcases (show m = 1 ∨ m = 2 ∨ m = 3 ∨ m = 4 ∨ m = 5 by omega) with rfl | rfl | rfl | rfl | rfl <;> decide
set_option maxRecDepth 100000 in
set_option maxHeartbeats 8000000 in
theorem CountCircuit_any (a : Int) (w : World) : Calls Try.prog 18 #[.int .i64 a] w (RetC w (ctrF a)) := by
  have hB : Below w.heap.size w (w.alloc (.cells #[.int .i64 0, .int .i64 0, .slice none 0 0, .slice none 0 0] 27)) := (Below.refl _ _).alloc (Nat.le_refl _) _
  have hx0 : BxC (w.alloc (.cells #[.int .i64 0, .int .i64 0, .slice none 0 0, .slice none 0 0] 27)) w.heap.size 0 0 none 0 0 none 0 0 := BxC.new w _
  cases h0 : inB 1 16 a with
  | false =>
    have HR : Hid (ctrF a = none) := Lib.hid (by simp [ctrF, h0])
    have H0 := Lib.hid h0; clear h0
    go_enter Try.func18, Try.ntmps18
    go_wp2_with fail
    refine (within_any _ _ _ false H0.out _).mono ?_
    rintro e w1 ⟨rfl, rfl⟩
    go_wp2
    have hq9 := BxC.set4 (hx0) 0 0 none 0 0 none 0 0
    obtain ⟨q0, q1, q2, q3⟩ := hq9
    refine bodyPost_ret (v := .tuple #[.agg #[.int .i64 0, .int .i64 0, .slice none 0 0, .slice none 0 0], .bool false]) (by simp [results, Try.results18, go_sem, q0, q1, q2, q3]) rfl ?_
    exact RetC.none_ hB HR.out rfl
  | true =>
    have hab := inB_iff.1 h0
    obtain ⟨n, rfl⟩ : ∃ n : Nat, a = n := ⟨a.toNat, by omega⟩
    have h1 : 1 ≤ n := by omega
    have h16 : n ≤ 16 := by omega
    obtain ⟨N1, hN1⟩ : ∃ N1 : Nat, n = N1 + 1 := ⟨n - 1, by omega⟩
    have HR : Hid (ctrF (n : Int) = some ⟨n, 0, (ctrS n N1).g, (ctrS n N1).o⟩) := Lib.hid (by rw [ctrF, if_pos h0]; show some (⟨(n : Int), 0, (ctrS n (n - 1)).g, (ctrS n (n - 1)).o⟩ : Ci) = _; rw [show n - 1 = N1 by omega])
    have H0 := Lib.hid h0; clear h0 hab
    have HOK : Hid (circB (n : Nat) 0 (ctrS n N1).g (ctrS n N1).o = true) := Lib.hid (by have := ctrG_ok n h1 h16; rwa [ctrG, show n - 1 = N1 by omega] at this)
    have HK := Lib.hid (CtrOk.mk_ n h16)
    generalize hFq : (fun k i => ctrIn (n : Int) (ctrS n k).g (ctrS n k).o ((k : Int) + 1) i) = F at HK
    generalize ctrS (n : Int) = P at *
    clear hFq
    have hN1' : N1 < n := by omega
    have hN1a : n ≤ N1 + 1 := by omega
    clear hN1
    have hm0 := Mk.new (w.alloc (.cells #[.int .i64 0, .int .i64 0, .slice none 0 0, .slice none 0 0] 27)) (w.heap.size + 1) (n : Int) 0 66
    have hB2 := hB.alloc hB.size (.cells #[.int .i64 n, .int .i64 0, .slice none 0 0, .slice none 0 0] 66)
    have hx2 := hx0.below ((Below.refl _ _).alloc (Nat.le_refl _) (.cells #[.int .i64 n, .int .i64 0, .slice none 0 0, .slice none 0 0] 66))
    have f2 := (Fz.new w #[.int .i64 0, .int .i64 0, .slice none 0 0, .slice none 0 0] 27).below ((Below.refl _ _).alloc (Nat.le_refl _) (.cells #[.int .i64 n, .int .i64 0, .slice none 0 0, .slice none 0 0] 66)) (by simp)
    simp only [World.size_alloc] at hm0
    go_enter Try.func18, Try.ntmps18
    go_wp2_with fail
    refine (within_any _ _ _ true H0.out _).mono ?_
    rintro e w1 ⟨rfl, rfl⟩
    go_wp2_with fail
    obtain ⟨W0, hW0⟩ : ∃ W0, ((w.alloc (.cells #[.int .i64 0, .int .i64 0, .slice none 0 0, .slice none 0 0] 27)).alloc (.cells #[.int .i64 n, .int .i64 0, .slice none 0 0, .slice none 0 0] 66)) = W0 := ⟨_, rfl⟩
    have hz0 : W0.heap.size = w.heap.size + 2 := by rw [← hW0]; simp
    rw [hW0] at hm0 hB2 hx2 f2 ⊢
    have HZ : Hid (W0.heap.size = w.heap.size + 1 + 1) := Lib.hid (by omega)
    have hz0a : W0.heap.size ≤ w.heap.size + 2 := by omega
    have hz0b : w.heap.size + 2 ≤ W0.heap.size := by omega
    clear hW0 hB hx0 hz0
    have hoR := OM.new1 hm0 0 (Nat.le_refl _)
    have hmR := hm0.alloc_ (.cells #[.int .i64 0] 3)
    have hvR := (Mv.refl_ (w.heap.size + 1) none W0).alloc_ (.cells #[.int .i64 0] 3)
    have hst : Mk (W0.alloc (.cells #[.int .i64 0] 3)) (w.heap.size + 1) (w.heap.size + 1) n 0 (P 0).g none ∧ OM (W0.alloc (.cells #[.int .i64 0] 3)) (w.heap.size + 1) none W0.heap.size (.slice (some ⟨W0.heap.size, 0, none⟩) 1 1) 1 (P 0).o := by
      rw [HK.out.p0]; exact ⟨hmR, hoR⟩
    clear hmR hoR hm0
    go_wp2
    go_loopw [5, 6] (fun s i wr => ∃ (k m : Nat) (g oc : Nat) (G1 : Option Nat), k ≤ N1 ∧ i = .int .i64 ((k : Int) + 1) ∧ s = .slice (some ⟨g, 0, none⟩) m oc ∧ Mk wr (w.heap.size + 1) (w.heap.size + 1) n 0 (P k).g G1 ∧ OM wr (w.heap.size + 1) G1 W0.heap.size (.slice (some ⟨g, 0, none⟩) m oc) m (P k).o ∧ Mv (w.heap.size + 1) none G1 W0 wr) (fun _ i _ => n - (intOf i).toNat)
    case atStart => exact ⟨0, 1, _, _, _, Nat.zero_le _, rfl, rfl, hst.1, by rw [← HZ.out]; exact hst.2, hvR⟩
    case round =>
      obtain ⟨k, m, g, oc, G1, hk, rfl, rfl, hm1, ho1, hv1⟩ := hrel
      clear hst hvR
      have hz1 := hv1.size
      have hml := ho1.len
      by_cases hlt : k < N1
      · have hkn : k < n := by omega
        have hgk := HK.out.g k hkn
        have hFb := Lib.hid (HK.out.f k)
        have hF0 := Lib.hid (HK.out.f0 k)
        have hFs := Lib.hid (HK.out.fs k)
        have hPs := Lib.hid (HK.out.ps k)
        obtain ⟨PG, PO, hPk⟩ : ∃ PG PO, Hid (P k = ⟨PG, PO⟩) := ⟨_, _, Lib.hid rfl⟩
        rw [hPk.out] at hgk hF0 hFs hPs hm1 ho1 hml
        dsimp only at hgk hF0 hFs hPs hm1 ho1 hml
        generalize F k = T at hFb hF0 hFs hPs
        rw [hml] at hgk hPs
        have hm5 : 1 ≤ m ∧ m ≤ 5 := by omega
        have hi0 : Mk wr (w.heap.size + 1) (w.heap.size + 1) n 0 (T 0).g G1 ∧ OM wr (w.heap.size + 1) G1 W0.heap.size (.slice (some ⟨g, 0, none⟩) m oc) m ((T 0).o ++ PO.drop 0) := by rw [hF0.out]; exact ⟨hm1, by simpa using ho1⟩
        have hc0 : (T 0).c = (k : Int) + 1 := by rw [hF0.out]
        have hl1 : (k : Int) + 1 < n := by omega
        clear hm1 ho1 hgk
        go_wp2
        go_loopw [7, 27] (fun c i w3 => ∃ (j : Nat) (G3_ : Option Nat), j ≤ m ∧ i = .int .i64 j ∧ c = .int .i64 (T j).c ∧ Mk w3 (w.heap.size + 1) (w.heap.size + 1) n 0 (T j).g G3_ ∧ OM w3 (w.heap.size + 1) G3_ W0.heap.size (.slice (some ⟨g, 0, none⟩) m oc) m ((T j).o ++ PO.drop j) ∧ Mv (w.heap.size + 1) none G3_ W0 w3) (fun _ i _ => m - (intOf i).toNat)
        case atStart => exact ⟨0, _, Nat.zero_le _, rfl, by rw [hc0], hi0.1, hi0.2, hv1⟩
        case round =>
          obtain ⟨j, G3_, hj, rfl, rfl, hm3, ho3, hv3⟩ := hrel
          clear hi0 hc0 hv1
          have hz3 := hv3.size
          have hTb := hFb.out j hkn (by omega)
          by_cases hjt : j < m
          · have hT := Lib.hid (hFs.out j)
            obtain ⟨TG, TO, tc, hTj⟩ : ∃ TG TO tc, Hid (T j = ⟨TG, TO, tc⟩) := ⟨_, _, _, Lib.hid rfl⟩
            rw [hTj.out] at hm3 ho3 hTb hT ⊢
            dsimp only at hm3 ho3 hTb hT ⊢
            obtain ⟨u, hu⟩ : ∃ u, Hid (gi PO j = u) := ⟨_, Lib.hid rfl⟩
            obtain ⟨X, hX⟩ : ∃ X : Int, Hid ((n : Int) + TG.length = X) := ⟨_, Lib.hid rfl⟩
            rw [hu.out, hX.out] at hT
            have hXb : 0 ≤ X ∧ X ≤ 1000 := by have := hX.out; omega
            obtain ⟨c3, f3⟩ := ho3.1.cellAt hjt
            rw [drop_at TO hTb.2, hu.out] at c3
            go_wp2_with fail
            refine (maker_xor_v (w.heap.size + 1) (w.heap.size + 1) n 0 TG G3_ u tc X _ hm3 (by omega) (by omega) (by omega) (by omega) (by have := hX.out; omega)).mono ?_
            rintro e w4 ⟨G4, rfl, hm4, hv4_⟩
            have ho4 := ho3.mv hv4_; have hv4 := hv3.trans_ hv4_; have hz4 := hv4.size
            clear hm3 ho3 hv3 hv4_ c3 f3
            obtain ⟨c4, f4⟩ := ho4.1.cellAt hjt
            obtain ⟨hown5, hg5⟩ := ho4.1.stored j X
            have hgb : (Value.slice (some ⟨g, 0, none⟩) m oc).ownBlock = some g := by simp [Value.ownBlock]
            rw [← hgb] at hg5
            have hs5 : (w4.setCell ⟨g, j, none⟩ (.int .i64 X)).heap.size = w4.heap.size := by simp
            have hm5 := hm4.app ho4 hg5; have hv5 := hv4.app ho4 hg5
            have ho5 := ho4.app hm4 (by rw [hs5]; exact hown5) (.inl rfl)
            rw [drop_set TO X hTb.2 (by omega)] at ho5
            clear hm4 ho4 hv4 hown5 hg5 hgb
            go_wp2_with fail
            refine (maker_and_v (w.heap.size + 1) (w.heap.size + 1) n 0 (TG ++ [⟨0, u, tc⟩]) G4 u tc (X + 1) _ hm5 (by omega) (by omega) (by simp; omega) (by simp; omega) (by have := hX.out; simp; omega)).mono ?_
            rintro e w6 ⟨G6, rfl, hm6, hv6_⟩
            have ho6 := ho5.mv hv6_; have hv6 := hv5.trans_ hv6_
            have hrel1 : Mk w6 (w.heap.size + 1) (w.heap.size + 1) n 0 (T (j + 1)).g G6 ∧ OM w6 (w.heap.size + 1) G6 W0.heap.size (.slice (some ⟨g, 0, none⟩) m oc) m ((T (j + 1)).o ++ PO.drop (j + 1)) := by rw [hT.out]; exact ⟨hm6, ho6⟩
            have hck : Hid ((T (j + 1)).c = X + 1) := Lib.hid (by rw [hT.out])
            clear hm5 ho5 hv5 hv6_ hm6 ho6 hT hTj hu hX c4 f4 hs5 hz4
            go_wp2
            go_roundw
            case rel => exact ⟨j + 1, _, by omega, by go_num, by rw [hck.out], hrel1.1, hrel1.2, hv6⟩
            case measure => simp [intOf]; omega
          · obtain rfl : m = j := Nat.le_antisymm (Nat.le_of_not_lt hjt) hj
            have hdr : PO.drop m = [] := List.drop_eq_nil_of_le (by omega)
            rw [hdr, List.append_nil] at ho3
            clear hdr
            obtain ⟨TG, TO, tc, hTj⟩ : ∃ TG TO tc, Hid (T m = ⟨TG, TO, tc⟩) := ⟨_, _, _, Lib.hid rfl⟩
            rw [hTj.out] at hm3 ho3 hPs ⊢
            dsimp only at hm3 ho3 hPs ⊢
            obtain ⟨N, hN⟩ : ∃ N : Nat, 2 ^ m = N := ⟨_, rfl⟩
            have hNb := pow_bd hm5.1 hm5.2
            rw [hN] at hNb hPs
            have hNi : (2 : Int) ^ m = N := by rw [← hN]; simp
            have hta : ((m : Nat) : Int).toNat = m := by simp
            by_cases hle : N ≤ k + 2
            · rw [if_pos hle] at hPs
              have hleI : (N : Int) ≤ (k : Int) + 1 + 1 := by omega
              have hoA := ho3.alloc_ (.cells #[.int .i64 tc] 3); have hmA := hm3.alloc_ (.cells #[.int .i64 tc] 3); have hvA := hv3.alloc_ (.cells #[.int .i64 tc] 3)
              go_wp2_with (at_builtin; refine wpList_appI _ rfl _ _ rfl rfl hoA.1 rfl (RI_one _ _ _ _ (by simp)) (by omega) (by first | omega | (simp; done) | (simp; omega)) ?_; intro A5 c5 w5 hown5 hg5 hat5 hk5)
              have ho5 := hoA.app hmA hown5 hat5; have hm5' := hmA.app hoA hg5; have hv5 := hvA.app hoA hg5
              obtain ⟨g5, rfl, _, _⟩ := ho5.1.some_ (by omega)
              have hrel1 : Mk w5 (w.heap.size + 1) (w.heap.size + 1) n 0 (P (k + 1)).g G3_ ∧ OM w5 (w.heap.size + 1) G3_ W0.heap.size (.slice (some ⟨g5, 0, none⟩) (m + 1) c5) (m + 1) (P (k + 1)).o := by rw [hPs.out]; exact ⟨hm5', ho5⟩
              clear hoA hmA hvA hown5 hg5 hat5 hk5 hm3 ho3 hv3 hm5' ho5 hN hNi hta
              go_wp2
              go_roundw
              case rel => exact ⟨k + 1, m + 1, _, _, _, by omega, by go_num, rfl, hrel1.1, hrel1.2, hv5⟩
              case measure => simp [intOf]; omega
            · rw [if_neg hle] at hPs
              have hleI : ¬ (N : Int) ≤ (k : Int) + 1 + 1 := by omega
              have hrel1 : Mk wr (w.heap.size + 1) (w.heap.size + 1) n 0 (P (k + 1)).g G3_ ∧ OM wr (w.heap.size + 1) G3_ W0.heap.size (.slice (some ⟨g, 0, none⟩) m oc) m (P (k + 1)).o := by rw [hPs.out]; exact ⟨hm3, ho3⟩
              clear hm3 ho3
              go_wp2
              go_roundw
              case rel => exact ⟨k + 1, m, _, _, _, by omega, by go_num, rfl, hrel1.1, hrel1.2, hv3⟩
              case measure => simp [intOf]; omega
      · obtain rfl : N1 = k := Nat.le_antisymm (Nat.le_of_not_lt hlt) hk
        have hl1 : ¬ (N1 : Int) + 1 < n := by omega
        clear HK
        generalize P N1 = T at *
        obtain ⟨gs, os⟩ := T
        dsimp only at hm1 ho1 hml HR HOK
        have hl : gs.length ≤ 300 ∧ os.length ≤ 40 := by have := circB_bd HOK.out; omega
        have hx5 : BxC wr w.heap.size 0 0 none 0 0 none 0 0 := ⟨hv1.cellF hx2.1 ⟨by simp, by simp⟩, hv1.cellF hx2.2.1 ⟨by simp, by simp⟩, hv1.cellF hx2.2.2.1 ⟨by simp, by simp⟩, hv1.cellF hx2.2.2.2 ⟨by simp, by simp⟩⟩
        have hB5 := hv1.toBelow hB2 (by omega) (by simp) (by omega)
        obtain ⟨Ag, cg, hx6, hx7, hw7, hfz⟩ := hm1.circuit ho1 (by omega)
        have hB7 := hB5.setCell (p := ⟨w.heap.size + 1, 3, none⟩) (by show w.heap.size ≤ w.heap.size + 1; omega) (.slice (some ⟨g, 0, none⟩) m oc)
        have hx8 : BxC (wr.setCell ⟨w.heap.size + 1, 3, none⟩ (.slice (some ⟨g, 0, none⟩) m oc)) w.heap.size 0 0 none 0 0 none 0 0 := ⟨(World.cell?_setCell_other _ _ _ _ (by simp)).trans hx5.1, (World.cell?_setCell_other _ _ _ _ (by simp)).trans hx5.2.1, (World.cell?_setCell_other _ _ _ _ (by simp)).trans hx5.2.2.1, (World.cell?_setCell_other _ _ _ _ (by simp)).trans hx5.2.2.2⟩
        obtain ⟨i0, i1, i2, i3⟩ := hx7
        obtain ⟨j0, j1, j2, j3⟩ := hx6
        have f5 := f2.mv hv1 (by omega) ⟨by omega, by simp⟩
        have hsz := hv1.size
        have hmo := Lib.hid hml
        clear hm1 ho1 hx5 hv1 hml
        go_wp2_with fail
        refine (valid_t n 0 Ag gs.length cg (some ⟨g, 0, none⟩) m oc gs os _ hw7.reads.1 hw7.reads.2 (by omega) (by have := hmo.out; omega) HOK.out).mono ?_
        rintro e w8 ⟨rfl, hb8⟩
        have hB8 := hB7.trans (hb8.mono hB7.size)
        have f8 := (f5.set ⟨w.heap.size + 1, 3, none⟩ (.slice (some ⟨g, 0, none⟩) m oc)).below hb8 (by simp; omega)
        have g0 := f8 0; have g1 := f8 1; have g2 := f8 2; have g3 := f8 3
        have hx9 := hx8.below hb8
        have hy9 := hx9; obtain ⟨l0, l1, l2, l3⟩ := hy9
        have hw8 := (hw7.below hb8 (.inl (Nat.le_refl _))).hi_ (show wr.heap.size ≤ w8.heap.size by simpa using hb8.size)
        go_wp2
        have hq9 := BxC.set4 (hx9) (n : Int) 0 Ag gs.length cg (some ⟨g, 0, none⟩) m oc
        obtain ⟨q0, q1, q2, q3⟩ := hq9
        refine bodyPost_ret (v := .tuple #[.agg #[.int .i64 (n : Int), .int .i64 0, .slice Ag gs.length cg, .slice (some ⟨g, 0, none⟩) m oc], .bool true]) (by simp [results, Try.results18, go_sem, q0, q1, q2, q3]) rfl ?_
        exact RetC.some_ (below_set4 hB8 (Nat.le_refl _) _ _ _ _ _ _ _ _) HR.out rfl hmo.out rfl (by rw [set4_size]; exact ((hw8.set4 (.inl (by omega)) _ _ _ _ _ _ _ _).lo_ (by omega)))
set_option maxRecDepth 100000 in
set_option maxHeartbeats 8000000 in
theorem gdCount_any (lo b : Nat) (A : Option Addr) (n c : Nat) (w : World) (h1 : 1 ≤ n) (h16 : n ≤ 16) (hlo : lo ≤ w.heap.size) (hm : Mk w lo b n 0 [] none) (ha : RM w b none A n (spn 0 n)) (hnc : n ≤ c) :
    Calls Try.prog 52 #[.pointer (some ⟨b, 0, none⟩), .slice A n c] w (RetRow lo b n 0 (ctrG n).g (ctrG n).o none w) := by
  obtain ⟨N1, hN1⟩ : ∃ N1 : Nat, n = N1 + 1 := ⟨n - 1, by omega⟩
  have HR : Hid (ctrG n = ctrS n N1) := Lib.hid (by rw [ctrG, show n - 1 = N1 by omega])
  rw [HR.out]
  have HK := Lib.hid (CtrOk.mk_ n h16)
  generalize hFq : (fun k i => ctrIn (n : Int) (ctrS n k).g (ctrS n k).o ((k : Int) + 1) i) = F at HK
  generalize ctrS (n : Int) = P at *
  clear hFq HR
  have hN1' : N1 < n := by omega
  have hN1a : n ≤ N1 + 1 := by omega
  have hN1i : (n : Int) - 1 = N1 := by omega
  have hN1n : n - 1 = N1 := by omega
  clear hN1
  obtain ⟨ka, oa, rfl, hka, ca0⟩ := ha.1.at_ (k := 0) (by omega)
  rw [gi_spn' 0 (by omega)] at ca0
  have hbv : Hid (∀ k, k < N1 → gi (spn 0 n) (k + 1) = (k : Int) + 1) := Lib.hid (fun k hk => by rw [gi_spn' 0 (by omega)]; omega)
  generalize spn 0 n = us at *
  have hoR := OM.new1 hm 0 (Nat.le_refl _)
  have hmR := hm.alloc_ (.cells #[.int .i64 0] 3)
  have hvR := (Mv.refl_ b none w).alloc_ (.cells #[.int .i64 0] 3)
  have hst : Mk (w.alloc (.cells #[.int .i64 0] 3)) lo b n 0 (P 0).g none ∧ OM (w.alloc (.cells #[.int .i64 0] 3)) b none w.heap.size (.slice (some ⟨w.heap.size, 0, none⟩) 1 1) 1 (P 0).o := by
    rw [HK.out.p0]; exact ⟨hmR, hoR⟩
  clear hmR hoR
  rw [show (0 : Int) + ((0 : Nat) : Int) = 0 from rfl, Nat.add_zero] at ca0
  go_enter Try.func52, Try.ntmps52
  go_wp2
  · go_loopw [5, 18] (fun s i wr => ∃ (k m : Nat) (O : Option Addr) (oc : Nat) (G1 : Option Nat), k ≤ N1 ∧ i = .int .i64 k ∧ s = .slice O m oc ∧ Mk wr lo b n 0 (P k).g G1 ∧ OM wr b G1 w.heap.size (.slice O m oc) m (P k).o ∧ Mv b none G1 w wr) (fun _ i _ => N1 - (intOf i).toNat)
    case atStart => exact ⟨0, 1, _, _, _, Nat.zero_le _, rfl, rfl, hst.1, hst.2, hvR⟩
    case round =>
      obtain ⟨k, m, O, oc, G1, hk, rfl, rfl, hm1, ho1, hv1⟩ := hrel
      clear hst hvR ca0
      have hz1 := hv1.size
      have hml := ho1.len
      by_cases hlt : k < N1
      · exfalso; omega
      · obtain rfl : N1 = k := Nat.le_antisymm (Nat.le_of_not_lt hlt) hk
        go_wp2
        go_ret
        exact RetRow.mk_ hml rfl hm1 hv1 ho1
  · go_loopw [5, 18] (fun s i wr => ∃ (k m : Nat) (O : Option Addr) (oc : Nat) (G1 : Option Nat), k ≤ N1 ∧ i = .int .i64 k ∧ s = .slice O m oc ∧ Mk wr lo b n 0 (P k).g G1 ∧ OM wr b G1 w.heap.size (.slice O m oc) m (P k).o ∧ Mv b none G1 w wr) (fun _ i _ => N1 - (intOf i).toNat)
    case atStart => exact ⟨0, 1, _, _, _, Nat.zero_le _, rfl, rfl, hst.1, hst.2, hvR⟩
    case round =>
      obtain ⟨k, m, O, oc, G1, hk, rfl, rfl, hm1, ho1, hv1⟩ := hrel
      clear hst hvR ca0
      have hz1 := hv1.size
      have hml := ho1.len
      by_cases hlt : k < N1
      · have hkn : k < n := by omega
        have hgk := HK.out.g k hkn
        have hFb := Lib.hid (HK.out.f k)
        have hF0 := Lib.hid (HK.out.f0 k)
        have hFs := Lib.hid (HK.out.fs k)
        have hPs := Lib.hid (HK.out.ps k)
        obtain ⟨PG, PO, hPk⟩ : ∃ PG PO, Hid (P k = ⟨PG, PO⟩) := ⟨_, _, Lib.hid rfl⟩
        rw [hPk.out] at hgk hF0 hFs hPs hm1 ho1 hml
        dsimp only at hgk hF0 hFs hPs hm1 ho1 hml
        generalize F k = T at hFb hF0 hFs hPs
        rw [hml] at hgk hPs
        have hm5 : 1 ≤ m ∧ m ≤ 5 := by omega
        obtain ⟨g, rfl, _, _⟩ := ho1.1.some_ (by omega)
        obtain ⟨LO, hLO⟩ : ∃ LO, Hid (LO = wr.heap.size) := ⟨_, Lib.hid rfl⟩
        have hLw : w.heap.size ≤ LO := by have := hLO.out; omega
        have hLe : LO ≤ wr.heap.size := by have := hLO.out; omega
        have hrd := ho1.reads.toRH
        rw [← hLO.out] at hrd
        have hoo := OM.none_ wr b G1 LO
        have hi0 : Mk wr lo b n 0 (T 0).g G1 ∧ OM wr b G1 LO (.slice none 0 0) 0 (T 0).o := by rw [hF0.out]; exact ⟨hm1, hoo⟩
        have hc0 : (T 0).c = (k : Int) + 1 := by rw [hF0.out]
        obtain ⟨cb, nb, hkb0⟩ := ha.cellV hv1 (i := k + 1) (by omega) (Lib.hid (hbv.out k hlt))
        rw [show oa + (k + 1) = oa + 1 + k by omega] at cb
        clear hm1 ho1 hgk hoo hLO
        go_wp2
        go_loopw [7, 8, 25] (fun cy nx i w3 => ∃ (j : Nat) (R : Option Addr) (rc : Nat) (G3_ : Option Nat), j ≤ m ∧ i = .int .i64 j ∧ cy = .int .i64 (T j).c ∧ nx = .slice R j rc ∧ Mk w3 lo b n 0 (T j).g G3_ ∧ OM w3 b G3_ LO (.slice R j rc) j (T j).o ∧ RH w3 b G3_ LO (some ⟨g, 0, none⟩) m PO ∧ Mv b none G3_ w w3 ∧ LO ≤ w3.heap.size) (fun _ _ i _ => m - (intOf i).toNat)
        case atStart => exact ⟨0, _, _, _, Nat.zero_le _, rfl, by rw [hc0], rfl, hi0.1, hi0.2, hrd, hv1, hLe⟩
        case round =>
          obtain ⟨j, R, rc, G3_, hj, rfl, rfl, rfl, hm3, ho3, hr3, hv3, hl3⟩ := hrel
          clear hi0 hc0 hv1 hrd cb nb hkb0
          have hz3 := hv3.size
          have hTb := hFb.out j hkn (by omega)
          by_cases hjt : j < m
          · have hT := Lib.hid (hFs.out j)
            obtain ⟨TG, TO, tc, hTj⟩ : ∃ TG TO tc, Hid (T j = ⟨TG, TO, tc⟩) := ⟨_, _, _, Lib.hid rfl⟩
            rw [hTj.out] at hm3 ho3 hTb hT ⊢
            dsimp only at hm3 ho3 hTb hT ⊢
            obtain ⟨u, hu⟩ : ∃ u, Hid (gi PO j = u) := ⟨_, Lib.hid rfl⟩
            obtain ⟨X, hX⟩ : ∃ X : Int, Hid ((n : Int) + TG.length = X) := ⟨_, Lib.hid rfl⟩
            rw [hu.out, hX.out] at hT
            have hXb : 0 ≤ X ∧ X ≤ 1000 := by have := hX.out; omega
            obtain ⟨c3, _⟩ := hr3.1.cellV (Mv.refl_ b G3_ _) hjt hu
            simp only [Nat.zero_add] at c3
            go_wp2_with fail
            refine (ciMaker_xor_v lo b n 0 TG G3_ u tc X _ hm3 (by omega) (by omega) (by omega) (by omega) (by have := hX.out; omega)).mono ?_
            rintro e w4 ⟨G4, rfl, hm4, hv4_⟩
            have ho4 := ho3.mv hv4_; have hv4 := hv3.trans_ hv4_; have hr4 := hr3.mv hv4_; have hl4 := Nat.le_trans hl3 hv4_.size
            clear hm3 ho3 hv3 hr3 hv4_ c3
            have hoA := ho4.alloc_ (.cells #[.int .i64 X] 3); have hmA := hm4.alloc_ (.cells #[.int .i64 X] 3); have hvA := hv4.alloc_ (.cells #[.int .i64 X] 3); have hrA := hr4.alloc_ (.cells #[.int .i64 X] 3)
            go_wp2_with (at_builtin; refine wpList_appI _ rfl _ _ rfl rfl hoA.1 rfl (RI_one _ _ _ _ (by simp)) (by omega) (by first | omega | (simp; done) | (simp; omega)) ?_; intro A5 c5 w5 hown5 hg5 hat5 hk5)
            have ho5 := hoA.app hmA hown5 hat5; have hm5' := hmA.app hoA hg5
            have hv5 := hvA.grown_ hg5 (fun g hc => by have := (hoA.1.lt g hc).1; omega)
            have hr5 := hrA.app hoA hg5 (Nat.le_refl _)
            have hl5 : LO ≤ w5.heap.size := by have := hg5.size; simp at this; omega
            clear hoA hmA hvA hrA hown5 hg5 hat5 hk5 hm4 ho4 hv4 hr4
            have hz5 := hv5.size
            go_wp2_with fail
            refine (ciMaker_and_v lo b n 0 (TG ++ [⟨0, u, tc⟩]) G4 u tc (X + 1) _ hm5' (by omega) (by omega) (by simp; omega) (by omega) (by have := hX.out; simp; omega)).mono ?_
            rintro e w6 ⟨G6, rfl, hm6, hv6_⟩
            have ho6 := ho5.mv hv6_; have hv6 := hv5.trans_ hv6_; have hr6 := hr5.mv hv6_; have hl6 := Nat.le_trans hl5 hv6_.size
            have hrel1 : Mk w6 lo b n 0 (T (j + 1)).g G6 ∧ OM w6 b G6 LO (.slice A5 (j + 1) c5) (j + 1) (T (j + 1)).o := by rw [hT.out]; exact ⟨hm6, ho6⟩
            have hck : Hid ((T (j + 1)).c = X + 1) := Lib.hid (by rw [hT.out])
            clear hm5' ho5 hv5 hr5 hv6_ hm6 ho6 hT hTj hu hX hl3 hl4 hl5
            go_wp2
            go_roundw
            case rel => exact ⟨j + 1, _, _, _, by omega, by go_num, by rw [hck.out], rfl, hrel1.1, hrel1.2, hr6, hv6, hl6⟩
            case measure => simp [intOf]; omega
          · obtain rfl : m = j := Nat.le_antisymm (Nat.le_of_not_lt hjt) hj
            obtain ⟨TG, TO, tc, hTj⟩ : ∃ TG TO tc, Hid (T m = ⟨TG, TO, tc⟩) := ⟨_, _, _, Lib.hid rfl⟩
            rw [hTj.out] at hm3 ho3 hPs ⊢
            dsimp only at hm3 ho3 hPs ⊢
            obtain ⟨N, hN⟩ : ∃ N : Nat, 2 ^ m = N := ⟨_, rfl⟩
            have hNb := pow_bd hm5.1 hm5.2
            rw [hN] at hNb hPs
            have hNi : (2 : Int) ^ m = N := by rw [← hN]; simp
            have hta : ((m : Nat) : Int).toNat = m := by simp
            clear hr3
            by_cases hle : N ≤ k + 2
            · rw [if_pos hle] at hPs
              have hleI : (N : Int) ≤ (k : Int) + 2 := by omega
              have hoA := ho3.alloc_ (.cells #[.int .i64 tc] 3); have hmA := hm3.alloc_ (.cells #[.int .i64 tc] 3); have hvA := hv3.alloc_ (.cells #[.int .i64 tc] 3)
              go_wp2_with (at_builtin; refine wpList_appI _ rfl _ _ rfl rfl hoA.1 rfl (RI_one _ _ _ _ (by simp)) (by omega) (by first | omega | (simp; done) | (simp; omega)) ?_; intro A5 c5 w5 hown5 hg5 hat5 hk5)
              have ho5 := hoA.app hmA hown5 hat5; have hm5' := hmA.app hoA hg5
              have hv5 := hvA.grown_ hg5 (fun g hc => by have := (hoA.1.lt g hc).1; omega)
              have hrel1 : Mk w5 lo b n 0 (P (k + 1)).g G3_ ∧ OM w5 b G3_ w.heap.size (.slice A5 (m + 1) c5) (m + 1) (P (k + 1)).o := by rw [hPs.out]; exact ⟨hm5', ho5.lo_ hLw⟩
              clear hoA hmA hvA hown5 hg5 hat5 hk5 hm3 ho3 hv3 hm5' ho5 hN hNi hta
              go_wp2
              go_roundw
              case rel => exact ⟨k + 1, m + 1, _, _, _, by omega, by go_num, rfl, hrel1.1, hrel1.2, hv5⟩
              case measure => simp [intOf]; omega
            · rw [if_neg hle] at hPs
              have hleI : ¬ (N : Int) ≤ (k : Int) + 2 := by omega
              have hrel1 : Mk wr lo b n 0 (P (k + 1)).g G3_ ∧ OM wr b G3_ w.heap.size (.slice R m rc) m (P (k + 1)).o := by rw [hPs.out]; exact ⟨hm3, ho3.lo_ hLw⟩
              clear hm3 ho3
              go_wp2
              go_roundw
              case rel => exact ⟨k + 1, m, _, _, _, by omega, by go_num, rfl, hrel1.1, hrel1.2, hv3⟩
              case measure => simp [intOf]; omega
      · obtain rfl : N1 = k := Nat.le_antisymm (Nat.le_of_not_lt hlt) hk
        go_wp2
        go_ret
        exact RetRow.mk_ hml rfl hm1 hv1 ho1
set_option maxRecDepth 100000 in
set_option maxHeartbeats 4000000 in
theorem spec_CountCircuit_any (a : Int) (w : World) : Calls Try.prog 19 #[.int .i64 a] w (RetC w (ctrF a)) := by
  have hB : Below w.heap.size w (w.alloc (.cells #[.int .i64 0, .int .i64 0, .slice none 0 0, .slice none 0 0] 27)) := (Below.refl _ _).alloc (Nat.le_refl _) _
  have hx0 : BxC (w.alloc (.cells #[.int .i64 0, .int .i64 0, .slice none 0 0, .slice none 0 0] 27)) w.heap.size 0 0 none 0 0 none 0 0 := BxC.new w _
  cases h0 : inB 1 16 a with
  | false =>
    have HR : Hid (ctrF a = none) := Lib.hid (by simp [ctrF, h0])
    have H0 := Lib.hid h0; clear h0
    go_enter Try.func19, Try.ntmps19
    go_wp2_with fail
    refine (l1In_any _ _ _ false H0.out _).mono ?_
    rintro e w1 ⟨rfl, rfl⟩
    go_wp2
    have hq9 := BxC.set4 (hx0) 0 0 none 0 0 none 0 0
    obtain ⟨q0, q1, q2, q3⟩ := hq9
    refine bodyPost_ret (v := .tuple #[.agg #[.int .i64 0, .int .i64 0, .slice none 0 0, .slice none 0 0], .bool false]) (by simp [results, Try.results19, go_sem, q0, q1, q2, q3]) rfl ?_
    exact RetC.none_ hB HR.out rfl
  | true =>
    have hab := inB_iff.1 h0
    obtain ⟨n, rfl⟩ : ∃ n : Nat, a = n := ⟨a.toNat, by omega⟩
    have h1 : 1 ≤ n := by omega
    have h16 : n ≤ 16 := by omega
    have HR : Hid (ctrF (n : Int) = some ⟨n, 0, (ctrG n).g, (ctrG n).o⟩) := Lib.hid (by simp [ctrF, h0])
    have H0 := Lib.hid h0; clear h0 hab
    have HF : Hid (∀ (lo b : Nat) (A : Option Addr) (c : Nat) (w1 : World), lo ≤ w1.heap.size → Mk w1 lo b n 0 [] none → RM w1 b none A n (spn 0 n) → n ≤ c → Calls Try.prog 52 #[.pointer (some ⟨b, 0, none⟩), .slice A n c] w1 (RetRow lo b n 0 (ctrG n).g (ctrG n).o none w1)) :=
      Lib.hid (fun lo b A c w1 hlo hm ha hc => gdCount_any lo b A n c w1 h1 h16 hlo hm ha hc)
    have hl3 := spn_len 0 n
    generalize ctrG n = T at *
    obtain ⟨gs, os⟩ := T
    obtain ⟨m, hm⟩ : ∃ m, Hid (os.length = m) := ⟨_, Lib.hid rfl⟩
    have hm0 := Mk.new (w.alloc (.cells #[.int .i64 0, .int .i64 0, .slice none 0 0, .slice none 0 0] 27)) (w.heap.size + 1) (n : Int) 0 72
    have hB2 := hB.alloc hB.size (.cells #[.int .i64 n, .int .i64 0, .slice none 0 0, .slice none 0 0] 72)
    have hx2 := hx0.below ((Below.refl _ _).alloc (Nat.le_refl _) (.cells #[.int .i64 n, .int .i64 0, .slice none 0 0, .slice none 0 0] 72))
    have f2 := (Fz.new w #[.int .i64 0, .int .i64 0, .slice none 0 0, .slice none 0 0] 27).below ((Below.refl _ _).alloc (Nat.le_refl _) (.cells #[.int .i64 n, .int .i64 0, .slice none 0 0, .slice none 0 0] 72)) (by simp)
    simp only [World.size_alloc] at hm0
    go_enter Try.func19, Try.ntmps19
    go_wp2_with fail
    refine (l1In_any _ _ _ true H0.out _).mono ?_
    rintro e w1 ⟨rfl, rfl⟩
    go_wp2_with fail
    refine (ciNew_any n 0 _).mono ?_
    rintro e w3 ⟨rfl, rfl⟩
    go_wp2_with fail
    refine (gdRange_any 0 n _ (by omega) (by omega)).mono ?_
    rintro e w3 hT
    obtain ⟨A3, c3, rfl, hown3, hb3⟩ := hT.open_ hl3
    have hx3 := hx2.below hb3
    have f3 := f2.below hb3 (by simp; omega)
    have hm3 := hm0.below_ hb3 (Nat.le_refl _)
    have hB3 := hB2.trans (hb3.mono hB2.size)
    have hr3 := RM.ofOwn (b := w.heap.size + 1) hown3 (by simp)
    have hz3 := hB3.size
    have hz3' := hb3.size
    have hnc : n ≤ c3 := by
      obtain ⟨A9, c9, h9, _, h8⟩ := hown3.form
      simp only [Value.slice.injEq, true_and] at h9
      omega
    simp only [World.size_alloc] at hz3'
    clear hx0 hx2 hm0 hB hB2 hown3 f2
    go_wp2_with fail
    refine (HF.out (w.heap.size + 1) (w.heap.size + 1) A3 c3 w3 (by omega) hm3 hr3 hnc).mono ?_
    rintro e w5 hT
    obtain ⟨G5, O5, oc5, rfl, hm5, hv5, ho5⟩ := hT.open_ hm.out
    have hx5 : BxC w5 w.heap.size 0 0 none 0 0 none 0 0 := ⟨hv5.cellF hx3.1 ⟨by simp, by simp⟩, hv5.cellF hx3.2.1 ⟨by simp, by simp⟩, hv5.cellF hx3.2.2.1 ⟨by simp, by simp⟩, hv5.cellF hx3.2.2.2 ⟨by simp, by simp⟩⟩
    have hB5 := hv5.toBelow hB3 (by omega) (by simp) hz3
    have hz5 := hv5.size
    obtain ⟨Ag, cg, hx6, hx7, hw7, hfz⟩ := hm5.circuit ho5 (by omega)
    have hB7 := hB5.setCell (p := ⟨w.heap.size + 1, 3, none⟩) (by show w.heap.size ≤ w.heap.size + 1; omega) (.slice O5 m oc5)
    have hx8 : BxC (w5.setCell ⟨w.heap.size + 1, 3, none⟩ (.slice O5 m oc5)) w.heap.size 0 0 none 0 0 none 0 0 := ⟨(World.cell?_setCell_other _ _ _ _ (by simp)).trans hx5.1, (World.cell?_setCell_other _ _ _ _ (by simp)).trans hx5.2.1, (World.cell?_setCell_other _ _ _ _ (by simp)).trans hx5.2.2.1, (World.cell?_setCell_other _ _ _ _ (by simp)).trans hx5.2.2.2⟩
    obtain ⟨i0, i1, i2, i3⟩ := hx7
    obtain ⟨j0, j1, j2, j3⟩ := hx6
    have f8 := (f3.mv hv5 (by omega) ⟨by omega, by simp⟩).set ⟨w.heap.size + 1, 3, none⟩ (.slice O5 m oc5)
    have g0 := f8 0; have g1 := f8 1; have g2 := f8 2; have g3 := f8 3
    have hy9 := hx8; obtain ⟨l0, l1, l2, l3⟩ := hy9
    clear hm5 ho5 hx5 hx3 hm3 hr3 hv5
    go_wp2
    have hq9 := BxC.set4 (hx8) (n : Int) 0 Ag gs.length cg O5 m oc5
    obtain ⟨q0, q1, q2, q3⟩ := hq9
    refine bodyPost_ret (v := .tuple #[.agg #[.int .i64 (n : Int), .int .i64 0, .slice Ag gs.length cg, .slice O5 m oc5], .bool true]) (by simp [results, Try.results19, go_sem, q0, q1, q2, q3]) rfl ?_
    exact RetC.some_ (below_set4 hB7 (Nat.le_refl _) _ _ _ _ _ _ _ _) HR.out rfl hm.out rfl (by rw [set4_size]; exact (((hw7.hi_ (by simp)).set4 (.inl (by omega)) _ _ _ _ _ _ _ _).lo_ (by omega)))
end Go.Proofs.Ytimmjppkaadggaa
