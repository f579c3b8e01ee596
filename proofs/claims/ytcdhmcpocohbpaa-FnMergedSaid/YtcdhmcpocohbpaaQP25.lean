/- MergeGates of the reference. Lengths below 2^21. -/
import Derived.Test.YtcdhmcpocohbpaaQP24
import Derived.Test.YtcdhmcpocohbpaaQP16
import Derived.Test.YtcdhmcpocohbpaaQP07
namespace Go.Proofs.Ytcdhmcpocohbpaa
open Go.RowKit
set_option linter.unusedVariables false
set_option linter.unusedSimpArgs false
attribute [local go_sem] sepAt sepUpon pureAt pureUpon
set_option maxRecDepth 100000 in
set_option maxHeartbeats 3000000 in
theorem spec_MergeGates_any (x y : Int) (Ag : Option Addr) (ng cg : Nat) (Ao : Option Addr) (no co : Nat) (gs : List G3) (os : List Int) (w : World) (hr : RG w Ag ng gs ∧ RI w Ao no os) (hng : ng ≤ 2097152) (hno : no ≤ 2097152) :
    Calls Try.prog 6 #[.agg #[.int .i64 x, .int .i64 y, .slice Ag ng cg, .slice Ao no co]] w (RetC w (mergeF x y gs os)) := by
  have hlg := hr.1.len
  have hlo := hr.2.len
  have hB1 : Below w.heap.size w (w.alloc (.cells #[.int .i64 x, .int .i64 y, .slice Ag ng cg, .slice Ao no co] 26)) := (Below.refl _ _).alloc (Nat.le_refl _) _
  have hB : Below w.heap.size w ((w.alloc (.cells #[.int .i64 x, .int .i64 y, .slice Ag ng cg, .slice Ao no co] 26)).alloc (.cells #[.int .i64 0, .int .i64 0, .slice none 0 0, .slice none 0 0] 26)) := hB1.alloc (by simp) _
  have hx0 : BxC ((w.alloc (.cells #[.int .i64 x, .int .i64 y, .slice Ag ng cg, .slice Ao no co] 26)).alloc (.cells #[.int .i64 0, .int .i64 0, .slice none 0 0, .slice none 0 0] 26)) w.heap.size x y Ag ng cg Ao no co := (BxC.new w _).below ((Below.refl _ _).alloc (Nat.le_refl _) _)
  have hr0 : BxC ((w.alloc (.cells #[.int .i64 x, .int .i64 y, .slice Ag ng cg, .slice Ao no co] 26)).alloc (.cells #[.int .i64 0, .int .i64 0, .slice none 0 0, .slice none 0 0] 26)) (w.heap.size + 1) 0 0 none 0 0 none 0 0 := by simpa using BxC.new (x := 0) (y := 0) (Ag := none) (ng := 0) (cg := 0) (Ao := none) (no := 0) (co := 0) (w.alloc (.cells #[.int .i64 x, .int .i64 y, .slice Ag ng cg, .slice Ao no co] 26)) 26
  have f0 : Fz ((w.alloc (.cells #[.int .i64 x, .int .i64 y, .slice Ag ng cg, .slice Ao no co] 26)).alloc (.cells #[.int .i64 0, .int .i64 0, .slice none 0 0, .slice none 0 0] 26)) (w.heap.size + 1) := by simpa using Fz.new (w.alloc (.cells #[.int .i64 x, .int .i64 y, .slice Ag ng cg, .slice Ao no co] 26)) #[.int .i64 0, .int .i64 0, .slice none 0 0, .slice none 0 0] 26
  have hs0 : ((w.alloc (.cells #[.int .i64 x, .int .i64 y, .slice Ag ng cg, .slice Ao no co] 26)).alloc (.cells #[.int .i64 0, .int .i64 0, .slice none 0 0, .slice none 0 0] 26)).heap.size = w.heap.size + 2 := by simp
  cases h0 : circB x y gs os with
  | false =>
    have HR : Hid (mergeF x y gs os = none) := Lib.hid (by simp [mergeF, h0])
    have H0 := Lib.hid h0; clear h0
    go_enter Try.func6, Try.ntmps6
    have hq := hx0; obtain ⟨k0, k1, k2, k3⟩ := hq
    go_wp2_with fail
    refine (ciGood_any x y Ag ng cg Ao no co gs os _ (hr.1.below hB (Nat.le_refl _)) (hr.2.below hB (Nat.le_refl _)) hng hno).mono ?_
    rintro e v1 ⟨rfl, hb1⟩
    rw [H0.out]
    clear k0 k1 k2 k3
    have hx1 := hx0.below hb1
    have hr1 := hr0.below hb1
    have f1 := f0.below hb1 (by rw [hs0]; omega)
    have hBv := hB.trans (hb1.mono hB.size)
    have hz1 := hb1.size
    rw [hs0] at hz1
    clear hx0 hr0 f0 hb1 hB hB1 hs0
    have hq := hr1; obtain ⟨r0, r1, r2, r3⟩ := hq
    have g0 := f1 0; have g1 := f1 1; have g2 := f1 2; have g3 := f1 3
    go_wp2
    have hq9 := BxC.set4 (hr1) 0 0 none 0 0 none 0 0
    obtain ⟨q0, q1, q2, q3⟩ := hq9
    refine bodyPost_ret (v := .tuple #[.agg #[.int .i64 0, .int .i64 0, .slice none 0 0, .slice none 0 0], .bool false]) (by simp [results, Try.results6, go_sem, q0, q1, q2, q3]) rfl ?_
    exact RetC.none_ (below_set4 hBv (by omega) _ _ _ _ _ _ _ _) HR.out rfl
  | true =>
    obtain ⟨hx, hy, hg3, ho3, hgB, hao⟩ := circB_bd h0
    have hgt0 := circB_gate_at h0 hlg
    rw [hlg] at hg3 hao
    rw [hlo] at ho3
    have H0 := Lib.hid h0; clear h0 hgB
    obtain ⟨X, hX1, hX2⟩ : ∃ X : Nat, (X : Int) ≤ x + y ∧ x + y ≤ X := ⟨(x + y).toNat, by omega, by omega⟩
    have hXt : (x + y).toNat = X := by omega
    have hgt : ∀ k : Nat, k < ng → GateIs (gg gs k) ((X : Int) + k) := fun k hk => by
      have h := hgt0 k hk
      rwa [show x + y = (X : Int) by omega] at h
    have HF : Hid (mergeF x y gs os = some ⟨x, y, (mrg X gs ng).1, pick (mrg X gs ng).2 os⟩) := Lib.hid (by unfold mergeF; rw [H0.out, if_pos rfl, hXt, hlg])
    have HXe : Hid (x + y = (X : Int)) := Lib.hid (by omega)
    have HN : Hid (x + y + (ng : Int) = ((X + ng : Nat) : Int)) := Lib.hid (by omega)
    have HFe := Lib.hid (frow_end X ng gs)
    have HF0 := Lib.hid (frow_zero X ng gs)
    clear hgt0 hXt
    go_enter Try.func6, Try.ntmps6
    have hq := hx0; obtain ⟨k0, k1, k2, k3⟩ := hq
    go_wp2_with fail
    refine (ciGood_any x y Ag ng cg Ao no co gs os _ (hr.1.below hB (Nat.le_refl _)) (hr.2.below hB (Nat.le_refl _)) hng hno).mono ?_
    rintro e v1 ⟨rfl, hb1⟩
    rw [H0.out]
    clear k0 k1 k2 k3
    have hx1 := hx0.below hb1
    have hr1 := hr0.below hb1
    have f1 := f0.below hb1 (by rw [hs0]; omega)
    have hBv := hB.trans (hb1.mono hB.size)
    have hz1 := hb1.size
    rw [hs0] at hz1
    clear hx0 hr0 f0 hb1 hB hB1 hs0
    have hq := hx1; obtain ⟨k0, k1, k2, k3⟩ := hq
    go_wp2_with fail
    refine (ciWires_any x y Ag ng cg Ao no co _ hx hy (by omega)).mono ?_
    rintro e v2 ⟨rfl, hb2⟩
    rw [HN.out]
    go_wp2_with fail
    refine (gdRange_any 0 (X + ng) _ (by omega) (by omega)).mono ?_
    rintro e v3 hT
    obtain ⟨F, cF, rfl, hF, hb3⟩ := hT.open_ (spn_len 0 (X + ng))
    rw [← HF0.out] at hF
    have hz2 := hb2.size
    have hz3 := hb3.size
    have hb23 := hb2.trans (hb3.mono hz2)
    have hx3 := hx1.below hb23
    have hr3 := hr1.below hb23
    have f3 := f1.below hb23 hr1.lt
    have hB3 := hBv.trans (hb23.mono hBv.size)
    clear k0 k1 k2 k3 hx1 hr1 f1 hBv hb2 hb3 hb23
    have hq := hx3; obtain ⟨k0, k1, k2, k3⟩ := hq
    have hbA : Below v3.heap.size v3 (v3.alloc (.cells #[.int .i64 x, .int .i64 y, .slice none 0 0, .slice none 0 0] 26)) := (Below.refl _ _).alloc (Nat.le_refl _) _
    have hsA : (v3.alloc (.cells #[.int .i64 x, .int .i64 y, .slice none 0 0, .slice none 0 0] 26)).heap.size = v3.heap.size + 1 := by simp
    have hI0 : MsI (v3.alloc (.cells #[.int .i64 x, .int .i64 y, .slice none 0 0, .slice none 0 0] 26)) v2.heap.size v3.heap.size x y none 0 0 [] F (X + ng) cF (frow X ng gs 0) := ⟨BxC.new _ _, Fz.new v3 _ _, OwnG.none_ _ _ _, (hF.below hbA (.inl (Nat.le_refl _))).now, Apart.noneG _ _ _, by simp [Value.ownBlock], fun hc => by have := hF.lt _ hc; omega, hz3, by rw [hsA]; omega⟩
    have hx4 := hx3.below hbA
    have hq := hx4; obtain ⟨q0, q1, q2, q3⟩ := hq
    go_wp2
    clear k0 k1 k2 k3 q0 q1 q2 q3 hx4
    go_loopw [24] (fun i wr => ∃ (k : Nat) (G : Option Addr) (cG : Nat), k ≤ ng ∧ i = .int .i64 k ∧ MsI wr v2.heap.size v3.heap.size x y G k cG (mrg X gs k).1 F (X + ng) cF (frow X ng gs k) ∧ Below v2.heap.size v3 wr) (fun i _ => ng - (intOf i).toNat)
    case atStart => exact ⟨0, _, _, Nat.zero_le _, rfl, hI0, hbA.mono hz3⟩
    case round =>
      obtain ⟨k, G, cG, hk, rfl, hI, hb⟩ := hrel
      clear hI0 hbA hsA
      obtain ⟨wo, rfl⟩ : ∃ wo : World, wo = wr := ⟨_, rfl⟩
      have hbw : Below w.heap.size w wo := hB3.trans (hb.mono (by omega))
      have hml := mrg_len X gs k
      by_cases hlt : k < ng
      · obtain ⟨b, o, rfl, hbB, c1, c2, c3⟩ := (hr.1.below hbw (Nat.le_refl _)).at_ hlt
        have hgk := hgt k hlt
        have hmg := mrg_gates (n := X) (gs := gs) (m := ng) hgt k (by omega)
        have hMg := mrg_gate (n := X) hgk
        obtain ⟨M, hM⟩ : ∃ M, Hid (mvG (fun z => gi (mrg X gs k).2 z.toNat) (gg gs k) = M) := ⟨_, Lib.hid rfl⟩
        obtain ⟨hs, hhs⟩ : ∃ hs, Hid ((mrg X gs k).1 = hs) := ⟨_, Lib.hid rfl⟩
        have HS1 : Hid ((mrg X gs (k + 1)).1 = hs ++ [M]) := Lib.hid (by simp only [mrg]; rw [hhs.out, hM.out])
        have HRow : Hid (frow X ng gs k = rowV X ng gs k ((X : Int) + k)) := Lib.hid (frow_row hlt)
        have HNext := fun v hv => Lib.hid (rowV_next (X := X) (ng := ng) (gs := gs) (k := k) v hv)
        rw [hhs.out] at hI hmg hml
        rw [hM.out] at hMg
        have HNx : ∀ v, v = (X : Int) + (same1 hs M : Nat) → Hid (rowV X ng gs k v = frow X ng gs (k + 1)) := fun v hv => HNext v (by rw [hhs.out, hM.out]; exact hv)
        clear HNext
        obtain ⟨hml1, hml2⟩ := hml
        rw [HRow.out] at hI
        have hrl := row_len (X := X) (gs := gs) (k := k) ((X : Int) + k) hlt
        obtain ⟨fB, rfl, _⟩ := hI.f.some_ (by omega)
        have hfa := fun j (hj : j < X + k) => Lib.hid (row_at (X := X) (ng := ng) (gs := gs) (k := k) ((X : Int) + k) hj)
        have HFA := Lib.hid hfa; clear hfa
        have hfn : fB < wo.heap.size := by have := hI.f.lt fB (by simp [Value.ownBlock]); omega
        have hfw : fB ≠ wo.heap.size := by omega
        have hbA : Below wo.heap.size wo (wo.alloc (.cells #[.int .i64 (gg gs k).k, .int .i64 (gg gs k).a, .int .i64 (gg gs k).b] 41)) := (Below.refl _ _).alloc (Nat.le_refl _) _
        have hIA := hI.below hbA
        have hgA := BxG.new (k := (gg gs k).k) (a := (gg gs k).a) (c := (gg gs k).b) wo 41
        have fgA := Fz.new wo #[.int .i64 (gg gs k).k, .int .i64 (gg gs k).a, .int .i64 (gg gs k).b] 41
        have hsA : (wo.alloc (.cells #[.int .i64 (gg gs k).k, .int .i64 (gg gs k).a, .int .i64 (gg gs k).b] 41)).heap.size = wo.heap.size + 1 := by simp
        obtain ⟨g, hg⟩ : ∃ g, g = gg gs k := ⟨_, rfl⟩
        rw [← hg] at hgk hM hgA fgA hIA hbA hsA c1 c2 c3
        have HG := Lib.hid hg.symm; clear hg
        obtain ⟨gk, ga, gb⟩ := g
        dsimp only at hgA fgA hIA hbA hsA c1 c2 c3
        have hq := hgA; obtain ⟨q0, q1, q2⟩ := hq
        have e0 := fgA 0; have e1 := fgA 1; have e2 := fgA 2
        cases hgk with
        | one_ hk' a0 b0 =>
          dsimp only at hk' a0 b0
          subst hk'
          subst a0
          subst b0
          have hMe : Hid (M = ⟨3, 0, 0⟩) := Lib.hid (by rw [← hM.out]; simp [mvG])
          obtain ⟨W2, hW2⟩ : ∃ W2, W2 = wo.alloc (.cells #[.int .i64 3, .int .i64 0, .int .i64 0] 41) := ⟨_, rfl⟩
          have hg2 : BxG W2 wo.heap.size M.k M.a M.b := by rw [hMe.out, hW2]; exact BxG.new _ _
          have fg2 : Fz W2 wo.heap.size := by rw [hW2]; exact Fz.new _ _ _
          have hbl2 : Below wo.heap.size wo W2 := by rw [hW2]; exact (Below.refl _ _).alloc (Nat.le_refl _) _
          have hz2' : W2.heap.size = wo.heap.size + 1 := by rw [hW2]; simp
          have hI2 := hI.below hbl2
          go_wp2
          rw [← hW2]
          clear hIA hgA fgA hbA hsA e0 e1 e2 q0 q1 q2
          have hfl : v2.heap.size ≤ fB := by have := hI.f.lt fB (by simp [Value.ownBlock]); omega
          have hb2 := hb.trans (hbl2.mono (by have := hb.size; omega))
          clear hI hbl2 hW2 HFA
          go_loopw [8] (fun i wr => ∃ (j : Nat), j ≤ k ∧ i = .int .i64 ((j : Int) - 1) ∧ MsI wr v2.heap.size v3.heap.size x y G k cG hs (some ⟨fB, 0, none⟩) (X + ng) cF (rowV X ng gs k ((X : Int) + (same2 hs M j : Nat))) ∧ BxG wr wo.heap.size M.k M.a M.b ∧ Below v2.heap.size v3 wr) (fun i _ => (intOf i + 1).toNat)
          case atStart => exact ⟨k, Nat.le_refl _, rfl, by rw [same2_end hml1]; exact hI2, hg2, hb2⟩
          case round =>
            obtain ⟨j, hj, rfl, hIr, hgr, hbr⟩ := hrel
            clear hI2 hg2 fg2 hb2 hz2'
            have hzr := hbr.size
            by_cases hj0 : j = 0
            · subst hj0
              have h0n : ((0 : Nat) : Int) - 1 = -1 := by omega
              rw [h0n]
              clear h0n
              rw [same2_zero] at hIr
              rw [(HNx _ rfl).out] at hIr
              have hbA := (Below.refl wr.heap.size wr).alloc (Nat.le_refl _) (.cells #[.int .i64 M.k, .int .i64 M.a, .int .i64 M.b] 41)
              have hA := hIr.below hbA
              have hbrA := hbr.alloc (by omega) (.cells #[.int .i64 M.k, .int .i64 M.a, .int .i64 M.b] 41)
              have hq := hIr.bx; obtain ⟨p0, p1, p2, p3⟩ := hq
              have hq := hgr; obtain ⟨q0, q1, q2⟩ := hq
              go_wp2_with (at_builtin; refine wpList_appG _ rfl _ _ rfl rfl hA.g rfl (RG_new1 _ _ _ _ _) (by omega) (by first | (simp; done) | (simp; omega)) ?_; intro G' c' w6 hown6 hg6 hat6 hk6; have ha := MsI.app hA hown6 hg6 hat6; have hb6 := below_appG hbrA hA.g hg6 (by first | (simp; done) | (simp; omega)) (Nat.le_refl _); obtain ⟨hx6, f6, hI6⟩ := ha; obtain ⟨j0, j1, j2, j3⟩ := hx6; have e9 := f6 2; clear hown6 hg6 hat6 hk6)
              have hI7 := hI6
              have hb7 := hb6.setCell (p := ⟨v3.heap.size, 2, none⟩) (by show v2.heap.size ≤ v3.heap.size; omega) (.slice G' (k + 1) c')
              rw [← HS1.out] at hI7
              clear hI6 hb6 hA hbA hbrA hIr hgr hbr
              go_roundw
              case rel => exact ⟨k + 1, _, _, by omega, by go_num, hI7, hb7⟩
              case measure => first | (simp [intOf]; done) | (simp [intOf]; omega)
            · obtain ⟨J, rfl⟩ : ∃ J, j = J + 1 := ⟨j - 1, by omega⟩
              have hiJ : ((J + 1 : Nat) : Int) - 1 = J := by omega
              rw [hiJ]
              clear hiJ hj0
              have hJk : (J : Int) < k := by omega
              have hJ0 : (0 : Int) ≤ J := by omega
              have hJn : J < k := by omega
              have hgJ := hmg J hJn
              have HQ : Hid (siSameB (gg hs J) M = sameG (gg hs J) M) := Lib.hid (siSame_eq hgJ hMg)
              obtain ⟨bg, og, hGe, hgbl, d0, d1, d2⟩ := hIr.g.reads.at_ (k := J) (by omega)
              subst hGe
              have hq := hIr.bx; obtain ⟨p0, p1, p2, p3⟩ := hq
              have hq := hgr; obtain ⟨q0, q1, q2⟩ := hq
              cases hsm : sameG (gg hs J) M with
              | true =>
                have HSm := Lib.hid (HQ.out.trans hsm)
                have HY := Lib.hid (same2_yes (hs := hs) (g := M) (j := J) (by omega) hsm)
                clear hsm
                go_wp2_with fail
                refine wp_region_keep (wr.heap.size) (wr) [(⟨v3.heap.size, 2, none⟩, .slice (some ⟨bg, og, none⟩) k cG), (⟨bg, og + J * 3, none⟩, .int .i64 (gg hs J).k), (⟨bg, og + J * 3 + 1, none⟩, .int .i64 (gg hs J).a), (⟨bg, og + J * 3 + 2, none⟩, .int .i64 (gg hs J).b), (⟨wo.heap.size, 0, none⟩, .int .i64 M.k), (⟨wo.heap.size, 1, none⟩, .int .i64 M.a), (⟨wo.heap.size, 2, none⟩, .int .i64 M.b)] (by kernel_rfl) (by kernel_rfl) (by simp only [List.mem_cons, forall_eq_or_imp, List.not_mem_nil, false_implies, implies_true, and_true]; repeat (any_goals (apply And.intro)); all_goals (first | assumption | go_simp)) ?_
                repeat (first
                  | go_big_quiet_skip
                  | (go_big_quiet_want
                     apply Exists.intro
                     refine ⟨fun w3 hw3 => ?_, ?_⟩
                     · have hcs := hw3.2
                       simp only [List.mem_cons, forall_eq_or_imp, List.not_mem_nil, false_implies, implies_true, and_true] at hcs
                       simp only [Oper.quietAt]
                       go_simp
                       first | done | exact ⟨rfl, rfl⟩ | rfl | (refine (siSame_any (gg hs J) M _).mono ?_; rintro e w4 ⟨he, hb4⟩; rw [HSm.out] at he; obtain rfl := he; exact ⟨rfl, hw3.next hb4 (Nat.le_refl _)⟩)
                     go_big_quiet_on
                     try simp only [Act.put, List.setIfInBounds_toArray, List.set_cons_zero, List.set_cons_succ]))
                refine wpQuiet_nil ?_
                intro wq hwq
                have hbq := hwq.1
                have hIq := hIr.below hbq
                have hgq := hgr.below hbq
                have hbrq := hbr.trans (hbq.mono (by omega))
                have hzq := hbrq.size
                clear hIr hgr hbr hwq hbq p0 p1 p2 p3 q0 q1 q2 d0 d1 d2
                have hxq := hx3.bel hbrq (by omega)
                have hq := hxq; obtain ⟨k0, k1, k2, k3⟩ := hq
                have hwA : IntKind.i64.wrap ((X : Int) + (k : Int)) = (X : Int) + k := IntWalk.i64_in _ (by omega)
                have hwB : IntKind.i64.wrap ((X : Int) + (J : Int)) = (X : Int) + J := IntWalk.i64_in _ (by omega)
                have hi0 : (0 : Int) ≤ (X : Int) + k := by omega
                have hi1 : (X : Int) + (k : Int) < (X : Int) + (ng : Int) := by omega
                have hi2 : (X : Int) + (k : Int) < ((X + ng : Nat) : Int) := by omega
                have hti : ((X : Int) + (k : Int)).toNat = X + k := by omega
                go_wp2_with fail
                refine wp_region_mem0 (10) [(⟨w.heap.size, 0, none⟩, .int .i64 x), (⟨w.heap.size, 1, none⟩, .int .i64 y), (⟨w.heap.size, 2, none⟩, .slice (some ⟨b, o, none⟩) ng cg), (⟨w.heap.size, 3, none⟩, .slice Ao no co)] [(2, [], []), (6, [], [])] [] [(2, Res.plain (.int .i64 (X : Int))), (6, Res.plain (.int .i64 (X : Int)))] (by kernel_rfl) (by kernel_rfl) (by kernel_rfl) (by simp only [CellsL, List.mem_cons, forall_eq_or_imp, List.not_mem_nil, false_implies, implies_true, and_true]; repeat (any_goals (apply And.intro)); all_goals (first | assumption | go_simp)) ?_
                simp only [List.take_succ_cons, List.take_zero, List.drop_succ_cons, List.drop_zero, List.take_nil, List.drop_nil, List.take, List.drop]
                repeat (first
                  | ((with_reducible refine mem_pure0 ?_ ?_ ?_)
                     · exact rfl
                     · exact rfl
                     intro K hK
                     apply Exists.intro
                     refine ⟨fun w3 hw3 => ?_, ?_⟩
                     · have hcs := hw3
                       simp only [CellsL, List.mem_cons, forall_eq_or_imp, List.not_mem_nil, false_implies, implies_true, and_true] at hcs
                       clear hw3
                       go_simp
                       first | done | exact ⟨rfl, rfl⟩ | rfl
                     refine hK _ ?_
                     clear hK K
                     try simp only [Act.put, List.setIfInBounds_toArray, List.set_cons_zero, List.set_cons_succ])
                  | ((with_reducible refine mem_skip ?_ ?_ ?_)
                     · exact rfl
                     · exact wanted_not rfl rfl rfl rfl
                     simp only [Act.put, List.setIfInBounds_toArray, List.set_cons_zero, List.set_cons_succ])
                  | ((with_reducible refine mem_pure ?_ ?_ ?_)
                     · exact rfl
                     · exact wanted_some rfl rfl rfl rfl
                     intro K hK
                     apply Exists.intro
                     refine ⟨fun w3 hw3 => ?_, ?_⟩
                     · have hcs := hw3
                       simp only [CellsL, List.mem_cons, forall_eq_or_imp, List.not_mem_nil, false_implies, implies_true, and_true] at hcs
                       clear hw3
                       go_simp
                       first | done | exact ⟨rfl, rfl⟩ | rfl
                     refine hK _ ?_
                     clear hK K
                     try simp only [Act.put, List.setIfInBounds_toArray, List.set_cons_zero, List.set_cons_succ]))
                focus
                  (with_reducible refine mem_plain (.int .i64 (X : Int)) ?_ ?_ ?_ ?_ (hw := ?_))
                  · exact rfl
                  · exact rfl
                  · intro w3 hw3 hc3 hp3
                    have hcs := hc3
                    simp only [CellsL, List.mem_cons, forall_eq_or_imp, List.not_mem_nil, false_implies, implies_true, and_true] at hcs
                    (go_simp; refine (ciInputs_any x y (some ⟨b, o, none⟩) ng cg Ao no co _ hx hy).mono ?_; rintro e w4 ⟨rfl, hb4⟩; rw [HXe.out]; exact retPost.mk_ (postPlain.mk_ hb4))
                  rotate_left
                  · first | exact wanted_none rfl | exact wanted_some rfl rfl rfl rfl
                  try simp only [Act.put, List.setIfInBounds_toArray, List.set_cons_zero, List.set_cons_succ]
                repeat (first
                  | ((with_reducible refine mem_pure0 ?_ ?_ ?_)
                     · exact rfl
                     · exact rfl
                     intro K hK
                     apply Exists.intro
                     refine ⟨fun w3 hw3 => ?_, ?_⟩
                     · have hcs := hw3
                       simp only [CellsL, List.mem_cons, forall_eq_or_imp, List.not_mem_nil, false_implies, implies_true, and_true] at hcs
                       clear hw3
                       go_simp
                       first | done | exact ⟨rfl, rfl⟩ | rfl
                     refine hK _ ?_
                     clear hK K
                     try simp only [Act.put, List.setIfInBounds_toArray, List.set_cons_zero, List.set_cons_succ])
                  | ((with_reducible refine mem_skip ?_ ?_ ?_)
                     · exact rfl
                     · exact wanted_not rfl rfl rfl rfl
                     simp only [Act.put, List.setIfInBounds_toArray, List.set_cons_zero, List.set_cons_succ])
                  | ((with_reducible refine mem_pure ?_ ?_ ?_)
                     · exact rfl
                     · exact wanted_some rfl rfl rfl rfl
                     intro K hK
                     apply Exists.intro
                     refine ⟨fun w3 hw3 => ?_, ?_⟩
                     · have hcs := hw3
                       simp only [CellsL, List.mem_cons, forall_eq_or_imp, List.not_mem_nil, false_implies, implies_true, and_true] at hcs
                       clear hw3
                       go_simp
                       first | done | exact ⟨rfl, rfl⟩ | rfl
                     refine hK _ ?_
                     clear hK K
                     try simp only [Act.put, List.setIfInBounds_toArray, List.set_cons_zero, List.set_cons_succ]))
                focus
                  (with_reducible refine mem_plain (.int .i64 (X : Int)) ?_ ?_ ?_ ?_ (hw := ?_))
                  · exact rfl
                  · exact rfl
                  · intro w3 hw3 hc3 hp3
                    have hcs := hc3
                    simp only [CellsL, List.mem_cons, forall_eq_or_imp, List.not_mem_nil, false_implies, implies_true, and_true] at hcs
                    (go_simp; refine (ciInputs_any x y (some ⟨b, o, none⟩) ng cg Ao no co _ hx hy).mono ?_; rintro e w4 ⟨rfl, hb4⟩; rw [HXe.out]; exact retPost.mk_ (postPlain.mk_ hb4))
                  rotate_left
                  · first | exact wanted_none rfl | exact wanted_some rfl rfl rfl rfl
                  try simp only [Act.put, List.setIfInBounds_toArray, List.set_cons_zero, List.set_cons_succ]
                repeat (first
                  | ((with_reducible refine mem_pure0 ?_ ?_ ?_)
                     · exact rfl
                     · exact rfl
                     intro K hK
                     apply Exists.intro
                     refine ⟨fun w3 hw3 => ?_, ?_⟩
                     · have hcs := hw3
                       simp only [CellsL, List.mem_cons, forall_eq_or_imp, List.not_mem_nil, false_implies, implies_true, and_true] at hcs
                       clear hw3
                       go_simp
                       first | done | exact ⟨rfl, rfl⟩ | rfl
                     refine hK _ ?_
                     clear hK K
                     try simp only [Act.put, List.setIfInBounds_toArray, List.set_cons_zero, List.set_cons_succ])
                  | ((with_reducible refine mem_skip ?_ ?_ ?_)
                     · exact rfl
                     · exact wanted_not rfl rfl rfl rfl
                     simp only [Act.put, List.setIfInBounds_toArray, List.set_cons_zero, List.set_cons_succ])
                  | ((with_reducible refine mem_pure ?_ ?_ ?_)
                     · exact rfl
                     · exact wanted_some rfl rfl rfl rfl
                     intro K hK
                     apply Exists.intro
                     refine ⟨fun w3 hw3 => ?_, ?_⟩
                     · have hcs := hw3
                       simp only [CellsL, List.mem_cons, forall_eq_or_imp, List.not_mem_nil, false_implies, implies_true, and_true] at hcs
                       clear hw3
                       go_simp
                       first | done | exact ⟨rfl, rfl⟩ | rfl
                     refine hK _ ?_
                     clear hK K
                     try simp only [Act.put, List.setIfInBounds_toArray, List.set_cons_zero, List.set_cons_succ]))
                refine wpSep_end ?_
                intro wz hwz hcz hfin hap
                have hbz := alt_below hwz
                have hIz := hIq.below hbz
                have hgz := hgq.below hbz
                have hbrz := hbrq.trans (hbz.mono (by omega))
                have hzz := hbrz.size
                have hlz := row_len (X := X) (gs := gs) (k := k) ((X : Int) + (same2 hs M (J + 1) : Nat)) hlt
                obtain ⟨t1, t2⟩ := hIz.f.cellAt (k := X + k) (by omega)
                have hI8 := hIz.setF (X + k) ((X : Int) + J)
                rw [row_set] at hI8
                have hI9 : MsI (wz.setCell ⟨fB, X + k, none⟩ (.int .i64 ((X : Int) + J))) v2.heap.size v3.heap.size x y (some ⟨bg, og, none⟩) k cG hs (some ⟨fB, 0, none⟩) (X + ng) cF (rowV X ng gs k ((X : Int) + (same2 hs M J : Nat))) := by rw [HY.out]; exact hI8
                have hg9 := hgz.far ⟨fB, X + k, none⟩ (.int .i64 ((X : Int) + J)) hfw
                have hb9 := hbrz.setCell (p := ⟨fB, X + k, none⟩) hfl (.int .i64 ((X : Int) + J))
                clear hIq hgq hbrq hxq hI8 hIz hgz hbz hfin hap hcz hwz k0 k1 k2 k3
                go_wp2
                go_roundw
                case rel => exact ⟨J, by omega, rfl, hI9, hg9, hb9⟩
                case measure => first | (simp [intOf]; done) | (simp [intOf]; omega)
              | false =>
                have HSm := Lib.hid (HQ.out.trans hsm)
                have HY := Lib.hid (same2_no (hs := hs) (g := M) (j := J) (by omega) hsm)
                clear hsm
                go_wp2_with fail
                refine wp_region_keep (wr.heap.size) (wr) [(⟨v3.heap.size, 2, none⟩, .slice (some ⟨bg, og, none⟩) k cG), (⟨bg, og + J * 3, none⟩, .int .i64 (gg hs J).k), (⟨bg, og + J * 3 + 1, none⟩, .int .i64 (gg hs J).a), (⟨bg, og + J * 3 + 2, none⟩, .int .i64 (gg hs J).b), (⟨wo.heap.size, 0, none⟩, .int .i64 M.k), (⟨wo.heap.size, 1, none⟩, .int .i64 M.a), (⟨wo.heap.size, 2, none⟩, .int .i64 M.b)] (by kernel_rfl) (by kernel_rfl) (by simp only [List.mem_cons, forall_eq_or_imp, List.not_mem_nil, false_implies, implies_true, and_true]; repeat (any_goals (apply And.intro)); all_goals (first | assumption | go_simp)) ?_
                repeat (first
                  | go_big_quiet_skip
                  | (go_big_quiet_want
                     apply Exists.intro
                     refine ⟨fun w3 hw3 => ?_, ?_⟩
                     · have hcs := hw3.2
                       simp only [List.mem_cons, forall_eq_or_imp, List.not_mem_nil, false_implies, implies_true, and_true] at hcs
                       simp only [Oper.quietAt]
                       go_simp
                       first | done | exact ⟨rfl, rfl⟩ | rfl | (refine (siSame_any (gg hs J) M _).mono ?_; rintro e w4 ⟨he, hb4⟩; rw [HSm.out] at he; obtain rfl := he; exact ⟨rfl, hw3.next hb4 (Nat.le_refl _)⟩)
                     go_big_quiet_on
                     try simp only [Act.put, List.setIfInBounds_toArray, List.set_cons_zero, List.set_cons_succ]))
                refine wpQuiet_nil ?_
                intro wq hwq
                have hbq := hwq.1
                have hIq := hIr.below hbq
                rw [← HY.out] at hIq
                have hgq := hgr.below hbq
                have hbrq := hbr.trans (hbq.mono (by omega))
                clear hIr hgr hbr hwq hbq p0 p1 p2 p3 q0 q1 q2 d0 d1 d2
                go_wp2
                go_roundw
                case rel => exact ⟨J, by omega, rfl, hIq, hgq, hbrq⟩
                case measure => first | (simp [intOf]; done) | (simp [intOf]; omega)
        | not_ hk' a0 a1 b0 =>
          dsimp only at hk' a0 a1 b0
          subst hk'
          subst b0
          obtain ⟨A, rfl⟩ : ∃ A : Nat, ga = A := ⟨ga.toNat, by omega⟩
          have hAk : A < X + k := by omega
          obtain ⟨va, hva⟩ : ∃ va, Hid (gi (mrg X gs k).2 A = va) := ⟨_, Lib.hid rfl⟩
          obtain ⟨ca, _⟩ := hIA.f.cellAt (k := A) (by omega)
          rw [(HFA.out A hAk).out, hva.out] at ca
          have hA1 : (A : Int) < (X : Int) + (ng : Int) := by omega
          have hA2 : (A : Int) < ((X + ng : Nat) : Int) := by omega
          have hMe : Hid (M = ⟨2, va, 0⟩) := Lib.hid (by rw [← hM.out, ← hva.out]; simp [mvG])
          obtain ⟨W2, hW2⟩ : ∃ W2, W2 = wo.alloc (.cells #[.int .i64 2, .int .i64 va, .int .i64 0] 41) := ⟨_, rfl⟩
          have hg2 : BxG W2 wo.heap.size M.k M.a M.b := by rw [hMe.out, hW2]; exact BxG.new _ _
          have fg2 : Fz W2 wo.heap.size := by rw [hW2]; exact Fz.new _ _ _
          have hbl2 : Below wo.heap.size wo W2 := by rw [hW2]; exact (Below.refl _ _).alloc (Nat.le_refl _) _
          have hz2' : W2.heap.size = wo.heap.size + 1 := by rw [hW2]; simp
          have hI2 := hI.below hbl2
          go_wp2
          rw [← hW2]
          clear hIA hgA fgA hbA hsA e0 e1 e2 q0 q1 q2
          have hfl : v2.heap.size ≤ fB := by have := hI.f.lt fB (by simp [Value.ownBlock]); omega
          have hb2 := hb.trans (hbl2.mono (by have := hb.size; omega))
          clear hI hbl2 hW2 HFA
          go_loopw [8] (fun i wr => ∃ (j : Nat), j ≤ k ∧ i = .int .i64 ((j : Int) - 1) ∧ MsI wr v2.heap.size v3.heap.size x y G k cG hs (some ⟨fB, 0, none⟩) (X + ng) cF (rowV X ng gs k ((X : Int) + (same2 hs M j : Nat))) ∧ BxG wr wo.heap.size M.k M.a M.b ∧ Below v2.heap.size v3 wr) (fun i _ => (intOf i + 1).toNat)
          case atStart => exact ⟨k, Nat.le_refl _, rfl, by rw [same2_end hml1]; exact hI2, hg2, hb2⟩
          case round =>
            obtain ⟨j, hj, rfl, hIr, hgr, hbr⟩ := hrel
            clear hI2 hg2 fg2 hb2 hz2'
            have hzr := hbr.size
            by_cases hj0 : j = 0
            · subst hj0
              have h0n : ((0 : Nat) : Int) - 1 = -1 := by omega
              rw [h0n]
              clear h0n
              rw [same2_zero] at hIr
              rw [(HNx _ rfl).out] at hIr
              have hbA := (Below.refl wr.heap.size wr).alloc (Nat.le_refl _) (.cells #[.int .i64 M.k, .int .i64 M.a, .int .i64 M.b] 41)
              have hA := hIr.below hbA
              have hbrA := hbr.alloc (by omega) (.cells #[.int .i64 M.k, .int .i64 M.a, .int .i64 M.b] 41)
              have hq := hIr.bx; obtain ⟨p0, p1, p2, p3⟩ := hq
              have hq := hgr; obtain ⟨q0, q1, q2⟩ := hq
              go_wp2_with (at_builtin; refine wpList_appG _ rfl _ _ rfl rfl hA.g rfl (RG_new1 _ _ _ _ _) (by omega) (by first | (simp; done) | (simp; omega)) ?_; intro G' c' w6 hown6 hg6 hat6 hk6; have ha := MsI.app hA hown6 hg6 hat6; have hb6 := below_appG hbrA hA.g hg6 (by first | (simp; done) | (simp; omega)) (Nat.le_refl _); obtain ⟨hx6, f6, hI6⟩ := ha; obtain ⟨j0, j1, j2, j3⟩ := hx6; have e9 := f6 2; clear hown6 hg6 hat6 hk6)
              have hI7 := hI6
              have hb7 := hb6.setCell (p := ⟨v3.heap.size, 2, none⟩) (by show v2.heap.size ≤ v3.heap.size; omega) (.slice G' (k + 1) c')
              rw [← HS1.out] at hI7
              clear hI6 hb6 hA hbA hbrA hIr hgr hbr
              go_roundw
              case rel => exact ⟨k + 1, _, _, by omega, by go_num, hI7, hb7⟩
              case measure => first | (simp [intOf]; done) | (simp [intOf]; omega)
            · obtain ⟨J, rfl⟩ : ∃ J, j = J + 1 := ⟨j - 1, by omega⟩
              have hiJ : ((J + 1 : Nat) : Int) - 1 = J := by omega
              rw [hiJ]
              clear hiJ hj0
              have hJk : (J : Int) < k := by omega
              have hJ0 : (0 : Int) ≤ J := by omega
              have hJn : J < k := by omega
              have hgJ := hmg J hJn
              have HQ : Hid (siSameB (gg hs J) M = sameG (gg hs J) M) := Lib.hid (siSame_eq hgJ hMg)
              obtain ⟨bg, og, hGe, hgbl, d0, d1, d2⟩ := hIr.g.reads.at_ (k := J) (by omega)
              subst hGe
              have hq := hIr.bx; obtain ⟨p0, p1, p2, p3⟩ := hq
              have hq := hgr; obtain ⟨q0, q1, q2⟩ := hq
              cases hsm : sameG (gg hs J) M with
              | true =>
                have HSm := Lib.hid (HQ.out.trans hsm)
                have HY := Lib.hid (same2_yes (hs := hs) (g := M) (j := J) (by omega) hsm)
                clear hsm
                go_wp2_with fail
                refine wp_region_keep (wr.heap.size) (wr) [(⟨v3.heap.size, 2, none⟩, .slice (some ⟨bg, og, none⟩) k cG), (⟨bg, og + J * 3, none⟩, .int .i64 (gg hs J).k), (⟨bg, og + J * 3 + 1, none⟩, .int .i64 (gg hs J).a), (⟨bg, og + J * 3 + 2, none⟩, .int .i64 (gg hs J).b), (⟨wo.heap.size, 0, none⟩, .int .i64 M.k), (⟨wo.heap.size, 1, none⟩, .int .i64 M.a), (⟨wo.heap.size, 2, none⟩, .int .i64 M.b)] (by kernel_rfl) (by kernel_rfl) (by simp only [List.mem_cons, forall_eq_or_imp, List.not_mem_nil, false_implies, implies_true, and_true]; repeat (any_goals (apply And.intro)); all_goals (first | assumption | go_simp)) ?_
                repeat (first
                  | go_big_quiet_skip
                  | (go_big_quiet_want
                     apply Exists.intro
                     refine ⟨fun w3 hw3 => ?_, ?_⟩
                     · have hcs := hw3.2
                       simp only [List.mem_cons, forall_eq_or_imp, List.not_mem_nil, false_implies, implies_true, and_true] at hcs
                       simp only [Oper.quietAt]
                       go_simp
                       first | done | exact ⟨rfl, rfl⟩ | rfl | (refine (siSame_any (gg hs J) M _).mono ?_; rintro e w4 ⟨he, hb4⟩; rw [HSm.out] at he; obtain rfl := he; exact ⟨rfl, hw3.next hb4 (Nat.le_refl _)⟩)
                     go_big_quiet_on
                     try simp only [Act.put, List.setIfInBounds_toArray, List.set_cons_zero, List.set_cons_succ]))
                refine wpQuiet_nil ?_
                intro wq hwq
                have hbq := hwq.1
                have hIq := hIr.below hbq
                have hgq := hgr.below hbq
                have hbrq := hbr.trans (hbq.mono (by omega))
                have hzq := hbrq.size
                clear hIr hgr hbr hwq hbq p0 p1 p2 p3 q0 q1 q2 d0 d1 d2
                have hxq := hx3.bel hbrq (by omega)
                have hq := hxq; obtain ⟨k0, k1, k2, k3⟩ := hq
                have hwA : IntKind.i64.wrap ((X : Int) + (k : Int)) = (X : Int) + k := IntWalk.i64_in _ (by omega)
                have hwB : IntKind.i64.wrap ((X : Int) + (J : Int)) = (X : Int) + J := IntWalk.i64_in _ (by omega)
                have hi0 : (0 : Int) ≤ (X : Int) + k := by omega
                have hi1 : (X : Int) + (k : Int) < (X : Int) + (ng : Int) := by omega
                have hi2 : (X : Int) + (k : Int) < ((X + ng : Nat) : Int) := by omega
                have hti : ((X : Int) + (k : Int)).toNat = X + k := by omega
                go_wp2_with fail
                refine wp_region_mem0 (10) [(⟨w.heap.size, 0, none⟩, .int .i64 x), (⟨w.heap.size, 1, none⟩, .int .i64 y), (⟨w.heap.size, 2, none⟩, .slice (some ⟨b, o, none⟩) ng cg), (⟨w.heap.size, 3, none⟩, .slice Ao no co)] [(2, [], []), (6, [], [])] [] [(2, Res.plain (.int .i64 (X : Int))), (6, Res.plain (.int .i64 (X : Int)))] (by kernel_rfl) (by kernel_rfl) (by kernel_rfl) (by simp only [CellsL, List.mem_cons, forall_eq_or_imp, List.not_mem_nil, false_implies, implies_true, and_true]; repeat (any_goals (apply And.intro)); all_goals (first | assumption | go_simp)) ?_
                simp only [List.take_succ_cons, List.take_zero, List.drop_succ_cons, List.drop_zero, List.take_nil, List.drop_nil, List.take, List.drop]
                repeat (first
                  | ((with_reducible refine mem_pure0 ?_ ?_ ?_)
                     · exact rfl
                     · exact rfl
                     intro K hK
                     apply Exists.intro
                     refine ⟨fun w3 hw3 => ?_, ?_⟩
                     · have hcs := hw3
                       simp only [CellsL, List.mem_cons, forall_eq_or_imp, List.not_mem_nil, false_implies, implies_true, and_true] at hcs
                       clear hw3
                       go_simp
                       first | done | exact ⟨rfl, rfl⟩ | rfl
                     refine hK _ ?_
                     clear hK K
                     try simp only [Act.put, List.setIfInBounds_toArray, List.set_cons_zero, List.set_cons_succ])
                  | ((with_reducible refine mem_skip ?_ ?_ ?_)
                     · exact rfl
                     · exact wanted_not rfl rfl rfl rfl
                     simp only [Act.put, List.setIfInBounds_toArray, List.set_cons_zero, List.set_cons_succ])
                  | ((with_reducible refine mem_pure ?_ ?_ ?_)
                     · exact rfl
                     · exact wanted_some rfl rfl rfl rfl
                     intro K hK
                     apply Exists.intro
                     refine ⟨fun w3 hw3 => ?_, ?_⟩
                     · have hcs := hw3
                       simp only [CellsL, List.mem_cons, forall_eq_or_imp, List.not_mem_nil, false_implies, implies_true, and_true] at hcs
                       clear hw3
                       go_simp
                       first | done | exact ⟨rfl, rfl⟩ | rfl
                     refine hK _ ?_
                     clear hK K
                     try simp only [Act.put, List.setIfInBounds_toArray, List.set_cons_zero, List.set_cons_succ]))
                focus
                  (with_reducible refine mem_plain (.int .i64 (X : Int)) ?_ ?_ ?_ ?_ (hw := ?_))
                  · exact rfl
                  · exact rfl
                  · intro w3 hw3 hc3 hp3
                    have hcs := hc3
                    simp only [CellsL, List.mem_cons, forall_eq_or_imp, List.not_mem_nil, false_implies, implies_true, and_true] at hcs
                    (go_simp; refine (ciInputs_any x y (some ⟨b, o, none⟩) ng cg Ao no co _ hx hy).mono ?_; rintro e w4 ⟨rfl, hb4⟩; rw [HXe.out]; exact retPost.mk_ (postPlain.mk_ hb4))
                  rotate_left
                  · first | exact wanted_none rfl | exact wanted_some rfl rfl rfl rfl
                  try simp only [Act.put, List.setIfInBounds_toArray, List.set_cons_zero, List.set_cons_succ]
                repeat (first
                  | ((with_reducible refine mem_pure0 ?_ ?_ ?_)
                     · exact rfl
                     · exact rfl
                     intro K hK
                     apply Exists.intro
                     refine ⟨fun w3 hw3 => ?_, ?_⟩
                     · have hcs := hw3
                       simp only [CellsL, List.mem_cons, forall_eq_or_imp, List.not_mem_nil, false_implies, implies_true, and_true] at hcs
                       clear hw3
                       go_simp
                       first | done | exact ⟨rfl, rfl⟩ | rfl
                     refine hK _ ?_
                     clear hK K
                     try simp only [Act.put, List.setIfInBounds_toArray, List.set_cons_zero, List.set_cons_succ])
                  | ((with_reducible refine mem_skip ?_ ?_ ?_)
                     · exact rfl
                     · exact wanted_not rfl rfl rfl rfl
                     simp only [Act.put, List.setIfInBounds_toArray, List.set_cons_zero, List.set_cons_succ])
                  | ((with_reducible refine mem_pure ?_ ?_ ?_)
                     · exact rfl
                     · exact wanted_some rfl rfl rfl rfl
                     intro K hK
                     apply Exists.intro
                     refine ⟨fun w3 hw3 => ?_, ?_⟩
                     · have hcs := hw3
                       simp only [CellsL, List.mem_cons, forall_eq_or_imp, List.not_mem_nil, false_implies, implies_true, and_true] at hcs
                       clear hw3
                       go_simp
                       first | done | exact ⟨rfl, rfl⟩ | rfl
                     refine hK _ ?_
                     clear hK K
                     try simp only [Act.put, List.setIfInBounds_toArray, List.set_cons_zero, List.set_cons_succ]))
                focus
                  (with_reducible refine mem_plain (.int .i64 (X : Int)) ?_ ?_ ?_ ?_ (hw := ?_))
                  · exact rfl
                  · exact rfl
                  · intro w3 hw3 hc3 hp3
                    have hcs := hc3
                    simp only [CellsL, List.mem_cons, forall_eq_or_imp, List.not_mem_nil, false_implies, implies_true, and_true] at hcs
                    (go_simp; refine (ciInputs_any x y (some ⟨b, o, none⟩) ng cg Ao no co _ hx hy).mono ?_; rintro e w4 ⟨rfl, hb4⟩; rw [HXe.out]; exact retPost.mk_ (postPlain.mk_ hb4))
                  rotate_left
                  · first | exact wanted_none rfl | exact wanted_some rfl rfl rfl rfl
                  try simp only [Act.put, List.setIfInBounds_toArray, List.set_cons_zero, List.set_cons_succ]
                repeat (first
                  | ((with_reducible refine mem_pure0 ?_ ?_ ?_)
                     · exact rfl
                     · exact rfl
                     intro K hK
                     apply Exists.intro
                     refine ⟨fun w3 hw3 => ?_, ?_⟩
                     · have hcs := hw3
                       simp only [CellsL, List.mem_cons, forall_eq_or_imp, List.not_mem_nil, false_implies, implies_true, and_true] at hcs
                       clear hw3
                       go_simp
                       first | done | exact ⟨rfl, rfl⟩ | rfl
                     refine hK _ ?_
                     clear hK K
                     try simp only [Act.put, List.setIfInBounds_toArray, List.set_cons_zero, List.set_cons_succ])
                  | ((with_reducible refine mem_skip ?_ ?_ ?_)
                     · exact rfl
                     · exact wanted_not rfl rfl rfl rfl
                     simp only [Act.put, List.setIfInBounds_toArray, List.set_cons_zero, List.set_cons_succ])
                  | ((with_reducible refine mem_pure ?_ ?_ ?_)
                     · exact rfl
                     · exact wanted_some rfl rfl rfl rfl
                     intro K hK
                     apply Exists.intro
                     refine ⟨fun w3 hw3 => ?_, ?_⟩
                     · have hcs := hw3
                       simp only [CellsL, List.mem_cons, forall_eq_or_imp, List.not_mem_nil, false_implies, implies_true, and_true] at hcs
                       clear hw3
                       go_simp
                       first | done | exact ⟨rfl, rfl⟩ | rfl
                     refine hK _ ?_
                     clear hK K
                     try simp only [Act.put, List.setIfInBounds_toArray, List.set_cons_zero, List.set_cons_succ]))
                refine wpSep_end ?_
                intro wz hwz hcz hfin hap
                have hbz := alt_below hwz
                have hIz := hIq.below hbz
                have hgz := hgq.below hbz
                have hbrz := hbrq.trans (hbz.mono (by omega))
                have hzz := hbrz.size
                have hlz := row_len (X := X) (gs := gs) (k := k) ((X : Int) + (same2 hs M (J + 1) : Nat)) hlt
                obtain ⟨t1, t2⟩ := hIz.f.cellAt (k := X + k) (by omega)
                have hI8 := hIz.setF (X + k) ((X : Int) + J)
                rw [row_set] at hI8
                have hI9 : MsI (wz.setCell ⟨fB, X + k, none⟩ (.int .i64 ((X : Int) + J))) v2.heap.size v3.heap.size x y (some ⟨bg, og, none⟩) k cG hs (some ⟨fB, 0, none⟩) (X + ng) cF (rowV X ng gs k ((X : Int) + (same2 hs M J : Nat))) := by rw [HY.out]; exact hI8
                have hg9 := hgz.far ⟨fB, X + k, none⟩ (.int .i64 ((X : Int) + J)) hfw
                have hb9 := hbrz.setCell (p := ⟨fB, X + k, none⟩) hfl (.int .i64 ((X : Int) + J))
                clear hIq hgq hbrq hxq hI8 hIz hgz hbz hfin hap hcz hwz k0 k1 k2 k3
                go_wp2
                go_roundw
                case rel => exact ⟨J, by omega, rfl, hI9, hg9, hb9⟩
                case measure => first | (simp [intOf]; done) | (simp [intOf]; omega)
              | false =>
                have HSm := Lib.hid (HQ.out.trans hsm)
                have HY := Lib.hid (same2_no (hs := hs) (g := M) (j := J) (by omega) hsm)
                clear hsm
                go_wp2_with fail
                refine wp_region_keep (wr.heap.size) (wr) [(⟨v3.heap.size, 2, none⟩, .slice (some ⟨bg, og, none⟩) k cG), (⟨bg, og + J * 3, none⟩, .int .i64 (gg hs J).k), (⟨bg, og + J * 3 + 1, none⟩, .int .i64 (gg hs J).a), (⟨bg, og + J * 3 + 2, none⟩, .int .i64 (gg hs J).b), (⟨wo.heap.size, 0, none⟩, .int .i64 M.k), (⟨wo.heap.size, 1, none⟩, .int .i64 M.a), (⟨wo.heap.size, 2, none⟩, .int .i64 M.b)] (by kernel_rfl) (by kernel_rfl) (by simp only [List.mem_cons, forall_eq_or_imp, List.not_mem_nil, false_implies, implies_true, and_true]; repeat (any_goals (apply And.intro)); all_goals (first | assumption | go_simp)) ?_
                repeat (first
                  | go_big_quiet_skip
                  | (go_big_quiet_want
                     apply Exists.intro
                     refine ⟨fun w3 hw3 => ?_, ?_⟩
                     · have hcs := hw3.2
                       simp only [List.mem_cons, forall_eq_or_imp, List.not_mem_nil, false_implies, implies_true, and_true] at hcs
                       simp only [Oper.quietAt]
                       go_simp
                       first | done | exact ⟨rfl, rfl⟩ | rfl | (refine (siSame_any (gg hs J) M _).mono ?_; rintro e w4 ⟨he, hb4⟩; rw [HSm.out] at he; obtain rfl := he; exact ⟨rfl, hw3.next hb4 (Nat.le_refl _)⟩)
                     go_big_quiet_on
                     try simp only [Act.put, List.setIfInBounds_toArray, List.set_cons_zero, List.set_cons_succ]))
                refine wpQuiet_nil ?_
                intro wq hwq
                have hbq := hwq.1
                have hIq := hIr.below hbq
                rw [← HY.out] at hIq
                have hgq := hgr.below hbq
                have hbrq := hbr.trans (hbq.mono (by omega))
                clear hIr hgr hbr hwq hbq p0 p1 p2 p3 q0 q1 q2 d0 d1 d2
                go_wp2
                go_roundw
                case rel => exact ⟨J, by omega, rfl, hIq, hgq, hbrq⟩
                case measure => first | (simp [intOf]; done) | (simp [intOf]; omega)
        | xor_ hk' a0 a1 b0 b1 =>
          dsimp only at hk' a0 a1 b0 b1
          subst hk'
          obtain ⟨A, rfl⟩ : ∃ A : Nat, ga = A := ⟨ga.toNat, by omega⟩
          obtain ⟨B, rfl⟩ : ∃ B : Nat, gb = B := ⟨gb.toNat, by omega⟩
          have hAk : A < X + k := by omega
          have hBk : B < X + k := by omega
          obtain ⟨va, hva⟩ : ∃ va, Hid (gi (mrg X gs k).2 A = va) := ⟨_, Lib.hid rfl⟩
          obtain ⟨vb, hvb⟩ : ∃ vb, Hid (gi (mrg X gs k).2 B = vb) := ⟨_, Lib.hid rfl⟩
          obtain ⟨ca, _⟩ := hIA.f.cellAt (k := A) (by omega)
          obtain ⟨cb, _⟩ := hIA.f.cellAt (k := B) (by omega)
          rw [(HFA.out A hAk).out, hva.out] at ca
          rw [(HFA.out B hBk).out, hvb.out] at cb
          have cb' : (wo.alloc (.cells #[.int .i64 0, .int .i64 va, .int .i64 (B : Int)] 41)).cell? ⟨fB, B, none⟩ = some (.int .i64 vb) := by
            have h := ((hI.below ((Below.refl _ _).alloc (Nat.le_refl _) (.cells #[.int .i64 0, .int .i64 va, .int .i64 (B : Int)] 41))).f.cellAt (k := B) (by omega)).1
            rwa [(HFA.out B hBk).out, hvb.out] at h
          have hA1 : (A : Int) < (X : Int) + (ng : Int) := by omega
          have hA2 : (A : Int) < ((X + ng : Nat) : Int) := by omega
          have hB1 : (B : Int) < (X : Int) + (ng : Int) := by omega
          have hB2 : (B : Int) < ((X + ng : Nat) : Int) := by omega
          have hMe : Hid (M = ⟨0, va, vb⟩) := Lib.hid (by rw [← hM.out, ← hva.out, ← hvb.out]; simp [mvG])
          have hq := BxG.new (k := 0) (a := va) (c := (B : Int)) wo 41; obtain ⟨u0, u1, u2⟩ := hq
          have e3 := Fz.new wo #[.int .i64 0, .int .i64 va, .int .i64 (B : Int)] 41 2
          obtain ⟨W2, hW2⟩ : ∃ W2, W2 = wo.alloc (.cells #[.int .i64 0, .int .i64 va, .int .i64 vb] 41) := ⟨_, rfl⟩
          have hg2 : BxG W2 wo.heap.size M.k M.a M.b := by rw [hMe.out, hW2]; exact BxG.new _ _
          have fg2 : Fz W2 wo.heap.size := by rw [hW2]; exact Fz.new _ _ _
          have hbl2 : Below wo.heap.size wo W2 := by rw [hW2]; exact (Below.refl _ _).alloc (Nat.le_refl _) _
          have hz2' : W2.heap.size = wo.heap.size + 1 := by rw [hW2]; simp
          have hI2 := hI.below hbl2
          go_wp2
          rw [← hW2]
          clear hIA hgA fgA hbA hsA e0 e1 e2 q0 q1 q2
          have hfl : v2.heap.size ≤ fB := by have := hI.f.lt fB (by simp [Value.ownBlock]); omega
          have hb2 := hb.trans (hbl2.mono (by have := hb.size; omega))
          clear hI hbl2 hW2 HFA
          go_loopw [8] (fun i wr => ∃ (j : Nat), j ≤ k ∧ i = .int .i64 ((j : Int) - 1) ∧ MsI wr v2.heap.size v3.heap.size x y G k cG hs (some ⟨fB, 0, none⟩) (X + ng) cF (rowV X ng gs k ((X : Int) + (same2 hs M j : Nat))) ∧ BxG wr wo.heap.size M.k M.a M.b ∧ Below v2.heap.size v3 wr) (fun i _ => (intOf i + 1).toNat)
          case atStart => exact ⟨k, Nat.le_refl _, rfl, by rw [same2_end hml1]; exact hI2, hg2, hb2⟩
          case round =>
            obtain ⟨j, hj, rfl, hIr, hgr, hbr⟩ := hrel
            clear hI2 hg2 fg2 hb2 hz2'
            have hzr := hbr.size
            by_cases hj0 : j = 0
            · subst hj0
              have h0n : ((0 : Nat) : Int) - 1 = -1 := by omega
              rw [h0n]
              clear h0n
              rw [same2_zero] at hIr
              rw [(HNx _ rfl).out] at hIr
              have hbA := (Below.refl wr.heap.size wr).alloc (Nat.le_refl _) (.cells #[.int .i64 M.k, .int .i64 M.a, .int .i64 M.b] 41)
              have hA := hIr.below hbA
              have hbrA := hbr.alloc (by omega) (.cells #[.int .i64 M.k, .int .i64 M.a, .int .i64 M.b] 41)
              have hq := hIr.bx; obtain ⟨p0, p1, p2, p3⟩ := hq
              have hq := hgr; obtain ⟨q0, q1, q2⟩ := hq
              go_wp2_with (at_builtin; refine wpList_appG _ rfl _ _ rfl rfl hA.g rfl (RG_new1 _ _ _ _ _) (by omega) (by first | (simp; done) | (simp; omega)) ?_; intro G' c' w6 hown6 hg6 hat6 hk6; have ha := MsI.app hA hown6 hg6 hat6; have hb6 := below_appG hbrA hA.g hg6 (by first | (simp; done) | (simp; omega)) (Nat.le_refl _); obtain ⟨hx6, f6, hI6⟩ := ha; obtain ⟨j0, j1, j2, j3⟩ := hx6; have e9 := f6 2; clear hown6 hg6 hat6 hk6)
              have hI7 := hI6
              have hb7 := hb6.setCell (p := ⟨v3.heap.size, 2, none⟩) (by show v2.heap.size ≤ v3.heap.size; omega) (.slice G' (k + 1) c')
              rw [← HS1.out] at hI7
              clear hI6 hb6 hA hbA hbrA hIr hgr hbr
              go_roundw
              case rel => exact ⟨k + 1, _, _, by omega, by go_num, hI7, hb7⟩
              case measure => first | (simp [intOf]; done) | (simp [intOf]; omega)
            · obtain ⟨J, rfl⟩ : ∃ J, j = J + 1 := ⟨j - 1, by omega⟩
              have hiJ : ((J + 1 : Nat) : Int) - 1 = J := by omega
              rw [hiJ]
              clear hiJ hj0
              have hJk : (J : Int) < k := by omega
              have hJ0 : (0 : Int) ≤ J := by omega
              have hJn : J < k := by omega
              have hgJ := hmg J hJn
              have HQ : Hid (siSameB (gg hs J) M = sameG (gg hs J) M) := Lib.hid (siSame_eq hgJ hMg)
              obtain ⟨bg, og, hGe, hgbl, d0, d1, d2⟩ := hIr.g.reads.at_ (k := J) (by omega)
              subst hGe
              have hq := hIr.bx; obtain ⟨p0, p1, p2, p3⟩ := hq
              have hq := hgr; obtain ⟨q0, q1, q2⟩ := hq
              cases hsm : sameG (gg hs J) M with
              | true =>
                have HSm := Lib.hid (HQ.out.trans hsm)
                have HY := Lib.hid (same2_yes (hs := hs) (g := M) (j := J) (by omega) hsm)
                clear hsm
                go_wp2_with fail
                refine wp_region_keep (wr.heap.size) (wr) [(⟨v3.heap.size, 2, none⟩, .slice (some ⟨bg, og, none⟩) k cG), (⟨bg, og + J * 3, none⟩, .int .i64 (gg hs J).k), (⟨bg, og + J * 3 + 1, none⟩, .int .i64 (gg hs J).a), (⟨bg, og + J * 3 + 2, none⟩, .int .i64 (gg hs J).b), (⟨wo.heap.size, 0, none⟩, .int .i64 M.k), (⟨wo.heap.size, 1, none⟩, .int .i64 M.a), (⟨wo.heap.size, 2, none⟩, .int .i64 M.b)] (by kernel_rfl) (by kernel_rfl) (by simp only [List.mem_cons, forall_eq_or_imp, List.not_mem_nil, false_implies, implies_true, and_true]; repeat (any_goals (apply And.intro)); all_goals (first | assumption | go_simp)) ?_
                repeat (first
                  | go_big_quiet_skip
                  | (go_big_quiet_want
                     apply Exists.intro
                     refine ⟨fun w3 hw3 => ?_, ?_⟩
                     · have hcs := hw3.2
                       simp only [List.mem_cons, forall_eq_or_imp, List.not_mem_nil, false_implies, implies_true, and_true] at hcs
                       simp only [Oper.quietAt]
                       go_simp
                       first | done | exact ⟨rfl, rfl⟩ | rfl | (refine (siSame_any (gg hs J) M _).mono ?_; rintro e w4 ⟨he, hb4⟩; rw [HSm.out] at he; obtain rfl := he; exact ⟨rfl, hw3.next hb4 (Nat.le_refl _)⟩)
                     go_big_quiet_on
                     try simp only [Act.put, List.setIfInBounds_toArray, List.set_cons_zero, List.set_cons_succ]))
                refine wpQuiet_nil ?_
                intro wq hwq
                have hbq := hwq.1
                have hIq := hIr.below hbq
                have hgq := hgr.below hbq
                have hbrq := hbr.trans (hbq.mono (by omega))
                have hzq := hbrq.size
                clear hIr hgr hbr hwq hbq p0 p1 p2 p3 q0 q1 q2 d0 d1 d2
                have hxq := hx3.bel hbrq (by omega)
                have hq := hxq; obtain ⟨k0, k1, k2, k3⟩ := hq
                have hwA : IntKind.i64.wrap ((X : Int) + (k : Int)) = (X : Int) + k := IntWalk.i64_in _ (by omega)
                have hwB : IntKind.i64.wrap ((X : Int) + (J : Int)) = (X : Int) + J := IntWalk.i64_in _ (by omega)
                have hi0 : (0 : Int) ≤ (X : Int) + k := by omega
                have hi1 : (X : Int) + (k : Int) < (X : Int) + (ng : Int) := by omega
                have hi2 : (X : Int) + (k : Int) < ((X + ng : Nat) : Int) := by omega
                have hti : ((X : Int) + (k : Int)).toNat = X + k := by omega
                go_wp2_with fail
                refine wp_region_mem0 (10) [(⟨w.heap.size, 0, none⟩, .int .i64 x), (⟨w.heap.size, 1, none⟩, .int .i64 y), (⟨w.heap.size, 2, none⟩, .slice (some ⟨b, o, none⟩) ng cg), (⟨w.heap.size, 3, none⟩, .slice Ao no co)] [(2, [], []), (6, [], [])] [] [(2, Res.plain (.int .i64 (X : Int))), (6, Res.plain (.int .i64 (X : Int)))] (by kernel_rfl) (by kernel_rfl) (by kernel_rfl) (by simp only [CellsL, List.mem_cons, forall_eq_or_imp, List.not_mem_nil, false_implies, implies_true, and_true]; repeat (any_goals (apply And.intro)); all_goals (first | assumption | go_simp)) ?_
                simp only [List.take_succ_cons, List.take_zero, List.drop_succ_cons, List.drop_zero, List.take_nil, List.drop_nil, List.take, List.drop]
                repeat (first
                  | ((with_reducible refine mem_pure0 ?_ ?_ ?_)
                     · exact rfl
                     · exact rfl
                     intro K hK
                     apply Exists.intro
                     refine ⟨fun w3 hw3 => ?_, ?_⟩
                     · have hcs := hw3
                       simp only [CellsL, List.mem_cons, forall_eq_or_imp, List.not_mem_nil, false_implies, implies_true, and_true] at hcs
                       clear hw3
                       go_simp
                       first | done | exact ⟨rfl, rfl⟩ | rfl
                     refine hK _ ?_
                     clear hK K
                     try simp only [Act.put, List.setIfInBounds_toArray, List.set_cons_zero, List.set_cons_succ])
                  | ((with_reducible refine mem_skip ?_ ?_ ?_)
                     · exact rfl
                     · exact wanted_not rfl rfl rfl rfl
                     simp only [Act.put, List.setIfInBounds_toArray, List.set_cons_zero, List.set_cons_succ])
                  | ((with_reducible refine mem_pure ?_ ?_ ?_)
                     · exact rfl
                     · exact wanted_some rfl rfl rfl rfl
                     intro K hK
                     apply Exists.intro
                     refine ⟨fun w3 hw3 => ?_, ?_⟩
                     · have hcs := hw3
                       simp only [CellsL, List.mem_cons, forall_eq_or_imp, List.not_mem_nil, false_implies, implies_true, and_true] at hcs
                       clear hw3
                       go_simp
                       first | done | exact ⟨rfl, rfl⟩ | rfl
                     refine hK _ ?_
                     clear hK K
                     try simp only [Act.put, List.setIfInBounds_toArray, List.set_cons_zero, List.set_cons_succ]))
                focus
                  (with_reducible refine mem_plain (.int .i64 (X : Int)) ?_ ?_ ?_ ?_ (hw := ?_))
                  · exact rfl
                  · exact rfl
                  · intro w3 hw3 hc3 hp3
                    have hcs := hc3
                    simp only [CellsL, List.mem_cons, forall_eq_or_imp, List.not_mem_nil, false_implies, implies_true, and_true] at hcs
                    (go_simp; refine (ciInputs_any x y (some ⟨b, o, none⟩) ng cg Ao no co _ hx hy).mono ?_; rintro e w4 ⟨rfl, hb4⟩; rw [HXe.out]; exact retPost.mk_ (postPlain.mk_ hb4))
                  rotate_left
                  · first | exact wanted_none rfl | exact wanted_some rfl rfl rfl rfl
                  try simp only [Act.put, List.setIfInBounds_toArray, List.set_cons_zero, List.set_cons_succ]
                repeat (first
                  | ((with_reducible refine mem_pure0 ?_ ?_ ?_)
                     · exact rfl
                     · exact rfl
                     intro K hK
                     apply Exists.intro
                     refine ⟨fun w3 hw3 => ?_, ?_⟩
                     · have hcs := hw3
                       simp only [CellsL, List.mem_cons, forall_eq_or_imp, List.not_mem_nil, false_implies, implies_true, and_true] at hcs
                       clear hw3
                       go_simp
                       first | done | exact ⟨rfl, rfl⟩ | rfl
                     refine hK _ ?_
                     clear hK K
                     try simp only [Act.put, List.setIfInBounds_toArray, List.set_cons_zero, List.set_cons_succ])
                  | ((with_reducible refine mem_skip ?_ ?_ ?_)
                     · exact rfl
                     · exact wanted_not rfl rfl rfl rfl
                     simp only [Act.put, List.setIfInBounds_toArray, List.set_cons_zero, List.set_cons_succ])
                  | ((with_reducible refine mem_pure ?_ ?_ ?_)
                     · exact rfl
                     · exact wanted_some rfl rfl rfl rfl
                     intro K hK
                     apply Exists.intro
                     refine ⟨fun w3 hw3 => ?_, ?_⟩
                     · have hcs := hw3
                       simp only [CellsL, List.mem_cons, forall_eq_or_imp, List.not_mem_nil, false_implies, implies_true, and_true] at hcs
                       clear hw3
                       go_simp
                       first | done | exact ⟨rfl, rfl⟩ | rfl
                     refine hK _ ?_
                     clear hK K
                     try simp only [Act.put, List.setIfInBounds_toArray, List.set_cons_zero, List.set_cons_succ]))
                focus
                  (with_reducible refine mem_plain (.int .i64 (X : Int)) ?_ ?_ ?_ ?_ (hw := ?_))
                  · exact rfl
                  · exact rfl
                  · intro w3 hw3 hc3 hp3
                    have hcs := hc3
                    simp only [CellsL, List.mem_cons, forall_eq_or_imp, List.not_mem_nil, false_implies, implies_true, and_true] at hcs
                    (go_simp; refine (ciInputs_any x y (some ⟨b, o, none⟩) ng cg Ao no co _ hx hy).mono ?_; rintro e w4 ⟨rfl, hb4⟩; rw [HXe.out]; exact retPost.mk_ (postPlain.mk_ hb4))
                  rotate_left
                  · first | exact wanted_none rfl | exact wanted_some rfl rfl rfl rfl
                  try simp only [Act.put, List.setIfInBounds_toArray, List.set_cons_zero, List.set_cons_succ]
                repeat (first
                  | ((with_reducible refine mem_pure0 ?_ ?_ ?_)
                     · exact rfl
                     · exact rfl
                     intro K hK
                     apply Exists.intro
                     refine ⟨fun w3 hw3 => ?_, ?_⟩
                     · have hcs := hw3
                       simp only [CellsL, List.mem_cons, forall_eq_or_imp, List.not_mem_nil, false_implies, implies_true, and_true] at hcs
                       clear hw3
                       go_simp
                       first | done | exact ⟨rfl, rfl⟩ | rfl
                     refine hK _ ?_
                     clear hK K
                     try simp only [Act.put, List.setIfInBounds_toArray, List.set_cons_zero, List.set_cons_succ])
                  | ((with_reducible refine mem_skip ?_ ?_ ?_)
                     · exact rfl
                     · exact wanted_not rfl rfl rfl rfl
                     simp only [Act.put, List.setIfInBounds_toArray, List.set_cons_zero, List.set_cons_succ])
                  | ((with_reducible refine mem_pure ?_ ?_ ?_)
                     · exact rfl
                     · exact wanted_some rfl rfl rfl rfl
                     intro K hK
                     apply Exists.intro
                     refine ⟨fun w3 hw3 => ?_, ?_⟩
                     · have hcs := hw3
                       simp only [CellsL, List.mem_cons, forall_eq_or_imp, List.not_mem_nil, false_implies, implies_true, and_true] at hcs
                       clear hw3
                       go_simp
                       first | done | exact ⟨rfl, rfl⟩ | rfl
                     refine hK _ ?_
                     clear hK K
                     try simp only [Act.put, List.setIfInBounds_toArray, List.set_cons_zero, List.set_cons_succ]))
                refine wpSep_end ?_
                intro wz hwz hcz hfin hap
                have hbz := alt_below hwz
                have hIz := hIq.below hbz
                have hgz := hgq.below hbz
                have hbrz := hbrq.trans (hbz.mono (by omega))
                have hzz := hbrz.size
                have hlz := row_len (X := X) (gs := gs) (k := k) ((X : Int) + (same2 hs M (J + 1) : Nat)) hlt
                obtain ⟨t1, t2⟩ := hIz.f.cellAt (k := X + k) (by omega)
                have hI8 := hIz.setF (X + k) ((X : Int) + J)
                rw [row_set] at hI8
                have hI9 : MsI (wz.setCell ⟨fB, X + k, none⟩ (.int .i64 ((X : Int) + J))) v2.heap.size v3.heap.size x y (some ⟨bg, og, none⟩) k cG hs (some ⟨fB, 0, none⟩) (X + ng) cF (rowV X ng gs k ((X : Int) + (same2 hs M J : Nat))) := by rw [HY.out]; exact hI8
                have hg9 := hgz.far ⟨fB, X + k, none⟩ (.int .i64 ((X : Int) + J)) hfw
                have hb9 := hbrz.setCell (p := ⟨fB, X + k, none⟩) hfl (.int .i64 ((X : Int) + J))
                clear hIq hgq hbrq hxq hI8 hIz hgz hbz hfin hap hcz hwz k0 k1 k2 k3
                go_wp2
                go_roundw
                case rel => exact ⟨J, by omega, rfl, hI9, hg9, hb9⟩
                case measure => first | (simp [intOf]; done) | (simp [intOf]; omega)
              | false =>
                have HSm := Lib.hid (HQ.out.trans hsm)
                have HY := Lib.hid (same2_no (hs := hs) (g := M) (j := J) (by omega) hsm)
                clear hsm
                go_wp2_with fail
                refine wp_region_keep (wr.heap.size) (wr) [(⟨v3.heap.size, 2, none⟩, .slice (some ⟨bg, og, none⟩) k cG), (⟨bg, og + J * 3, none⟩, .int .i64 (gg hs J).k), (⟨bg, og + J * 3 + 1, none⟩, .int .i64 (gg hs J).a), (⟨bg, og + J * 3 + 2, none⟩, .int .i64 (gg hs J).b), (⟨wo.heap.size, 0, none⟩, .int .i64 M.k), (⟨wo.heap.size, 1, none⟩, .int .i64 M.a), (⟨wo.heap.size, 2, none⟩, .int .i64 M.b)] (by kernel_rfl) (by kernel_rfl) (by simp only [List.mem_cons, forall_eq_or_imp, List.not_mem_nil, false_implies, implies_true, and_true]; repeat (any_goals (apply And.intro)); all_goals (first | assumption | go_simp)) ?_
                repeat (first
                  | go_big_quiet_skip
                  | (go_big_quiet_want
                     apply Exists.intro
                     refine ⟨fun w3 hw3 => ?_, ?_⟩
                     · have hcs := hw3.2
                       simp only [List.mem_cons, forall_eq_or_imp, List.not_mem_nil, false_implies, implies_true, and_true] at hcs
                       simp only [Oper.quietAt]
                       go_simp
                       first | done | exact ⟨rfl, rfl⟩ | rfl | (refine (siSame_any (gg hs J) M _).mono ?_; rintro e w4 ⟨he, hb4⟩; rw [HSm.out] at he; obtain rfl := he; exact ⟨rfl, hw3.next hb4 (Nat.le_refl _)⟩)
                     go_big_quiet_on
                     try simp only [Act.put, List.setIfInBounds_toArray, List.set_cons_zero, List.set_cons_succ]))
                refine wpQuiet_nil ?_
                intro wq hwq
                have hbq := hwq.1
                have hIq := hIr.below hbq
                rw [← HY.out] at hIq
                have hgq := hgr.below hbq
                have hbrq := hbr.trans (hbq.mono (by omega))
                clear hIr hgr hbr hwq hbq p0 p1 p2 p3 q0 q1 q2 d0 d1 d2
                go_wp2
                go_roundw
                case rel => exact ⟨J, by omega, rfl, hIq, hgq, hbrq⟩
                case measure => first | (simp [intOf]; done) | (simp [intOf]; omega)
        | and_ hk' a0 a1 b0 b1 =>
          dsimp only at hk' a0 a1 b0 b1
          subst hk'
          obtain ⟨A, rfl⟩ : ∃ A : Nat, ga = A := ⟨ga.toNat, by omega⟩
          obtain ⟨B, rfl⟩ : ∃ B : Nat, gb = B := ⟨gb.toNat, by omega⟩
          have hAk : A < X + k := by omega
          have hBk : B < X + k := by omega
          obtain ⟨va, hva⟩ : ∃ va, Hid (gi (mrg X gs k).2 A = va) := ⟨_, Lib.hid rfl⟩
          obtain ⟨vb, hvb⟩ : ∃ vb, Hid (gi (mrg X gs k).2 B = vb) := ⟨_, Lib.hid rfl⟩
          obtain ⟨ca, _⟩ := hIA.f.cellAt (k := A) (by omega)
          obtain ⟨cb, _⟩ := hIA.f.cellAt (k := B) (by omega)
          rw [(HFA.out A hAk).out, hva.out] at ca
          rw [(HFA.out B hBk).out, hvb.out] at cb
          have cb' : (wo.alloc (.cells #[.int .i64 1, .int .i64 va, .int .i64 (B : Int)] 41)).cell? ⟨fB, B, none⟩ = some (.int .i64 vb) := by
            have h := ((hI.below ((Below.refl _ _).alloc (Nat.le_refl _) (.cells #[.int .i64 1, .int .i64 va, .int .i64 (B : Int)] 41))).f.cellAt (k := B) (by omega)).1
            rwa [(HFA.out B hBk).out, hvb.out] at h
          have hA1 : (A : Int) < (X : Int) + (ng : Int) := by omega
          have hA2 : (A : Int) < ((X + ng : Nat) : Int) := by omega
          have hB1 : (B : Int) < (X : Int) + (ng : Int) := by omega
          have hB2 : (B : Int) < ((X + ng : Nat) : Int) := by omega
          have hMe : Hid (M = ⟨1, va, vb⟩) := Lib.hid (by rw [← hM.out, ← hva.out, ← hvb.out]; simp [mvG])
          have hq := BxG.new (k := 1) (a := va) (c := (B : Int)) wo 41; obtain ⟨u0, u1, u2⟩ := hq
          have e3 := Fz.new wo #[.int .i64 1, .int .i64 va, .int .i64 (B : Int)] 41 2
          obtain ⟨W2, hW2⟩ : ∃ W2, W2 = wo.alloc (.cells #[.int .i64 1, .int .i64 va, .int .i64 vb] 41) := ⟨_, rfl⟩
          have hg2 : BxG W2 wo.heap.size M.k M.a M.b := by rw [hMe.out, hW2]; exact BxG.new _ _
          have fg2 : Fz W2 wo.heap.size := by rw [hW2]; exact Fz.new _ _ _
          have hbl2 : Below wo.heap.size wo W2 := by rw [hW2]; exact (Below.refl _ _).alloc (Nat.le_refl _) _
          have hz2' : W2.heap.size = wo.heap.size + 1 := by rw [hW2]; simp
          have hI2 := hI.below hbl2
          go_wp2
          rw [← hW2]
          clear hIA hgA fgA hbA hsA e0 e1 e2 q0 q1 q2
          have hfl : v2.heap.size ≤ fB := by have := hI.f.lt fB (by simp [Value.ownBlock]); omega
          have hb2 := hb.trans (hbl2.mono (by have := hb.size; omega))
          clear hI hbl2 hW2 HFA
          go_loopw [8] (fun i wr => ∃ (j : Nat), j ≤ k ∧ i = .int .i64 ((j : Int) - 1) ∧ MsI wr v2.heap.size v3.heap.size x y G k cG hs (some ⟨fB, 0, none⟩) (X + ng) cF (rowV X ng gs k ((X : Int) + (same2 hs M j : Nat))) ∧ BxG wr wo.heap.size M.k M.a M.b ∧ Below v2.heap.size v3 wr) (fun i _ => (intOf i + 1).toNat)
          case atStart => exact ⟨k, Nat.le_refl _, rfl, by rw [same2_end hml1]; exact hI2, hg2, hb2⟩
          case round =>
            obtain ⟨j, hj, rfl, hIr, hgr, hbr⟩ := hrel
            clear hI2 hg2 fg2 hb2 hz2'
            have hzr := hbr.size
            by_cases hj0 : j = 0
            · subst hj0
              have h0n : ((0 : Nat) : Int) - 1 = -1 := by omega
              rw [h0n]
              clear h0n
              rw [same2_zero] at hIr
              rw [(HNx _ rfl).out] at hIr
              have hbA := (Below.refl wr.heap.size wr).alloc (Nat.le_refl _) (.cells #[.int .i64 M.k, .int .i64 M.a, .int .i64 M.b] 41)
              have hA := hIr.below hbA
              have hbrA := hbr.alloc (by omega) (.cells #[.int .i64 M.k, .int .i64 M.a, .int .i64 M.b] 41)
              have hq := hIr.bx; obtain ⟨p0, p1, p2, p3⟩ := hq
              have hq := hgr; obtain ⟨q0, q1, q2⟩ := hq
              go_wp2_with (at_builtin; refine wpList_appG _ rfl _ _ rfl rfl hA.g rfl (RG_new1 _ _ _ _ _) (by omega) (by first | (simp; done) | (simp; omega)) ?_; intro G' c' w6 hown6 hg6 hat6 hk6; have ha := MsI.app hA hown6 hg6 hat6; have hb6 := below_appG hbrA hA.g hg6 (by first | (simp; done) | (simp; omega)) (Nat.le_refl _); obtain ⟨hx6, f6, hI6⟩ := ha; obtain ⟨j0, j1, j2, j3⟩ := hx6; have e9 := f6 2; clear hown6 hg6 hat6 hk6)
              have hI7 := hI6
              have hb7 := hb6.setCell (p := ⟨v3.heap.size, 2, none⟩) (by show v2.heap.size ≤ v3.heap.size; omega) (.slice G' (k + 1) c')
              rw [← HS1.out] at hI7
              clear hI6 hb6 hA hbA hbrA hIr hgr hbr
              go_roundw
              case rel => exact ⟨k + 1, _, _, by omega, by go_num, hI7, hb7⟩
              case measure => first | (simp [intOf]; done) | (simp [intOf]; omega)
            · obtain ⟨J, rfl⟩ : ∃ J, j = J + 1 := ⟨j - 1, by omega⟩
              have hiJ : ((J + 1 : Nat) : Int) - 1 = J := by omega
              rw [hiJ]
              clear hiJ hj0
              have hJk : (J : Int) < k := by omega
              have hJ0 : (0 : Int) ≤ J := by omega
              have hJn : J < k := by omega
              have hgJ := hmg J hJn
              have HQ : Hid (siSameB (gg hs J) M = sameG (gg hs J) M) := Lib.hid (siSame_eq hgJ hMg)
              obtain ⟨bg, og, hGe, hgbl, d0, d1, d2⟩ := hIr.g.reads.at_ (k := J) (by omega)
              subst hGe
              have hq := hIr.bx; obtain ⟨p0, p1, p2, p3⟩ := hq
              have hq := hgr; obtain ⟨q0, q1, q2⟩ := hq
              cases hsm : sameG (gg hs J) M with
              | true =>
                have HSm := Lib.hid (HQ.out.trans hsm)
                have HY := Lib.hid (same2_yes (hs := hs) (g := M) (j := J) (by omega) hsm)
                clear hsm
                go_wp2_with fail
                refine wp_region_keep (wr.heap.size) (wr) [(⟨v3.heap.size, 2, none⟩, .slice (some ⟨bg, og, none⟩) k cG), (⟨bg, og + J * 3, none⟩, .int .i64 (gg hs J).k), (⟨bg, og + J * 3 + 1, none⟩, .int .i64 (gg hs J).a), (⟨bg, og + J * 3 + 2, none⟩, .int .i64 (gg hs J).b), (⟨wo.heap.size, 0, none⟩, .int .i64 M.k), (⟨wo.heap.size, 1, none⟩, .int .i64 M.a), (⟨wo.heap.size, 2, none⟩, .int .i64 M.b)] (by kernel_rfl) (by kernel_rfl) (by simp only [List.mem_cons, forall_eq_or_imp, List.not_mem_nil, false_implies, implies_true, and_true]; repeat (any_goals (apply And.intro)); all_goals (first | assumption | go_simp)) ?_
                repeat (first
                  | go_big_quiet_skip
                  | (go_big_quiet_want
                     apply Exists.intro
                     refine ⟨fun w3 hw3 => ?_, ?_⟩
                     · have hcs := hw3.2
                       simp only [List.mem_cons, forall_eq_or_imp, List.not_mem_nil, false_implies, implies_true, and_true] at hcs
                       simp only [Oper.quietAt]
                       go_simp
                       first | done | exact ⟨rfl, rfl⟩ | rfl | (refine (siSame_any (gg hs J) M _).mono ?_; rintro e w4 ⟨he, hb4⟩; rw [HSm.out] at he; obtain rfl := he; exact ⟨rfl, hw3.next hb4 (Nat.le_refl _)⟩)
                     go_big_quiet_on
                     try simp only [Act.put, List.setIfInBounds_toArray, List.set_cons_zero, List.set_cons_succ]))
                refine wpQuiet_nil ?_
                intro wq hwq
                have hbq := hwq.1
                have hIq := hIr.below hbq
                have hgq := hgr.below hbq
                have hbrq := hbr.trans (hbq.mono (by omega))
                have hzq := hbrq.size
                clear hIr hgr hbr hwq hbq p0 p1 p2 p3 q0 q1 q2 d0 d1 d2
                have hxq := hx3.bel hbrq (by omega)
                have hq := hxq; obtain ⟨k0, k1, k2, k3⟩ := hq
                have hwA : IntKind.i64.wrap ((X : Int) + (k : Int)) = (X : Int) + k := IntWalk.i64_in _ (by omega)
                have hwB : IntKind.i64.wrap ((X : Int) + (J : Int)) = (X : Int) + J := IntWalk.i64_in _ (by omega)
                have hi0 : (0 : Int) ≤ (X : Int) + k := by omega
                have hi1 : (X : Int) + (k : Int) < (X : Int) + (ng : Int) := by omega
                have hi2 : (X : Int) + (k : Int) < ((X + ng : Nat) : Int) := by omega
                have hti : ((X : Int) + (k : Int)).toNat = X + k := by omega
                go_wp2_with fail
                refine wp_region_mem0 (10) [(⟨w.heap.size, 0, none⟩, .int .i64 x), (⟨w.heap.size, 1, none⟩, .int .i64 y), (⟨w.heap.size, 2, none⟩, .slice (some ⟨b, o, none⟩) ng cg), (⟨w.heap.size, 3, none⟩, .slice Ao no co)] [(2, [], []), (6, [], [])] [] [(2, Res.plain (.int .i64 (X : Int))), (6, Res.plain (.int .i64 (X : Int)))] (by kernel_rfl) (by kernel_rfl) (by kernel_rfl) (by simp only [CellsL, List.mem_cons, forall_eq_or_imp, List.not_mem_nil, false_implies, implies_true, and_true]; repeat (any_goals (apply And.intro)); all_goals (first | assumption | go_simp)) ?_
                simp only [List.take_succ_cons, List.take_zero, List.drop_succ_cons, List.drop_zero, List.take_nil, List.drop_nil, List.take, List.drop]
                repeat (first
                  | ((with_reducible refine mem_pure0 ?_ ?_ ?_)
                     · exact rfl
                     · exact rfl
                     intro K hK
                     apply Exists.intro
                     refine ⟨fun w3 hw3 => ?_, ?_⟩
                     · have hcs := hw3
                       simp only [CellsL, List.mem_cons, forall_eq_or_imp, List.not_mem_nil, false_implies, implies_true, and_true] at hcs
                       clear hw3
                       go_simp
                       first | done | exact ⟨rfl, rfl⟩ | rfl
                     refine hK _ ?_
                     clear hK K
                     try simp only [Act.put, List.setIfInBounds_toArray, List.set_cons_zero, List.set_cons_succ])
                  | ((with_reducible refine mem_skip ?_ ?_ ?_)
                     · exact rfl
                     · exact wanted_not rfl rfl rfl rfl
                     simp only [Act.put, List.setIfInBounds_toArray, List.set_cons_zero, List.set_cons_succ])
                  | ((with_reducible refine mem_pure ?_ ?_ ?_)
                     · exact rfl
                     · exact wanted_some rfl rfl rfl rfl
                     intro K hK
                     apply Exists.intro
                     refine ⟨fun w3 hw3 => ?_, ?_⟩
                     · have hcs := hw3
                       simp only [CellsL, List.mem_cons, forall_eq_or_imp, List.not_mem_nil, false_implies, implies_true, and_true] at hcs
                       clear hw3
                       go_simp
                       first | done | exact ⟨rfl, rfl⟩ | rfl
                     refine hK _ ?_
                     clear hK K
                     try simp only [Act.put, List.setIfInBounds_toArray, List.set_cons_zero, List.set_cons_succ]))
                focus
                  (with_reducible refine mem_plain (.int .i64 (X : Int)) ?_ ?_ ?_ ?_ (hw := ?_))
                  · exact rfl
                  · exact rfl
                  · intro w3 hw3 hc3 hp3
                    have hcs := hc3
                    simp only [CellsL, List.mem_cons, forall_eq_or_imp, List.not_mem_nil, false_implies, implies_true, and_true] at hcs
                    (go_simp; refine (ciInputs_any x y (some ⟨b, o, none⟩) ng cg Ao no co _ hx hy).mono ?_; rintro e w4 ⟨rfl, hb4⟩; rw [HXe.out]; exact retPost.mk_ (postPlain.mk_ hb4))
                  rotate_left
                  · first | exact wanted_none rfl | exact wanted_some rfl rfl rfl rfl
                  try simp only [Act.put, List.setIfInBounds_toArray, List.set_cons_zero, List.set_cons_succ]
                repeat (first
                  | ((with_reducible refine mem_pure0 ?_ ?_ ?_)
                     · exact rfl
                     · exact rfl
                     intro K hK
                     apply Exists.intro
                     refine ⟨fun w3 hw3 => ?_, ?_⟩
                     · have hcs := hw3
                       simp only [CellsL, List.mem_cons, forall_eq_or_imp, List.not_mem_nil, false_implies, implies_true, and_true] at hcs
                       clear hw3
                       go_simp
                       first | done | exact ⟨rfl, rfl⟩ | rfl
                     refine hK _ ?_
                     clear hK K
                     try simp only [Act.put, List.setIfInBounds_toArray, List.set_cons_zero, List.set_cons_succ])
                  | ((with_reducible refine mem_skip ?_ ?_ ?_)
                     · exact rfl
                     · exact wanted_not rfl rfl rfl rfl
                     simp only [Act.put, List.setIfInBounds_toArray, List.set_cons_zero, List.set_cons_succ])
                  | ((with_reducible refine mem_pure ?_ ?_ ?_)
                     · exact rfl
                     · exact wanted_some rfl rfl rfl rfl
                     intro K hK
                     apply Exists.intro
                     refine ⟨fun w3 hw3 => ?_, ?_⟩
                     · have hcs := hw3
                       simp only [CellsL, List.mem_cons, forall_eq_or_imp, List.not_mem_nil, false_implies, implies_true, and_true] at hcs
                       clear hw3
                       go_simp
                       first | done | exact ⟨rfl, rfl⟩ | rfl
                     refine hK _ ?_
                     clear hK K
                     try simp only [Act.put, List.setIfInBounds_toArray, List.set_cons_zero, List.set_cons_succ]))
                focus
                  (with_reducible refine mem_plain (.int .i64 (X : Int)) ?_ ?_ ?_ ?_ (hw := ?_))
                  · exact rfl
                  · exact rfl
                  · intro w3 hw3 hc3 hp3
                    have hcs := hc3
                    simp only [CellsL, List.mem_cons, forall_eq_or_imp, List.not_mem_nil, false_implies, implies_true, and_true] at hcs
                    (go_simp; refine (ciInputs_any x y (some ⟨b, o, none⟩) ng cg Ao no co _ hx hy).mono ?_; rintro e w4 ⟨rfl, hb4⟩; rw [HXe.out]; exact retPost.mk_ (postPlain.mk_ hb4))
                  rotate_left
                  · first | exact wanted_none rfl | exact wanted_some rfl rfl rfl rfl
                  try simp only [Act.put, List.setIfInBounds_toArray, List.set_cons_zero, List.set_cons_succ]
                repeat (first
                  | ((with_reducible refine mem_pure0 ?_ ?_ ?_)
                     · exact rfl
                     · exact rfl
                     intro K hK
                     apply Exists.intro
                     refine ⟨fun w3 hw3 => ?_, ?_⟩
                     · have hcs := hw3
                       simp only [CellsL, List.mem_cons, forall_eq_or_imp, List.not_mem_nil, false_implies, implies_true, and_true] at hcs
                       clear hw3
                       go_simp
                       first | done | exact ⟨rfl, rfl⟩ | rfl
                     refine hK _ ?_
                     clear hK K
                     try simp only [Act.put, List.setIfInBounds_toArray, List.set_cons_zero, List.set_cons_succ])
                  | ((with_reducible refine mem_skip ?_ ?_ ?_)
                     · exact rfl
                     · exact wanted_not rfl rfl rfl rfl
                     simp only [Act.put, List.setIfInBounds_toArray, List.set_cons_zero, List.set_cons_succ])
                  | ((with_reducible refine mem_pure ?_ ?_ ?_)
                     · exact rfl
                     · exact wanted_some rfl rfl rfl rfl
                     intro K hK
                     apply Exists.intro
                     refine ⟨fun w3 hw3 => ?_, ?_⟩
                     · have hcs := hw3
                       simp only [CellsL, List.mem_cons, forall_eq_or_imp, List.not_mem_nil, false_implies, implies_true, and_true] at hcs
                       clear hw3
                       go_simp
                       first | done | exact ⟨rfl, rfl⟩ | rfl
                     refine hK _ ?_
                     clear hK K
                     try simp only [Act.put, List.setIfInBounds_toArray, List.set_cons_zero, List.set_cons_succ]))
                refine wpSep_end ?_
                intro wz hwz hcz hfin hap
                have hbz := alt_below hwz
                have hIz := hIq.below hbz
                have hgz := hgq.below hbz
                have hbrz := hbrq.trans (hbz.mono (by omega))
                have hzz := hbrz.size
                have hlz := row_len (X := X) (gs := gs) (k := k) ((X : Int) + (same2 hs M (J + 1) : Nat)) hlt
                obtain ⟨t1, t2⟩ := hIz.f.cellAt (k := X + k) (by omega)
                have hI8 := hIz.setF (X + k) ((X : Int) + J)
                rw [row_set] at hI8
                have hI9 : MsI (wz.setCell ⟨fB, X + k, none⟩ (.int .i64 ((X : Int) + J))) v2.heap.size v3.heap.size x y (some ⟨bg, og, none⟩) k cG hs (some ⟨fB, 0, none⟩) (X + ng) cF (rowV X ng gs k ((X : Int) + (same2 hs M J : Nat))) := by rw [HY.out]; exact hI8
                have hg9 := hgz.far ⟨fB, X + k, none⟩ (.int .i64 ((X : Int) + J)) hfw
                have hb9 := hbrz.setCell (p := ⟨fB, X + k, none⟩) hfl (.int .i64 ((X : Int) + J))
                clear hIq hgq hbrq hxq hI8 hIz hgz hbz hfin hap hcz hwz k0 k1 k2 k3
                go_wp2
                go_roundw
                case rel => exact ⟨J, by omega, rfl, hI9, hg9, hb9⟩
                case measure => first | (simp [intOf]; done) | (simp [intOf]; omega)
              | false =>
                have HSm := Lib.hid (HQ.out.trans hsm)
                have HY := Lib.hid (same2_no (hs := hs) (g := M) (j := J) (by omega) hsm)
                clear hsm
                go_wp2_with fail
                refine wp_region_keep (wr.heap.size) (wr) [(⟨v3.heap.size, 2, none⟩, .slice (some ⟨bg, og, none⟩) k cG), (⟨bg, og + J * 3, none⟩, .int .i64 (gg hs J).k), (⟨bg, og + J * 3 + 1, none⟩, .int .i64 (gg hs J).a), (⟨bg, og + J * 3 + 2, none⟩, .int .i64 (gg hs J).b), (⟨wo.heap.size, 0, none⟩, .int .i64 M.k), (⟨wo.heap.size, 1, none⟩, .int .i64 M.a), (⟨wo.heap.size, 2, none⟩, .int .i64 M.b)] (by kernel_rfl) (by kernel_rfl) (by simp only [List.mem_cons, forall_eq_or_imp, List.not_mem_nil, false_implies, implies_true, and_true]; repeat (any_goals (apply And.intro)); all_goals (first | assumption | go_simp)) ?_
                repeat (first
                  | go_big_quiet_skip
                  | (go_big_quiet_want
                     apply Exists.intro
                     refine ⟨fun w3 hw3 => ?_, ?_⟩
                     · have hcs := hw3.2
                       simp only [List.mem_cons, forall_eq_or_imp, List.not_mem_nil, false_implies, implies_true, and_true] at hcs
                       simp only [Oper.quietAt]
                       go_simp
                       first | done | exact ⟨rfl, rfl⟩ | rfl | (refine (siSame_any (gg hs J) M _).mono ?_; rintro e w4 ⟨he, hb4⟩; rw [HSm.out] at he; obtain rfl := he; exact ⟨rfl, hw3.next hb4 (Nat.le_refl _)⟩)
                     go_big_quiet_on
                     try simp only [Act.put, List.setIfInBounds_toArray, List.set_cons_zero, List.set_cons_succ]))
                refine wpQuiet_nil ?_
                intro wq hwq
                have hbq := hwq.1
                have hIq := hIr.below hbq
                rw [← HY.out] at hIq
                have hgq := hgr.below hbq
                have hbrq := hbr.trans (hbq.mono (by omega))
                clear hIr hgr hbr hwq hbq p0 p1 p2 p3 q0 q1 q2 d0 d1 d2
                go_wp2
                go_roundw
                case rel => exact ⟨J, by omega, rfl, hIq, hgq, hbrq⟩
                case measure => first | (simp [intOf]; done) | (simp [intOf]; omega)
      · obtain rfl : ng = k := Nat.le_antisymm (Nat.le_of_not_lt hlt) hk
        rw [HFe.out] at hI
        have hq := hI.bx; obtain ⟨p0, p1, p2, p3⟩ := hq
        have hxr := hx3.bel hb (by omega)
        have hq := hxr; obtain ⟨k0, k1, k2, k3⟩ := hq
        have hao' : allB 0 (((X + ng : Nat) : Int) - 1) os = true := by rw [show ((X + ng : Nat) : Int) - 1 = x + y + ng - 1 by omega]; exact hao
        have hpl : (pick (mrg X gs ng).2 os).length = no := by rw [pick_len]; exact hlo
        go_wp2_with fail
        refine (ciPick_any F Ao (X + ng) cF no co (mrg X gs ng).2 os _ hI.f.reads (hr.2.below hbw (Nat.le_refl _)) (by omega) (by omega) hao').mono ?_
        rintro e w5 hT
        obtain ⟨A5, c5, rfl, ho5, hb5⟩ := hT.open_ hpl
        have hI5 := hI.below hb5
        have hz5 := hb5.size
        have hzb := hb.size
        have hbl5 := hb.trans (hb5.mono (by omega))
        have hB5 := hbw.trans (hb5.mono (by have := hbw.size; omega))
        have hr5 := hr3.bel hbl5 (by omega)
        have f5 := f3.below hbl5 (by omega)
        clear p0 p1 p2 p3 k0 k1 k2 k3 hxr
        have hq := hI5.bx; obtain ⟨p0, p1, p2, p3⟩ := hq
        have e3 := hI5.f4 3
        have hO7 := hI5.bx.setO A5 no c5
        have ka : Alt (fun i => i = v3.heap.size) w5 (w5.setCell ⟨v3.heap.size, 3, none⟩ (.slice A5 no c5)) := (Alt.refl_ _ w5).set_ _ _ (fun _ => rfl)
        have hB7 := hB5.setCell (p := ⟨v3.heap.size, 3, none⟩) (by show w.heap.size ≤ v3.heap.size; omega) (.slice A5 no c5)
        have hr7 := hr5.alt ka (by omega)
        have f7 := f5.alt ka hr5.lt (by omega)
        have hG7 := hI5.g.alt ka (fun g hg hc => hI5.g4 (hc ▸ hg))
        have hO57 := ho5.alt ka (fun g hg hc => by have := ho5.lt g hg; have := hI.lt4; omega)
        have hap7 : Apart (.slice G ng cG) (.slice A5 no c5) := fun g h1 h2 => by
          have h3 := hI.g.lt g h1
          have h4 := ho5.lt g h2
          omega
        have hC7 : OwnC (w5.setCell ⟨v3.heap.size, 3, none⟩ (.slice A5 no c5)) v2.heap.size w5.heap.size G ng cG A5 no c5 (mrg X gs ng).1 (pick (mrg X gs ng).2 os) := ⟨hG7, hO57.lo_ (by have := hI.lt4; omega), hap7⟩
        have hgl := hG7.len
        have hol := hO57.len
        obtain ⟨n0, n1, n2, n3⟩ := hO7
        have hq := hr7; obtain ⟨r0, r1, r2, r3⟩ := hq
        have g0 := f7 0; have g1 := f7 1; have g2 := f7 2; have g3 := f7 3
        clear hI hI5 hG7 hO57 ka
        go_wp2
        have hq9 := BxC.set4 (hr7) x y G ng cG A5 no c5
        obtain ⟨q0, q1, q2, q3⟩ := hq9
        refine bodyPost_ret (v := .tuple #[.agg #[.int .i64 x, .int .i64 y, .slice G ng cG, .slice A5 no c5], .bool true]) (by simp [results, Try.results6, go_sem, q0, q1, q2, q3]) rfl ?_
        exact RetC.some_ (below_set4 hB7 (by omega) _ _ _ _ _ _ _ _) HF.out hgl hol rfl (by rw [set4_size]; exact ((hC7.set4 (.inl (by omega)) _ _ _ _ _ _ _ _).lo_ (by omega)) |> fun h => h.hi_ (by simp))
end Go.Proofs.Ytcdhmcpocohbpaa
