/- BesideCircuit of the reference. Lengths below 2^21. -/
import Derived.Test.YtgenehiiakdadaaQBes
import Derived.Test.YtgenehiiakdadaaQAV
import Derived.Test.YtgenehiiakdadaaQPickM
import Derived.Test.YtgenehiiakdadaaQSep
namespace Go.Proofs.Ytgenehiiakdadaa
open Go.RowKit
set_option linter.unusedVariables false
set_option linter.unusedSimpArgs false
attribute [local go_sem] sepAt sepUpon pureAt pureUpon

theorem wmap_bes1 {x y u v : Int} {X : Nat} (hy : 0 ≤ y) (hX1 : (X : Int) ≤ x + y) (hX2 : x + y ≤ X) {z : Int} (h0 : 0 ≤ z) : wmap (tab X fun i => bes1 x y u v i) (x + y + (u + v)) z = bes1 x y u v z := by
  unfold wmap
  rw [tab_len]
  split
  · rw [gi_tab (by omega)]
    congr 1; omega
  · unfold bes1
    rw [if_neg (by omega), if_neg (by omega)]; omega
theorem wmap_bes2 {x y u v : Int} {Y ng : Nat} (hv : 0 ≤ v) (hY1 : (Y : Int) ≤ u + v) (hY2 : u + v ≤ Y) {z : Int} (h0 : 0 ≤ z) : wmap (tab Y fun i => bes2 x y u v ng i) (x + y + (u + v) + ng) z = bes2 x y u v ng z := by
  unfold wmap
  rw [tab_len]
  split
  · rw [gi_tab (by omega)]
    congr 1; omega
  · unfold bes2
    rw [if_neg (by omega), if_neg (by omega)]; omega

set_option maxRecDepth 100000 in
set_option maxHeartbeats 3000000 in
theorem spec_BesideCircuit_any (x y : Int) (Ag : Option Addr) (ng cg : Nat) (Ao : Option Addr) (no co : Nat) (u v : Int) (Dg : Option Addr) (mg dg : Nat) (Do : Option Addr) (mo do_ : Nat) (gs : List G3) (os : List Int) (hs : List G3) (ps : List Int) (w : World) (hr : RG w Ag ng gs ∧ RI w Ao no os) (hng : ng ≤ 2097152) (hno : no ≤ 2097152) (hr2 : RG w Dg mg hs ∧ RI w Do mo ps) (hmg : mg ≤ 2097152) (hmo : mo ≤ 2097152) :
    Calls Try.prog 7 #[.agg #[.int .i64 x, .int .i64 y, .slice Ag ng cg, .slice Ao no co], .agg #[.int .i64 u, .int .i64 v, .slice Dg mg dg, .slice Do mo do_]] w (RetC w (besideF x y gs os u v hs ps)) := by
  have hlg := hr.1.len
  have hlo := hr.2.len
  have hlh := hr2.1.len
  have hlp := hr2.2.len
  have hB : Below w.heap.size w (((w.alloc (.cells #[.int .i64 x, .int .i64 y, .slice Ag ng cg, .slice Ao no co] 27)).alloc (.cells #[.int .i64 u, .int .i64 v, .slice Dg mg dg, .slice Do mo do_] 27)).alloc (.cells #[.int .i64 0, .int .i64 0, .slice none 0 0, .slice none 0 0] 27)) := (((Below.refl _ _).alloc (Nat.le_refl _) _).alloc (by simp) _).alloc (by simp; omega) _
  have hc0 : BxC (((w.alloc (.cells #[.int .i64 x, .int .i64 y, .slice Ag ng cg, .slice Ao no co] 27)).alloc (.cells #[.int .i64 u, .int .i64 v, .slice Dg mg dg, .slice Do mo do_] 27)).alloc (.cells #[.int .i64 0, .int .i64 0, .slice none 0 0, .slice none 0 0] 27)) w.heap.size x y Ag ng cg Ao no co := ((BxC.new w _).below ((Below.refl _ _).alloc (Nat.le_refl _) _)).below ((Below.refl _ _).alloc (Nat.le_refl _) _)
  have hd0 : BxC (((w.alloc (.cells #[.int .i64 x, .int .i64 y, .slice Ag ng cg, .slice Ao no co] 27)).alloc (.cells #[.int .i64 u, .int .i64 v, .slice Dg mg dg, .slice Do mo do_] 27)).alloc (.cells #[.int .i64 0, .int .i64 0, .slice none 0 0, .slice none 0 0] 27)) (w.heap.size + 1) u v Dg mg dg Do mo do_ := by
    have h := (BxC.new (x := u) (y := v) (Ag := Dg) (ng := mg) (cg := dg) (Ao := Do) (no := mo) (co := do_) (w.alloc (.cells #[.int .i64 x, .int .i64 y, .slice Ag ng cg, .slice Ao no co] 27)) 27).below ((Below.refl _ _).alloc (Nat.le_refl _) (.cells #[.int .i64 0, .int .i64 0, .slice none 0 0, .slice none 0 0] 27))
    simpa using h
  have hz0 : BxC (((w.alloc (.cells #[.int .i64 x, .int .i64 y, .slice Ag ng cg, .slice Ao no co] 27)).alloc (.cells #[.int .i64 u, .int .i64 v, .slice Dg mg dg, .slice Do mo do_] 27)).alloc (.cells #[.int .i64 0, .int .i64 0, .slice none 0 0, .slice none 0 0] 27)) (w.heap.size + 2) 0 0 none 0 0 none 0 0 := by
    have h := BxC.new (x := 0) (y := 0) (Ag := none) (ng := 0) (cg := 0) (Ao := none) (no := 0) (co := 0) ((w.alloc (.cells #[.int .i64 x, .int .i64 y, .slice Ag ng cg, .slice Ao no co] 27)).alloc (.cells #[.int .i64 u, .int .i64 v, .slice Dg mg dg, .slice Do mo do_] 27)) 27
    simpa using h
  have fz0 : Fz (((w.alloc (.cells #[.int .i64 x, .int .i64 y, .slice Ag ng cg, .slice Ao no co] 27)).alloc (.cells #[.int .i64 u, .int .i64 v, .slice Dg mg dg, .slice Do mo do_] 27)).alloc (.cells #[.int .i64 0, .int .i64 0, .slice none 0 0, .slice none 0 0] 27)) (w.heap.size + 2) := by
    have h := Fz.new ((w.alloc (.cells #[.int .i64 x, .int .i64 y, .slice Ag ng cg, .slice Ao no co] 27)).alloc (.cells #[.int .i64 u, .int .i64 v, .slice Dg mg dg, .slice Do mo do_] 27)) #[.int .i64 0, .int .i64 0, .slice none 0 0, .slice none 0 0] 27
    simpa using h
  have hs0 : (((w.alloc (.cells #[.int .i64 x, .int .i64 y, .slice Ag ng cg, .slice Ao no co] 27)).alloc (.cells #[.int .i64 u, .int .i64 v, .slice Dg mg dg, .slice Do mo do_] 27)).alloc (.cells #[.int .i64 0, .int .i64 0, .slice none 0 0, .slice none 0 0] 27)).heap.size = w.heap.size + 3 := by simp
  cases h0 : circB x y gs os with
  | false =>
    have HR := Lib.hid (besideF_1 (u := u) (v := v) (hs := hs) (ps := ps) h0)
    have H0 := Lib.hid h0; clear h0
    go_enter Try.func7, Try.ntmps7
    have hq := hc0; obtain ⟨k0, k1, k2, k3⟩ := hq
    go_wp2_with fail
    refine (ciGood_any x y Ag ng cg Ao no co gs os _ (hr.1.below hB (Nat.le_refl _)) (hr.2.below hB (Nat.le_refl _)) hng hno).mono ?_
    rintro e v1 ⟨rfl, hb1⟩
    rw [H0.out]
    have hz1 := hz0.below hb1
    have fz1 := fz0.below hb1 (by rw [hs0]; omega)
    have hq := hz1; obtain ⟨r0, r1, r2, r3⟩ := hq
    have g0 := fz1 0; have g1 := fz1 1; have g2 := fz1 2; have g3 := fz1 3
    have hB1 := hB.trans (hb1.mono hB.size)
    go_wp2
    have hq9 := BxC.set4 (hz1) 0 0 none 0 0 none 0 0
    obtain ⟨q0, q1, q2, q3⟩ := hq9
    refine bodyPost_ret (v := .tuple #[.agg #[.int .i64 0, .int .i64 0, .slice none 0 0, .slice none 0 0], .bool false]) (by simp [results, Try.results7, go_sem, q0, q1, q2, q3]) rfl ?_
    exact RetC.none_ (below_set4 hB1 (by omega) _ _ _ _ _ _ _ _) HR.out rfl
  | true =>
    cases h1 : circB u v hs ps with
    | false =>
      have HR := Lib.hid (besideF_2 (x := x) (y := y) (gs := gs) (os := os) h1)
      have H0 := Lib.hid h0; have H1 := Lib.hid h1; clear h0 h1
      go_enter Try.func7, Try.ntmps7
      have hq := hc0; obtain ⟨k0, k1, k2, k3⟩ := hq
      go_wp2_with fail
      refine (ciGood_any x y Ag ng cg Ao no co gs os _ (hr.1.below hB (Nat.le_refl _)) (hr.2.below hB (Nat.le_refl _)) hng hno).mono ?_
      rintro e v1 ⟨rfl, hb1⟩
      rw [H0.out]
      have hB1 := hB.trans (hb1.mono hB.size)
      have hd1 := hd0.below hb1
      have hq := hd1; obtain ⟨l0, l1, l2, l3⟩ := hq
      go_wp2_with fail
      refine (ciGood_any u v Dg mg dg Do mo do_ hs ps _ (hr2.1.below hB1 (Nat.le_refl _)) (hr2.2.below hB1 (Nat.le_refl _)) hmg hmo).mono ?_
      rintro e v2 ⟨rfl, hb2⟩
      rw [H1.out]
      have hz2 := (hz0.below hb1).below hb2
      have fz2 := (fz0.below hb1 (by rw [hs0]; omega)).below hb2 (by have := hb1.size; rw [hs0] at this; omega)
      have hq := hz2; obtain ⟨r0, r1, r2, r3⟩ := hq
      have g0 := fz2 0; have g1 := fz2 1; have g2 := fz2 2; have g3 := fz2 3
      have hB2 := hB1.trans (hb2.mono hB1.size)
      go_wp2
      have hq9 := BxC.set4 (hz2) 0 0 none 0 0 none 0 0
      obtain ⟨q0, q1, q2, q3⟩ := hq9
      refine bodyPost_ret (v := .tuple #[.agg #[.int .i64 0, .int .i64 0, .slice none 0 0, .slice none 0 0], .bool false]) (by simp [results, Try.results7, go_sem, q0, q1, q2, q3]) rfl ?_
      exact RetC.none_ (below_set4 hB2 (by omega) _ _ _ _ _ _ _ _) HR.out rfl
    | true =>
      have hbx := circB_bd h0
      have hbu := circB_bd h1
      have hgs := circB_gates h0 hlg
      have hgh := circB_gates h1 hlh
      have hos := circB_outs h0 hlg hlo
      have hps := circB_outs h1 hlh hlp
      have hx := hbx.1; have hy := hbx.2.1; have hu := hbu.1; have hv := hbu.2.1
      have hng3 : ng ≤ 300 := by have := hbx.2.2.1; omega
      have hmg3 : mg ≤ 300 := by have := hbu.2.2.1; omega
      have hno3 : no ≤ 40 := by have := hbx.2.2.2.1; omega
      have hmo3 : mo ≤ 40 := by have := hbu.2.2.2.1; omega
      have H0 := Lib.hid h0; have H1 := Lib.hid h1; clear h0 h1 hbx hbu
      go_enter Try.func7, Try.ntmps7
      have hq := hc0; obtain ⟨k0, k1, k2, k3⟩ := hq
      go_wp2_with fail
      refine (ciGood_any x y Ag ng cg Ao no co gs os _ (hr.1.below hB (Nat.le_refl _)) (hr.2.below hB (Nat.le_refl _)) hng hno).mono ?_
      rintro e v1 ⟨rfl, hb1⟩
      rw [H0.out]
      have hB1 := hB.trans (hb1.mono hB.size)
      have hd1 := hd0.below hb1
      have hq := hd1; obtain ⟨l0, l1, l2, l3⟩ := hq
      go_wp2_with fail
      refine (ciGood_any u v Dg mg dg Do mo do_ hs ps _ (hr2.1.below hB1 (Nat.le_refl _)) (hr2.2.below hB1 (Nat.le_refl _)) hmg hmo).mono ?_
      rintro e v2 ⟨rfl, hb2⟩
      rw [H1.out]
      have hz1 := hb1.size
      rw [hs0] at hz1
      have hz2 := hb2.size
      have hB2 := hB1.trans (hb2.mono hB1.size)
      have hc2 := (hc0.below hb1).below hb2
      have hd2 := hd1.below hb2
      have hzz2 := (hz0.below hb1).below hb2
      have fz2 := (fz0.below hb1 (by rw [hs0]; omega)).below hb2 (by omega)
      clear hc0 hd0 hz0 fz0 k0 k1 k2 k3 l0 l1 l2 l3 hd1 hb1 hb2 hB hB1
      obtain ⟨X, hX1, hX2⟩ : ∃ X : Nat, (X : Int) ≤ x + y ∧ x + y ≤ X := ⟨(x + y).toNat, by omega, by omega⟩
      obtain ⟨Y, hY1, hY2⟩ : ∃ Y : Nat, (Y : Int) ≤ u + v ∧ u + v ≤ Y := ⟨(u + v).toNat, by omega, by omega⟩
      go_wp2
      go_loopw [6, 8] (fun l i wr => ∃ (k : Nat) (A : Option Addr) (c : Nat), k ≤ X ∧ i = .int .i64 k ∧ l = .slice A k c ∧ Own wr v2.heap.size wr.heap.size (.slice A k c) k (tab k (fun i : Nat => bes1 x y u v i)) ∧ Below v2.heap.size v2 wr) (fun _ i _ => X - (intOf i).toNat)
      case atStart => exact ⟨0, none, 0, Nat.zero_le _, rfl, rfl, by rw [tab_zero]; exact Own.none_ _ _ _, Below.refl _ _⟩
      case round =>
        obtain ⟨k, A, c, hk, rfl, rfl, hL, hb⟩ := hrel
        have hq := hc2.below hb; obtain ⟨k0, k1, k2, k3⟩ := hq
        go_wp2_with fail
        refine (ciInputs_any x y Ag ng cg Ao no co _ hx hy).mono ?_
        rintro e w3 ⟨rfl, hb3⟩
        have hbb := hb.trans (hb3.mono hb.size)
        have hz3 := hb.size
        have hz4 := hb3.size
        clear k0 k1 k2 k3
        have hq := hc2.below hbb; obtain ⟨k0, k1, k2, k3⟩ := hq
        have hq := hd2.below hbb; obtain ⟨l0, l1, l2, l3⟩ := hq
        by_cases hlt : (k : Int) < x + y
        · by_cases hin : (k : Int) < x
          · have HT : Hid (tab (k + 1) (fun i : Nat => bes1 x y u v i) = tab k (fun i : Nat => bes1 x y u v i) ++ [(k : Int)]) := Lib.hid (by rw [tab_snoc]; simp only [bes1, bes2, hin, hlt, if_true, if_false]; try (congr 2; omega))
            go_wp2_with (at_builtin; refine wpList_appI _ rfl _ _ rfl rfl ((hL.below hb3 (.inl (Nat.le_refl _))).alloc _) rfl (RI_one _ _ _ _ rfl) (by omega) (by first | omega | (simp; done) | (simp; omega)) ?_; intro A5 c5 w5 hown5 hg5 hat5 hk5)
            have hb5 := below_app (hbb.alloc (by omega) (.cells #[.int .i64 ((k : Int))] 3)) ((hL.below hb3 (.inl (Nat.le_refl _))).alloc _) hg5 (by simp; omega) (Nat.le_refl _)
            rw [← HT.out] at hown5
            go_wp2
            go_roundw
            case rel => exact ⟨k + 1, _, _, by omega, by go_num, rfl, hown5, hb5⟩
            case measure => simp [intOf]; omega
          · have HT : Hid (tab (k + 1) (fun i : Nat => bes1 x y u v i) = tab k (fun i : Nat => bes1 x y u v i) ++ [(k : Int) + u]) := Lib.hid (by rw [tab_snoc]; simp only [bes1, bes2, hin, hlt, if_true, if_false]; try (congr 2; omega))
            go_wp2_with (at_builtin; refine wpList_appI _ rfl _ _ rfl rfl ((hL.below hb3 (.inl (Nat.le_refl _))).alloc _) rfl (RI_one _ _ _ _ rfl) (by omega) (by first | omega | (simp; done) | (simp; omega)) ?_; intro A5 c5 w5 hown5 hg5 hat5 hk5)
            have hb5 := below_app (hbb.alloc (by omega) (.cells #[.int .i64 ((k : Int) + u)] 3)) ((hL.below hb3 (.inl (Nat.le_refl _))).alloc _) hg5 (by simp; omega) (Nat.le_refl _)
            rw [← HT.out] at hown5
            go_wp2
            go_roundw
            case rel => exact ⟨k + 1, _, _, by omega, by go_num, rfl, hown5, hb5⟩
            case measure => simp [intOf]; omega
        · obtain rfl : X = k := by omega
          have hL3 := (hL.below hb3 (.inl (Nat.le_refl _))).now
          clear hL hb hb3 k0 k1 k2 k3 l0 l1 l2 l3 hlt
          go_wp2
          go_loopw [7, 9] (fun l i wr => ∃ (k : Nat) (A' : Option Addr) (c' : Nat), k ≤ Y ∧ i = .int .i64 k ∧ l = .slice A' k c' ∧ Own wr w3.heap.size wr.heap.size (.slice A' k c') k (tab k (fun i : Nat => bes2 x y u v ng i)) ∧ Below w3.heap.size w3 wr) (fun _ i _ => Y - (intOf i).toNat)
          case atStart => exact ⟨0, none, 0, Nat.zero_le _, rfl, rfl, by rw [tab_zero]; exact Own.none_ _ _ _, Below.refl _ _⟩
          case round =>
            obtain ⟨w4, rfl⟩ : ∃ w4, w4 = w3 := ⟨_, rfl⟩
            clear hz3 hz4
            have hbv := hbb
            clear hbb
            obtain ⟨k, A', c', hk, rfl, rfl, hL, hb⟩ := hrel
            have hbq := hbv.trans (hb.mono hbv.size)
            have hq := hd2.below hbq; obtain ⟨l0, l1, l2, l3⟩ := hq
            go_wp2_with fail
            refine (ciInputs_any u v Dg mg dg Do mo do_ _ hu hv).mono ?_
            rintro e w5 ⟨rfl, hb3⟩
            have hbb := hb.trans (hb3.mono hb.size)
            have hz3 := hb.size
            have hz4 := hb3.size
            have hbw := hbv.trans (hbb.mono hbv.size)
            clear l0 l1 l2 l3
            have hc5 := hc2.below hbw
            have hd5 := hd2.below hbw
            have hq := hc5; obtain ⟨k0, k1, k2, k3⟩ := hq
            have hq := hd5; obtain ⟨l0, l1, l2, l3⟩ := hq
            by_cases hlt : (k : Int) < u + v
            · by_cases hin : (k : Int) < u
              · have HT : Hid (tab (k + 1) (fun i : Nat => bes2 x y u v ng i) = tab k (fun i : Nat => bes2 x y u v ng i) ++ [(k : Int) + x]) := Lib.hid (by rw [tab_snoc]; simp only [bes1, bes2, hin, hlt, if_true, if_false]; try (congr 2; omega))
                go_wp2_with (at_builtin; refine wpList_appI _ rfl _ _ rfl rfl ((hL.below hb3 (.inl (Nat.le_refl _))).alloc _) rfl (RI_one _ _ _ _ rfl) (by omega) (by first | omega | (simp; done) | (simp; omega)) ?_; intro A5 c5 w5 hown5 hg5 hat5 hk5)
                have hb5 := below_app (hbb.alloc (by omega) (.cells #[.int .i64 ((k : Int) + x)] 3)) ((hL.below hb3 (.inl (Nat.le_refl _))).alloc _) hg5 (by simp; omega) (Nat.le_refl _)
                rw [← HT.out] at hown5
                go_wp2
                go_roundw
                case rel => exact ⟨k + 1, _, _, by omega, by go_num, rfl, hown5, hb5⟩
                case measure => simp [intOf]; omega
              · have HT : Hid (tab (k + 1) (fun i : Nat => bes2 x y u v ng i) = tab k (fun i : Nat => bes2 x y u v ng i) ++ [(k : Int) + x + y]) := Lib.hid (by rw [tab_snoc]; simp only [bes1, bes2, hin, hlt, if_true, if_false]; try (congr 2; omega))
                go_wp2_with (at_builtin; refine wpList_appI _ rfl _ _ rfl rfl ((hL.below hb3 (.inl (Nat.le_refl _))).alloc _) rfl (RI_one _ _ _ _ rfl) (by omega) (by first | omega | (simp; done) | (simp; omega)) ?_; intro A5 c5 w5 hown5 hg5 hat5 hk5)
                have hb5 := below_app (hbb.alloc (by omega) (.cells #[.int .i64 ((k : Int) + x + y)] 3)) ((hL.below hb3 (.inl (Nat.le_refl _))).alloc _) hg5 (by simp; omega) (Nat.le_refl _)
                rw [← HT.out] at hown5
                go_wp2
                go_roundw
                case rel => exact ⟨k + 1, _, _, by omega, by go_num, rfl, hown5, hb5⟩
                case measure => simp [intOf]; omega
            · obtain rfl : Y = k := by omega
              have hR5 := (hL.below hb3 (.inl (Nat.le_refl _))).now
              have hL5 := hL3.below hbb (.inl (Nat.le_refl _))
              have hrz5 := hzz2.below hbw
              have fz5 := fz2.below hbw (by omega)
              have hB5 := hB2.trans (hbw.mono hB2.size)
              have hzz := hbw.size
              clear hL hb hbq hL3 hbb hbw hb3 hc2 hd2 hzz2 fz2 hB2
              have hgt1 : ∀ k : Nat, k < ng → GateIs (gg gs k) ((X : Int) + k) := fun k hk => by
                have h := circB_gate_at H0.out hlg k hk
                rwa [show (X : Int) = x + y by omega]
              have hgt2 : ∀ k : Nat, k < mg → GateIs (gg hs k) ((Y : Int) + k) := fun k hk => by
                have h := circB_gate_at H1.out hlh k hk
                rwa [show (Y : Int) = u + v by omega]
              have HM1 : Hid (mvs (wmap (tab X (fun i : Nat => bes1 x y u v i)) (x + y + (u + v))) gs ng = mvs (bes1 x y u v) gs ng) := Lib.hid (mvs_congr hgs (by omega) fun z h0 _ => wmap_bes1 hy.1 hX1 hX2 h0)
              have HM2 : Hid (mvs (wmap (tab Y (fun i : Nat => bes2 x y u v ng i)) (x + y + (u + v) + ng)) hs mg = mvs (bes2 x y u v ng) hs mg) := Lib.hid (mvs_congr hgh (by omega) fun z h0 _ => wmap_bes2 hv.1 hY1 hY2 h0)
              have HP1 : Hid (pick (mws (tab X (fun i : Nat => bes1 x y u v i)) (x + y + (u + v)) ng) os = mvo (bes1 x y u v) os no) := Lib.hid (pick_mws hlo (fun j hj => by rw [tab_len]; have := hos j hj; omega) fun z h0 _ => wmap_bes1 hy.1 hX1 hX2 h0)
              have HP2 : Hid (pick (mws (tab Y (fun i : Nat => bes2 x y u v ng i)) (x + y + (u + v) + ng) mg) ps = mvo (bes2 x y u v ng) ps mo) := Lib.hid (pick_mws hlp (fun j hj => by rw [tab_len]; have := hps j hj; omega) fun z h0 _ => wmap_bes2 hv.1 hY1 hY2 h0)
              have hao1 : allB 0 (((X + ng : Nat) : Int) - 1) os = true := by
                rw [show ((X + ng : Nat) : Int) - 1 = x + y + gs.length - 1 by omega]; exact (circB_bd H0.out).2.2.2.2.2
              have hao2 : allB 0 (((Y + mg : Nat) : Int) - 1) ps = true := by
                rw [show ((Y + mg : Nat) : Int) - 1 = u + v + hs.length - 1 by omega]; exact (circB_bd H1.out).2.2.2.2.2
              have hXb : X ≤ 40 := by omega
              have hYb : Y ≤ 40 := by omega
              clear hos hps hgs hgh
              go_wp2_with fail
              refine wp_region_keep (w5.heap.size) (w5) [(⟨w.heap.size, 0, none⟩, .int .i64 x), (⟨w.heap.size, 1, none⟩, .int .i64 y), (⟨w.heap.size, 2, none⟩, .slice Ag ng cg), (⟨w.heap.size, 3, none⟩, .slice Ao no co), (⟨w.heap.size + 1, 0, none⟩, .int .i64 u), (⟨w.heap.size + 1, 1, none⟩, .int .i64 v), (⟨w.heap.size + 1, 2, none⟩, .slice Dg mg dg), (⟨w.heap.size + 1, 3, none⟩, .slice Do mo do_)] (by kernel_rfl) (by kernel_rfl) (by simp only [List.mem_cons, forall_eq_or_imp, List.not_mem_nil, false_implies, implies_true, and_true]; repeat (any_goals (apply And.intro)); all_goals (first | assumption | go_simp)) ?_
              repeat (first
                | go_big_quiet_skip
                | (go_big_quiet_want
                   apply Exists.intro
                   refine ⟨fun w3 hw3 => ?_, ?_⟩
                   · have hcs := hw3.2
                     simp only [List.mem_cons, forall_eq_or_imp, List.not_mem_nil, false_implies, implies_true, and_true] at hcs
                     simp only [Oper.quietAt]
                     go_simp
                     first | done | exact ⟨rfl, rfl⟩ | rfl | (refine (ciInputs_any _ _ _ _ _ _ _ _ _ (by omega) (by omega)).mono ?_; rintro e w6 ⟨rfl, hb6⟩; exact ⟨rfl, hw3.next hb6 (by simp)⟩)
                   go_big_quiet_on
                   try simp only [Act.put, List.setIfInBounds_toArray, List.set_cons_zero, List.set_cons_succ]))
              refine wpQuiet_nil ?_
              intro wq hwq
              have hb6 := hwq.1
              have hz6 := hb6.size
              have hc6 := hc5.below hb6
              have hd6 := hd5.below hb6
              have hL6 := hL5.below hb6 (.inl (Nat.le_refl _))
              have hR6 := hR5.below hb6 (.inl (Nat.le_refl _))
              have hrz6 := hrz5.below hb6
              have fz6 := fz5.below hb6 hrz5.lt
              have hB6 := hB5.trans (hb6.mono hB5.size)
              clear hc5 hd5 hL5 hR5 hrz5 fz5 hB5 k0 k1 k2 k3 l0 l1 l2 l3 hwq hb6
              have hq := hc6; obtain ⟨k0, k1, k2, k3⟩ := hq
              go_wp2_with fail
              refine (ciMoved_any Ag ng cg A X c gs (tab X (fun i : Nat => bes1 x y u v i)) (x + y + (u + v)) _ (hr.1.below hB6 (Nat.le_refl _)) hL6.reads hgt1 (by omega) (by omega) (by omega)).mono ?_
              rintro e w7 ⟨Ga, ca, Xa, cxa, rfl, hC1, hb7⟩
              rw [HM1.out] at hC1
              have hz7 := hb7.size
              have hc7 := hc6.below hb7
              have hd7 := hd6.below hb7
              have hR7 := hR6.below hb7 (.inl (Nat.le_refl _))
              have hrz7 := hrz6.below hb7
              have fz7 := fz6.below hb7 hrz6.lt
              have hB7 := hB6.trans (hb7.mono hB6.size)
              clear hc6 hd6 hL6 hR6 hrz6 fz6 hB6 k0 k1 k2 k3 hb7 HM1
              have hq := hd7; obtain ⟨l0, l1, l2, l3⟩ := hq
              go_wp2_with fail
              refine (ciMoved_any Dg mg dg A' Y c' hs (tab Y (fun i : Nat => bes2 x y u v ng i)) (x + y + (u + v) + ng) _ (hr2.1.below hB7 (Nat.le_refl _)) hR7.reads hgt2 (by omega) (by omega) (by omega)).mono ?_
              rintro e w8 ⟨Gb, cb, Xb, cxb, rfl, hC2, hb8⟩
              rw [HM2.out] at hC2
              have hz8 := hb8.size
              have hc8 := hc7.below hb8
              have hd8 := hd7.below hb8
              have hrz8 := hrz7.below hb8
              have fz8 := fz7.below hb8 hrz7.lt
              have hB8 := hB7.trans (hb8.mono hB7.size)
              have hC8 := hC1.below hb8 (.inl (Nat.le_refl _))
              clear hc7 hd7 hR7 hrz7 fz7 hB7 l0 l1 l2 l3 hC1 HM2 hb8
              have hq := hc8; obtain ⟨k0, k1, k2, k3⟩ := hq
              have hq := hd8; obtain ⟨l0, l1, l2, l3⟩ := hq
              have hl1 : (pick (mws (tab X (fun i : Nat => bes1 x y u v i)) (x + y + (u + v)) ng) os).length = no := by rw [pick_len]; exact hlo
              have hl2 : (pick (mws (tab Y (fun i : Nat => bes2 x y u v ng i)) (x + y + (u + v) + ng) mg) ps).length = mo := by rw [pick_len]; exact hlp
              have hlt7 : ∀ i, i < wq.heap.size → ¬ (Value.slice Ga ng ca).ownBlock = some i := fun i hi hc => by have := hC8.1.lt i hc; omega
              have hgb : ∀ g, (Value.slice Ga ng ca).ownBlock = some g → g < w7.heap.size := fun g hg => (hC8.1.lt g hg).2.1
              have hzw := hB8.size
              have hxa : ∀ g, (Value.slice Xa (X + ng) cxa).ownBlock = some g → ¬ okB w8 (fun b => (Value.slice Ga ng ca).ownBlock = some b) g := fun g hg ho => by
                rcases ho with ho | ho
                · have := hC8.2.1.lt g hg; omega
                · exact hC8.2.2 g ho hg
              have hxb : ∀ g, (Value.slice Xb (Y + mg) cxb).ownBlock = some g → ¬ okB w8 (fun b => (Value.slice Ga ng ca).ownBlock = some b) g := fun g hg ho => by
                have h2 := hC2.2.1.lt g hg
                rcases ho with ho | ho
                · omega
                · have := hgb g ho; omega
              have hxg : ∀ g, (Value.slice Gb mg cb).ownBlock = some g → ¬ okB w8 (fun b => (Value.slice Ga ng ca).ownBlock = some b) g := fun g hg ho => by
                have h2 := hC2.1.lt g hg
                rcases ho with ho | ho
                · omega
                · have := hgb g ho; omega
              have hnw : ∀ i, i < wq.heap.size → ¬ okB w8 (fun b => (Value.slice Ga ng ca).ownBlock = some b) i := fun i hi ho => by
                rcases ho with ho | ho
                · omega
                · exact hlt7 i hi ho
              have hro : 0 < no → ∀ b o, Ao = some ⟨b, o, none⟩ → b < w.heap.size := fun hn => hr.2.lt (Nat.le_refl _) hn
              have hrp : 0 < mo → ∀ b o, Do = some ⟨b, o, none⟩ → b < w.heap.size := fun hn => hr2.2.lt (Nat.le_refl _) hn
              have hw1 : IntKind.i64.wrap (x + u) = x + u := IntWalk.i64_in _ (by omega)
              have hw2 : IntKind.i64.wrap (y + v) = y + v := IntWalk.i64_in _ (by omega)
              cases h2 : circB (x + u) (y + v) (mvs (bes1 x y u v) gs ng ++ mvs (bes2 x y u v ng) hs mg) (mvo (bes1 x y u v) os no ++ mvo (bes2 x y u v ng) ps mo) with
              | false =>
                have HR : Hid (besideF x y gs os u v hs ps = none) := Lib.hid (besideF_3 hlg hlo hlh hlp h2)
                have H2 := Lib.hid h2; clear h2
                go_wp2_with fail
                refine wp_region_mem (26) ((fun b => (Value.slice Ga ng ca).ownBlock = some b)) [(⟨w.heap.size, 0, none⟩, .int .i64 x), (⟨w.heap.size, 1, none⟩, .int .i64 y), (⟨w.heap.size, 2, none⟩, .slice Ag ng cg), (⟨w.heap.size, 3, none⟩, .slice Ao no co), (⟨w.heap.size + 1, 0, none⟩, .int .i64 u), (⟨w.heap.size + 1, 1, none⟩, .int .i64 v), (⟨w.heap.size + 1, 2, none⟩, .slice Dg mg dg), (⟨w.heap.size + 1, 3, none⟩, .slice Do mo do_)] [(12, [100], [100]), (16, [], []), (20, [], []), (21, [16, 20], []), (23, [12, 21], [])] [100] [] [(100, Res.rowG wq.heap.size ng (mvs (bes1 x y u v) gs ng)), (12, Res.rowG wq.heap.size (ng + mg) (mvs (bes1 x y u v) gs ng ++ mvs (bes2 x y u v ng) hs mg)), (16, Res.row wq.heap.size no (mvo (bes1 x y u v) os no)), (20, Res.row wq.heap.size mo (mvo (bes2 x y u v ng) ps mo)), (21, Res.row wq.heap.size (no + mo) (mvo (bes1 x y u v) os no ++ mvo (bes2 x y u v ng) ps mo)), (23, Res.plain (.tuple #[.agg #[.int .i64 0, .int .i64 0, .slice none 0 0, .slice none 0 0], .bool false]))] ((upd (fun _ => undef) 100 (.slice Ga ng ca))) (by kernel_rfl) (by kernel_rfl) (by kernel_rfl) (by simp only [CellsL, List.mem_cons, forall_eq_or_imp, List.not_mem_nil, false_implies, implies_true, and_true]; repeat (any_goals (apply And.intro)); all_goals (first | assumption | go_simp)) (fun q9 hq9 => hlt7 q9.1.block (by revert q9; simp only [List.mem_cons, forall_eq_or_imp, List.not_mem_nil, false_implies, implies_true, and_true]; omega)) (⟨⟨(hC8.1.now).lo_ (Nat.le_refl _), fun b hb => ⟨.inr hb, (hC8.1.lt b hb).2.2⟩⟩, trivial⟩) (fun d hd d' hd' hn => by simp at hd hd'; omega) ?_
                simp only [List.take_succ_cons, List.take_zero, List.drop_succ_cons, List.drop_zero, List.take_nil, List.drop_nil, List.take, List.drop]
                repeat (first
                  | ((with_reducible refine mem_pure0 ?_ ?_ ?_)
                     · exact rfl
                     · exact rfl
                     intro K hK
                     apply Exists.intro
                     refine ⟨fun w3 hw3 => ?_, ?_⟩
                     · have hcs := hw3
                       simp only [CellsL, List.mem_cons, forall_eq_or_imp, List.not_mem_nil, false_implies, implies_true, and_true] at hcs
                       clear hw3
                       go_simp
                       first | done | exact ⟨rfl, rfl⟩ | rfl
                     refine hK _ ?_
                     clear hK K
                     try simp only [Act.put, List.setIfInBounds_toArray, List.set_cons_zero, List.set_cons_succ])
                  | ((with_reducible refine mem_skip ?_ ?_ ?_)
                     · exact rfl
                     · exact wanted_not rfl rfl rfl rfl
                     simp only [Act.put, List.setIfInBounds_toArray, List.set_cons_zero, List.set_cons_succ])
                  | ((with_reducible refine mem_pure ?_ ?_ ?_)
                     · exact rfl
                     · exact wanted_some rfl rfl rfl rfl
                     intro K hK
                     apply Exists.intro
                     refine ⟨fun w3 hw3 => ?_, ?_⟩
                     · have hcs := hw3
                       simp only [CellsL, List.mem_cons, forall_eq_or_imp, List.not_mem_nil, false_implies, implies_true, and_true] at hcs
                       clear hw3
                       go_simp
                       first | done | exact ⟨rfl, rfl⟩ | rfl
                     refine hK _ ?_
                     clear hK K
                     try simp only [Act.put, List.setIfInBounds_toArray, List.set_cons_zero, List.set_cons_succ]))
                refine mem_appG 100 wq.heap.size ng mg (mvs (bes1 x y u v) gs ng) (mvs (bes2 x y u v ng) hs mg) Ga ca Gb cb (.tmp 106) (.tmp 107) (by rfl) (by rfl) (by omega) (by rfl) (by rfl) (by decide) (by rfl) (by rfl) (by rfl) (by rfl) (by omega) (fun w3 hw3 hc3 hp3 => hC2.1.reads.alt hw3 (fun hn b o hA => hxg b (by obtain ⟨g, hg, _⟩ := hC2.1.some_ hn; rw [hA] at hg; injection hg with hg; injection hg with h1 h2; subst h1; subst h2; rw [hA]; rfl))) (fun A2 c2 => ?_)
                try simp only [Act.put, List.setIfInBounds_toArray, List.set_cons_zero, List.set_cons_succ]
                repeat (first
                  | ((with_reducible refine mem_pure0 ?_ ?_ ?_)
                     · exact rfl
                     · exact rfl
                     intro K hK
                     apply Exists.intro
                     refine ⟨fun w3 hw3 => ?_, ?_⟩
                     · have hcs := hw3
                       simp only [CellsL, List.mem_cons, forall_eq_or_imp, List.not_mem_nil, false_implies, implies_true, and_true] at hcs
                       clear hw3
                       go_simp
                       first | done | exact ⟨rfl, rfl⟩ | rfl
                     refine hK _ ?_
                     clear hK K
                     try simp only [Act.put, List.setIfInBounds_toArray, List.set_cons_zero, List.set_cons_succ])
                  | ((with_reducible refine mem_skip ?_ ?_ ?_)
                     · exact rfl
                     · exact wanted_not rfl rfl rfl rfl
                     simp only [Act.put, List.setIfInBounds_toArray, List.set_cons_zero, List.set_cons_succ])
                  | ((with_reducible refine mem_pure ?_ ?_ ?_)
                     · exact rfl
                     · exact wanted_some rfl rfl rfl rfl
                     intro K hK
                     apply Exists.intro
                     refine ⟨fun w3 hw3 => ?_, ?_⟩
                     · have hcs := hw3
                       simp only [CellsL, List.mem_cons, forall_eq_or_imp, List.not_mem_nil, false_implies, implies_true, and_true] at hcs
                       clear hw3
                       go_simp
                       first | done | exact ⟨rfl, rfl⟩ | rfl
                     refine hK _ ?_
                     clear hK K
                     try simp only [Act.put, List.setIfInBounds_toArray, List.set_cons_zero, List.set_cons_succ]))
                focus
                  (with_reducible refine mem_row wq.heap.size no (mvo (bes1 x y u v) os no) ?_ ?_ ?_ ?_ ?_ (hw := ?_))
                  · exact rfl
                  · exact rfl
                  · omega
                  · intro w3 hw3 hc3 hp3
                    have hcs := hc3
                    simp only [CellsL, List.mem_cons, forall_eq_or_imp, List.not_mem_nil, false_implies, implies_true, and_true] at hcs
                    (have hxr := (hC8.2.1.alt hw3 hxa).reads; have hor := hr.2.below (hB8.trans (hw3.below_ (B := w.heap.size) (by omega) (fun i hi => hnw i (by omega)))) (Nat.le_refl _); go_simp; refine (ciPick_any Xa Ao (X + ng) cxa no co _ os _ hxr hor (by omega) (by omega) hao1).mono ?_; rintro e w4 hT; obtain ⟨A3, c3, rfl, ho4, hb4⟩ := hT.open_ hl1; rw [HP1.out] at ho4; exact retPost.mk_ (postRow.mk_ ho4 hb4))
                  rotate_left
                  · first | exact wanted_none rfl | exact wanted_some rfl rfl rfl rfl
                  intro A3 c3
                  try simp only [Act.put, List.setIfInBounds_toArray, List.set_cons_zero, List.set_cons_succ]
                repeat (first
                  | ((with_reducible refine mem_pure0 ?_ ?_ ?_)
                     · exact rfl
                     · exact rfl
                     intro K hK
                     apply Exists.intro
                     refine ⟨fun w3 hw3 => ?_, ?_⟩
                     · have hcs := hw3
                       simp only [CellsL, List.mem_cons, forall_eq_or_imp, List.not_mem_nil, false_implies, implies_true, and_true] at hcs
                       clear hw3
                       go_simp
                       first | done | exact ⟨rfl, rfl⟩ | rfl
                     refine hK _ ?_
                     clear hK K
                     try simp only [Act.put, List.setIfInBounds_toArray, List.set_cons_zero, List.set_cons_succ])
                  | ((with_reducible refine mem_skip ?_ ?_ ?_)
                     · exact rfl
                     · exact wanted_not rfl rfl rfl rfl
                     simp only [Act.put, List.setIfInBounds_toArray, List.set_cons_zero, List.set_cons_succ])
                  | ((with_reducible refine mem_pure ?_ ?_ ?_)
                     · exact rfl
                     · exact wanted_some rfl rfl rfl rfl
                     intro K hK
                     apply Exists.intro
                     refine ⟨fun w3 hw3 => ?_, ?_⟩
                     · have hcs := hw3
                       simp only [CellsL, List.mem_cons, forall_eq_or_imp, List.not_mem_nil, false_implies, implies_true, and_true] at hcs
                       clear hw3
                       go_simp
                       first | done | exact ⟨rfl, rfl⟩ | rfl
                     refine hK _ ?_
                     clear hK K
                     try simp only [Act.put, List.setIfInBounds_toArray, List.set_cons_zero, List.set_cons_succ]))
                focus
                  (with_reducible refine mem_row wq.heap.size mo (mvo (bes2 x y u v ng) ps mo) ?_ ?_ ?_ ?_ ?_ (hw := ?_))
                  · exact rfl
                  · exact rfl
                  · omega
                  · intro w3 hw3 hc3 hp3
                    have hcs := hc3
                    simp only [CellsL, List.mem_cons, forall_eq_or_imp, List.not_mem_nil, false_implies, implies_true, and_true] at hcs
                    (have hxr := (hC2.2.1.alt hw3 hxb).reads; have hor := hr2.2.below (hB8.trans (hw3.below_ (B := w.heap.size) (by omega) (fun i hi => hnw i (by omega)))) (Nat.le_refl _); go_simp; refine (ciPick_any Xb Do (Y + mg) cxb mo do_ _ ps _ hxr hor (by omega) (by omega) hao2).mono ?_; rintro e w4 hT; obtain ⟨A4, c4, rfl, ho4, hb4⟩ := hT.open_ hl2; rw [HP2.out] at ho4; exact retPost.mk_ (postRow.mk_ ho4 hb4))
                  rotate_left
                  · first | exact wanted_none rfl | exact wanted_some rfl rfl rfl rfl
                  intro A4 c4
                  try simp only [Act.put, List.setIfInBounds_toArray, List.set_cons_zero, List.set_cons_succ]
                repeat (first
                  | ((with_reducible refine mem_pure0 ?_ ?_ ?_)
                     · exact rfl
                     · exact rfl
                     intro K hK
                     apply Exists.intro
                     refine ⟨fun w3 hw3 => ?_, ?_⟩
                     · have hcs := hw3
                       simp only [CellsL, List.mem_cons, forall_eq_or_imp, List.not_mem_nil, false_implies, implies_true, and_true] at hcs
                       clear hw3
                       go_simp
                       first | done | exact ⟨rfl, rfl⟩ | rfl
                     refine hK _ ?_
                     clear hK K
                     try simp only [Act.put, List.setIfInBounds_toArray, List.set_cons_zero, List.set_cons_succ])
                  | ((with_reducible refine mem_skip ?_ ?_ ?_)
                     · exact rfl
                     · exact wanted_not rfl rfl rfl rfl
                     simp only [Act.put, List.setIfInBounds_toArray, List.set_cons_zero, List.set_cons_succ])
                  | ((with_reducible refine mem_pure ?_ ?_ ?_)
                     · exact rfl
                     · exact wanted_some rfl rfl rfl rfl
                     intro K hK
                     apply Exists.intro
                     refine ⟨fun w3 hw3 => ?_, ?_⟩
                     · have hcs := hw3
                       simp only [CellsL, List.mem_cons, forall_eq_or_imp, List.not_mem_nil, false_implies, implies_true, and_true] at hcs
                       clear hw3
                       go_simp
                       first | done | exact ⟨rfl, rfl⟩ | rfl
                     refine hK _ ?_
                     clear hK K
                     try simp only [Act.put, List.setIfInBounds_toArray, List.set_cons_zero, List.set_cons_succ]))
                focus
                  (with_reducible refine mem_row wq.heap.size (no + mo) (mvo (bes1 x y u v) os no ++ mvo (bes2 x y u v ng) ps mo) ?_ ?_ ?_ ?_ ?_ (hw := ?_))
                  · exact rfl
                  · exact rfl
                  · omega
                  · intro w3 hw3 hc3 hp3
                    have hcs := hc3
                    simp only [CellsL, List.mem_cons, forall_eq_or_imp, List.not_mem_nil, false_implies, implies_true, and_true] at hcs
                    (have h16 : Own w3 wq.heap.size w3.heap.size (.slice A3 no c3) no (mvo (bes1 x y u v) os no) := hp3.1.1.1; have h20 : Own w3 wq.heap.size w3.heap.size (.slice A4 mo c4) mo (mvo (bes2 x y u v ng) ps mo) := hp3.1.2.1.1; go_simp; refine (ciJoin_any A3 A4 no c3 mo c4 _ _ _ h16.reads h20.reads (by omega) (by omega)).mono ?_; rintro e w4 ⟨A5, c5, rfl, ho4, hb4⟩; exact retPost.mk_ (postRow.mk_ ho4 hb4))
                  rotate_left
                  · first | exact wanted_none rfl | exact wanted_some rfl rfl rfl rfl
                  intro A5 c5
                  try simp only [Act.put, List.setIfInBounds_toArray, List.set_cons_zero, List.set_cons_succ]
                repeat (first
                  | ((with_reducible refine mem_pure0 ?_ ?_ ?_)
                     · exact rfl
                     · exact rfl
                     intro K hK
                     apply Exists.intro
                     refine ⟨fun w3 hw3 => ?_, ?_⟩
                     · have hcs := hw3
                       simp only [CellsL, List.mem_cons, forall_eq_or_imp, List.not_mem_nil, false_implies, implies_true, and_true] at hcs
                       clear hw3
                       go_simp
                       first | done | exact ⟨rfl, rfl⟩ | rfl
                     refine hK _ ?_
                     clear hK K
                     try simp only [Act.put, List.setIfInBounds_toArray, List.set_cons_zero, List.set_cons_succ])
                  | ((with_reducible refine mem_skip ?_ ?_ ?_)
                     · exact rfl
                     · exact wanted_not rfl rfl rfl rfl
                     simp only [Act.put, List.setIfInBounds_toArray, List.set_cons_zero, List.set_cons_succ])
                  | ((with_reducible refine mem_pure ?_ ?_ ?_)
                     · exact rfl
                     · exact wanted_some rfl rfl rfl rfl
                     intro K hK
                     apply Exists.intro
                     refine ⟨fun w3 hw3 => ?_, ?_⟩
                     · have hcs := hw3
                       simp only [CellsL, List.mem_cons, forall_eq_or_imp, List.not_mem_nil, false_implies, implies_true, and_true] at hcs
                       clear hw3
                       go_simp
                       first | done | exact ⟨rfl, rfl⟩ | rfl
                     refine hK _ ?_
                     clear hK K
                     try simp only [Act.put, List.setIfInBounds_toArray, List.set_cons_zero, List.set_cons_succ]))
                focus
                  (with_reducible refine mem_plain (.tuple #[.agg #[.int .i64 0, .int .i64 0, .slice none 0 0, .slice none 0 0], .bool false]) ?_ ?_ ?_ ?_ (hw := ?_))
                  · exact rfl
                  · exact rfl
                  · intro w3 hw3 hc3 hp3
                    have hcs := hc3
                    simp only [CellsL, List.mem_cons, forall_eq_or_imp, List.not_mem_nil, false_implies, implies_true, and_true] at hcs
                    (have h12 := (has_dep (by decide) hp3 (d := 12) rfl rfl).1; have h21 := (has_dep (by decide) hp3 (d := 21) rfl rfl).1; have h12' : OwnG w3 wq.heap.size w3.heap.size (.slice A2 (ng + mg) c2) (ng + mg) (mvs (bes1 x y u v) gs ng ++ mvs (bes2 x y u v ng) hs mg) := h12; have h21' : Own w3 wq.heap.size w3.heap.size (.slice A5 (no + mo) c5) (no + mo) (mvo (bes1 x y u v) os no ++ mvo (bes2 x y u v ng) ps mo) := h21; go_simp; refine (ciIf_f (x + u) (y + v) A2 (ng + mg) c2 A5 (no + mo) c5 (mvs (bes1 x y u v) gs ng ++ mvs (bes2 x y u v ng) hs mg) (mvo (bes1 x y u v) os no ++ mvo (bes2 x y u v ng) ps mo) _ h12'.reads h21'.reads (by omega) (by omega) H2.out).mono ?_; rintro e w4 ⟨rfl, hb4⟩; exact retPost.mk_ (postPlain.mk_ hb4))
                  rotate_left
                  · first | exact wanted_none rfl | exact wanted_some rfl rfl rfl rfl
                  try simp only [Act.put, List.setIfInBounds_toArray, List.set_cons_zero, List.set_cons_succ]
                repeat (first
                  | ((with_reducible refine mem_pure0 ?_ ?_ ?_)
                     · exact rfl
                     · exact rfl
                     intro K hK
                     apply Exists.intro
                     refine ⟨fun w3 hw3 => ?_, ?_⟩
                     · have hcs := hw3
                       simp only [CellsL, List.mem_cons, forall_eq_or_imp, List.not_mem_nil, false_implies, implies_true, and_true] at hcs
                       clear hw3
                       go_simp
                       first | done | exact ⟨rfl, rfl⟩ | rfl
                     refine hK _ ?_
                     clear hK K
                     try simp only [Act.put, List.setIfInBounds_toArray, List.set_cons_zero, List.set_cons_succ])
                  | ((with_reducible refine mem_skip ?_ ?_ ?_)
                     · exact rfl
                     · exact wanted_not rfl rfl rfl rfl
                     simp only [Act.put, List.setIfInBounds_toArray, List.set_cons_zero, List.set_cons_succ])
                  | ((with_reducible refine mem_pure ?_ ?_ ?_)
                     · exact rfl
                     · exact wanted_some rfl rfl rfl rfl
                     intro K hK
                     apply Exists.intro
                     refine ⟨fun w3 hw3 => ?_, ?_⟩
                     · have hcs := hw3
                       simp only [CellsL, List.mem_cons, forall_eq_or_imp, List.not_mem_nil, false_implies, implies_true, and_true] at hcs
                       clear hw3
                       go_simp
                       first | done | exact ⟨rfl, rfl⟩ | rfl
                     refine hK _ ?_
                     clear hK K
                     try simp only [Act.put, List.setIfInBounds_toArray, List.set_cons_zero, List.set_cons_succ]))
                refine wpSep_end ?_
                intro wt hwt hct hfin hap
                have hrz9 := hrz8.alt hwt (hnw _ (by omega))
                have fz9 := fz8.alt hwt hrz8.lt (hnw _ (by omega))
                have hB9 := hB8.trans (hwt.below_ (B := w.heap.size) (by omega) (fun i hi => hnw i (by omega)))
                have hq := hrz9; obtain ⟨r0, r1, r2, r3⟩ := hq
                have j0 := fz9 0; have j1 := fz9 1; have j2 := fz9 2; have j3 := fz9 3
                go_wp2
                have hq9 := BxC.set4 (hrz9) 0 0 none 0 0 none 0 0
                obtain ⟨q0, q1, q2, q3⟩ := hq9
                refine bodyPost_ret (v := .tuple #[.agg #[.int .i64 0, .int .i64 0, .slice none 0 0, .slice none 0 0], .bool false]) (by simp [results, Try.results7, go_sem, q0, q1, q2, q3]) rfl ?_
                exact RetC.none_ (below_set4 hB9 (by omega) _ _ _ _ _ _ _ _) HR.out rfl
              | true =>
                have HR : Hid (besideF x y gs os u v hs ps = some ⟨x + u, y + v, (mvs (bes1 x y u v) gs ng ++ mvs (bes2 x y u v ng) hs mg), (mvo (bes1 x y u v) os no ++ mvo (bes2 x y u v ng) ps mo)⟩) := Lib.hid (besideF_t hlg hlo hlh hlp H0.out H1.out h2)
                have H2 := Lib.hid h2; clear h2
                go_wp2_with fail
                refine wp_region_mem (26) ((fun b => (Value.slice Ga ng ca).ownBlock = some b)) [(⟨w.heap.size, 0, none⟩, .int .i64 x), (⟨w.heap.size, 1, none⟩, .int .i64 y), (⟨w.heap.size, 2, none⟩, .slice Ag ng cg), (⟨w.heap.size, 3, none⟩, .slice Ao no co), (⟨w.heap.size + 1, 0, none⟩, .int .i64 u), (⟨w.heap.size + 1, 1, none⟩, .int .i64 v), (⟨w.heap.size + 1, 2, none⟩, .slice Dg mg dg), (⟨w.heap.size + 1, 3, none⟩, .slice Do mo do_)] [(12, [100], [100]), (16, [], []), (20, [], []), (21, [16, 20], []), (23, [12, 21], [12, 21])] [100] [23] [(100, Res.rowG wq.heap.size ng (mvs (bes1 x y u v) gs ng)), (12, Res.rowG wq.heap.size (ng + mg) (mvs (bes1 x y u v) gs ng ++ mvs (bes2 x y u v ng) hs mg)), (16, Res.row wq.heap.size no (mvo (bes1 x y u v) os no)), (20, Res.row wq.heap.size mo (mvo (bes2 x y u v ng) ps mo)), (21, Res.row wq.heap.size (no + mo) (mvo (bes1 x y u v) os no ++ mvo (bes2 x y u v ng) ps mo)), (23, Res.circ wq.heap.size (x + u) (y + v) (ng + mg) (no + mo) (mvs (bes1 x y u v) gs ng ++ mvs (bes2 x y u v ng) hs mg) (mvo (bes1 x y u v) os no ++ mvo (bes2 x y u v ng) ps mo) true)] ((upd (fun _ => undef) 100 (.slice Ga ng ca))) (by kernel_rfl) (by kernel_rfl) (by kernel_rfl) (by simp only [CellsL, List.mem_cons, forall_eq_or_imp, List.not_mem_nil, false_implies, implies_true, and_true]; repeat (any_goals (apply And.intro)); all_goals (first | assumption | go_simp)) (fun q9 hq9 => hlt7 q9.1.block (by revert q9; simp only [List.mem_cons, forall_eq_or_imp, List.not_mem_nil, false_implies, implies_true, and_true]; omega)) (⟨⟨(hC8.1.now).lo_ (Nat.le_refl _), fun b hb => ⟨.inr hb, (hC8.1.lt b hb).2.2⟩⟩, trivial⟩) (fun d hd d' hd' hn => by simp at hd hd'; omega) ?_
                simp only [List.take_succ_cons, List.take_zero, List.drop_succ_cons, List.drop_zero, List.take_nil, List.drop_nil, List.take, List.drop]
                repeat (first
                  | ((with_reducible refine mem_pure0 ?_ ?_ ?_)
                     · exact rfl
                     · exact rfl
                     intro K hK
                     apply Exists.intro
                     refine ⟨fun w3 hw3 => ?_, ?_⟩
                     · have hcs := hw3
                       simp only [CellsL, List.mem_cons, forall_eq_or_imp, List.not_mem_nil, false_implies, implies_true, and_true] at hcs
                       clear hw3
                       go_simp
                       first | done | exact ⟨rfl, rfl⟩ | rfl
                     refine hK _ ?_
                     clear hK K
                     try simp only [Act.put, List.setIfInBounds_toArray, List.set_cons_zero, List.set_cons_succ])
                  | ((with_reducible refine mem_skip ?_ ?_ ?_)
                     · exact rfl
                     · exact wanted_not rfl rfl rfl rfl
                     simp only [Act.put, List.setIfInBounds_toArray, List.set_cons_zero, List.set_cons_succ])
                  | ((with_reducible refine mem_pure ?_ ?_ ?_)
                     · exact rfl
                     · exact wanted_some rfl rfl rfl rfl
                     intro K hK
                     apply Exists.intro
                     refine ⟨fun w3 hw3 => ?_, ?_⟩
                     · have hcs := hw3
                       simp only [CellsL, List.mem_cons, forall_eq_or_imp, List.not_mem_nil, false_implies, implies_true, and_true] at hcs
                       clear hw3
                       go_simp
                       first | done | exact ⟨rfl, rfl⟩ | rfl
                     refine hK _ ?_
                     clear hK K
                     try simp only [Act.put, List.setIfInBounds_toArray, List.set_cons_zero, List.set_cons_succ]))
                refine mem_appG 100 wq.heap.size ng mg (mvs (bes1 x y u v) gs ng) (mvs (bes2 x y u v ng) hs mg) Ga ca Gb cb (.tmp 106) (.tmp 107) (by rfl) (by rfl) (by omega) (by rfl) (by rfl) (by decide) (by rfl) (by rfl) (by rfl) (by rfl) (by omega) (fun w3 hw3 hc3 hp3 => hC2.1.reads.alt hw3 (fun hn b o hA => hxg b (by obtain ⟨g, hg, _⟩ := hC2.1.some_ hn; rw [hA] at hg; injection hg with hg; injection hg with h1 h2; subst h1; subst h2; rw [hA]; rfl))) (fun A2 c2 => ?_)
                try simp only [Act.put, List.setIfInBounds_toArray, List.set_cons_zero, List.set_cons_succ]
                repeat (first
                  | ((with_reducible refine mem_pure0 ?_ ?_ ?_)
                     · exact rfl
                     · exact rfl
                     intro K hK
                     apply Exists.intro
                     refine ⟨fun w3 hw3 => ?_, ?_⟩
                     · have hcs := hw3
                       simp only [CellsL, List.mem_cons, forall_eq_or_imp, List.not_mem_nil, false_implies, implies_true, and_true] at hcs
                       clear hw3
                       go_simp
                       first | done | exact ⟨rfl, rfl⟩ | rfl
                     refine hK _ ?_
                     clear hK K
                     try simp only [Act.put, List.setIfInBounds_toArray, List.set_cons_zero, List.set_cons_succ])
                  | ((with_reducible refine mem_skip ?_ ?_ ?_)
                     · exact rfl
                     · exact wanted_not rfl rfl rfl rfl
                     simp only [Act.put, List.setIfInBounds_toArray, List.set_cons_zero, List.set_cons_succ])
                  | ((with_reducible refine mem_pure ?_ ?_ ?_)
                     · exact rfl
                     · exact wanted_some rfl rfl rfl rfl
                     intro K hK
                     apply Exists.intro
                     refine ⟨fun w3 hw3 => ?_, ?_⟩
                     · have hcs := hw3
                       simp only [CellsL, List.mem_cons, forall_eq_or_imp, List.not_mem_nil, false_implies, implies_true, and_true] at hcs
                       clear hw3
                       go_simp
                       first | done | exact ⟨rfl, rfl⟩ | rfl
                     refine hK _ ?_
                     clear hK K
                     try simp only [Act.put, List.setIfInBounds_toArray, List.set_cons_zero, List.set_cons_succ]))
                focus
                  (with_reducible refine mem_row wq.heap.size no (mvo (bes1 x y u v) os no) ?_ ?_ ?_ ?_ ?_ (hw := ?_))
                  · exact rfl
                  · exact rfl
                  · omega
                  · intro w3 hw3 hc3 hp3
                    have hcs := hc3
                    simp only [CellsL, List.mem_cons, forall_eq_or_imp, List.not_mem_nil, false_implies, implies_true, and_true] at hcs
                    (have hxr := (hC8.2.1.alt hw3 hxa).reads; have hor := hr.2.below (hB8.trans (hw3.below_ (B := w.heap.size) (by omega) (fun i hi => hnw i (by omega)))) (Nat.le_refl _); go_simp; refine (ciPick_any Xa Ao (X + ng) cxa no co _ os _ hxr hor (by omega) (by omega) hao1).mono ?_; rintro e w4 hT; obtain ⟨A3, c3, rfl, ho4, hb4⟩ := hT.open_ hl1; rw [HP1.out] at ho4; exact retPost.mk_ (postRow.mk_ ho4 hb4))
                  rotate_left
                  · first | exact wanted_none rfl | exact wanted_some rfl rfl rfl rfl
                  intro A3 c3
                  try simp only [Act.put, List.setIfInBounds_toArray, List.set_cons_zero, List.set_cons_succ]
                repeat (first
                  | ((with_reducible refine mem_pure0 ?_ ?_ ?_)
                     · exact rfl
                     · exact rfl
                     intro K hK
                     apply Exists.intro
                     refine ⟨fun w3 hw3 => ?_, ?_⟩
                     · have hcs := hw3
                       simp only [CellsL, List.mem_cons, forall_eq_or_imp, List.not_mem_nil, false_implies, implies_true, and_true] at hcs
                       clear hw3
                       go_simp
                       first | done | exact ⟨rfl, rfl⟩ | rfl
                     refine hK _ ?_
                     clear hK K
                     try simp only [Act.put, List.setIfInBounds_toArray, List.set_cons_zero, List.set_cons_succ])
                  | ((with_reducible refine mem_skip ?_ ?_ ?_)
                     · exact rfl
                     · exact wanted_not rfl rfl rfl rfl
                     simp only [Act.put, List.setIfInBounds_toArray, List.set_cons_zero, List.set_cons_succ])
                  | ((with_reducible refine mem_pure ?_ ?_ ?_)
                     · exact rfl
                     · exact wanted_some rfl rfl rfl rfl
                     intro K hK
                     apply Exists.intro
                     refine ⟨fun w3 hw3 => ?_, ?_⟩
                     · have hcs := hw3
                       simp only [CellsL, List.mem_cons, forall_eq_or_imp, List.not_mem_nil, false_implies, implies_true, and_true] at hcs
                       clear hw3
                       go_simp
                       first | done | exact ⟨rfl, rfl⟩ | rfl
                     refine hK _ ?_
                     clear hK K
                     try simp only [Act.put, List.setIfInBounds_toArray, List.set_cons_zero, List.set_cons_succ]))
                focus
                  (with_reducible refine mem_row wq.heap.size mo (mvo (bes2 x y u v ng) ps mo) ?_ ?_ ?_ ?_ ?_ (hw := ?_))
                  · exact rfl
                  · exact rfl
                  · omega
                  · intro w3 hw3 hc3 hp3
                    have hcs := hc3
                    simp only [CellsL, List.mem_cons, forall_eq_or_imp, List.not_mem_nil, false_implies, implies_true, and_true] at hcs
                    (have hxr := (hC2.2.1.alt hw3 hxb).reads; have hor := hr2.2.below (hB8.trans (hw3.below_ (B := w.heap.size) (by omega) (fun i hi => hnw i (by omega)))) (Nat.le_refl _); go_simp; refine (ciPick_any Xb Do (Y + mg) cxb mo do_ _ ps _ hxr hor (by omega) (by omega) hao2).mono ?_; rintro e w4 hT; obtain ⟨A4, c4, rfl, ho4, hb4⟩ := hT.open_ hl2; rw [HP2.out] at ho4; exact retPost.mk_ (postRow.mk_ ho4 hb4))
                  rotate_left
                  · first | exact wanted_none rfl | exact wanted_some rfl rfl rfl rfl
                  intro A4 c4
                  try simp only [Act.put, List.setIfInBounds_toArray, List.set_cons_zero, List.set_cons_succ]
                repeat (first
                  | ((with_reducible refine mem_pure0 ?_ ?_ ?_)
                     · exact rfl
                     · exact rfl
                     intro K hK
                     apply Exists.intro
                     refine ⟨fun w3 hw3 => ?_, ?_⟩
                     · have hcs := hw3
                       simp only [CellsL, List.mem_cons, forall_eq_or_imp, List.not_mem_nil, false_implies, implies_true, and_true] at hcs
                       clear hw3
                       go_simp
                       first | done | exact ⟨rfl, rfl⟩ | rfl
                     refine hK _ ?_
                     clear hK K
                     try simp only [Act.put, List.setIfInBounds_toArray, List.set_cons_zero, List.set_cons_succ])
                  | ((with_reducible refine mem_skip ?_ ?_ ?_)
                     · exact rfl
                     · exact wanted_not rfl rfl rfl rfl
                     simp only [Act.put, List.setIfInBounds_toArray, List.set_cons_zero, List.set_cons_succ])
                  | ((with_reducible refine mem_pure ?_ ?_ ?_)
                     · exact rfl
                     · exact wanted_some rfl rfl rfl rfl
                     intro K hK
                     apply Exists.intro
                     refine ⟨fun w3 hw3 => ?_, ?_⟩
                     · have hcs := hw3
                       simp only [CellsL, List.mem_cons, forall_eq_or_imp, List.not_mem_nil, false_implies, implies_true, and_true] at hcs
                       clear hw3
                       go_simp
                       first | done | exact ⟨rfl, rfl⟩ | rfl
                     refine hK _ ?_
                     clear hK K
                     try simp only [Act.put, List.setIfInBounds_toArray, List.set_cons_zero, List.set_cons_succ]))
                focus
                  (with_reducible refine mem_row wq.heap.size (no + mo) (mvo (bes1 x y u v) os no ++ mvo (bes2 x y u v ng) ps mo) ?_ ?_ ?_ ?_ ?_ (hw := ?_))
                  · exact rfl
                  · exact rfl
                  · omega
                  · intro w3 hw3 hc3 hp3
                    have hcs := hc3
                    simp only [CellsL, List.mem_cons, forall_eq_or_imp, List.not_mem_nil, false_implies, implies_true, and_true] at hcs
                    (have h16 : Own w3 wq.heap.size w3.heap.size (.slice A3 no c3) no (mvo (bes1 x y u v) os no) := hp3.1.1.1; have h20 : Own w3 wq.heap.size w3.heap.size (.slice A4 mo c4) mo (mvo (bes2 x y u v ng) ps mo) := hp3.1.2.1.1; go_simp; refine (ciJoin_any A3 A4 no c3 mo c4 _ _ _ h16.reads h20.reads (by omega) (by omega)).mono ?_; rintro e w4 ⟨A5, c5, rfl, ho4, hb4⟩; exact retPost.mk_ (postRow.mk_ ho4 hb4))
                  rotate_left
                  · first | exact wanted_none rfl | exact wanted_some rfl rfl rfl rfl
                  intro A5 c5
                  try simp only [Act.put, List.setIfInBounds_toArray, List.set_cons_zero, List.set_cons_succ]
                repeat (first
                  | ((with_reducible refine mem_pure0 ?_ ?_ ?_)
                     · exact rfl
                     · exact rfl
                     intro K hK
                     apply Exists.intro
                     refine ⟨fun w3 hw3 => ?_, ?_⟩
                     · have hcs := hw3
                       simp only [CellsL, List.mem_cons, forall_eq_or_imp, List.not_mem_nil, false_implies, implies_true, and_true] at hcs
                       clear hw3
                       go_simp
                       first | done | exact ⟨rfl, rfl⟩ | rfl
                     refine hK _ ?_
                     clear hK K
                     try simp only [Act.put, List.setIfInBounds_toArray, List.set_cons_zero, List.set_cons_succ])
                  | ((with_reducible refine mem_skip ?_ ?_ ?_)
                     · exact rfl
                     · exact wanted_not rfl rfl rfl rfl
                     simp only [Act.put, List.setIfInBounds_toArray, List.set_cons_zero, List.set_cons_succ])
                  | ((with_reducible refine mem_pure ?_ ?_ ?_)
                     · exact rfl
                     · exact wanted_some rfl rfl rfl rfl
                     intro K hK
                     apply Exists.intro
                     refine ⟨fun w3 hw3 => ?_, ?_⟩
                     · have hcs := hw3
                       simp only [CellsL, List.mem_cons, forall_eq_or_imp, List.not_mem_nil, false_implies, implies_true, and_true] at hcs
                       clear hw3
                       go_simp
                       first | done | exact ⟨rfl, rfl⟩ | rfl
                     refine hK _ ?_
                     clear hK K
                     try simp only [Act.put, List.setIfInBounds_toArray, List.set_cons_zero, List.set_cons_succ]))
                refine mem_circ 12 21 wq.heap.size (x + u) (y + v) (ng + mg) (no + mo) (mvs (bes1 x y u v) gs ng ++ mvs (bes2 x y u v ng) hs mg) (mvo (bes1 x y u v) os no ++ mvo (bes2 x y u v ng) ps mo) true A2 c2 A5 c5 (by rfl) (by rfl) (by rfl) (by rfl) (by rfl) (by decide) (by decide) (by decide) (by rfl) (by rfl) (fun w3 hw3 hc3 hp3 hO3 => ?_) (fun A9 c9 O9 d9 => ?_)
                · go_simp
                  refine (ciIf_t (x + u) (y + v) A2 (ng + mg) c2 A5 (no + mo) c5 (mvs (bes1 x y u v) gs ng ++ mvs (bes2 x y u v ng) hs mg) (mvo (bes1 x y u v) os no ++ mvo (bes2 x y u v ng) ps mo) _ hO3.reads.1 hO3.reads.2 (by omega) (by omega) H2.out).mono ?_
                  rintro e w4 ⟨rfl, hb4⟩
                  exact retPost.mk_ (postIs.mk_ hb4)
                simp only [circV, Act.put, List.setIfInBounds_toArray, List.set_cons_zero, List.set_cons_succ]
                repeat (first
                  | ((with_reducible refine mem_pure0 ?_ ?_ ?_)
                     · exact rfl
                     · exact rfl
                     intro K hK
                     apply Exists.intro
                     refine ⟨fun w3 hw3 => ?_, ?_⟩
                     · have hcs := hw3
                       simp only [CellsL, List.mem_cons, forall_eq_or_imp, List.not_mem_nil, false_implies, implies_true, and_true] at hcs
                       clear hw3
                       go_simp
                       first | done | exact ⟨rfl, rfl⟩ | rfl
                     refine hK _ ?_
                     clear hK K
                     try simp only [Act.put, List.setIfInBounds_toArray, List.set_cons_zero, List.set_cons_succ])
                  | ((with_reducible refine mem_skip ?_ ?_ ?_)
                     · exact rfl
                     · exact wanted_not rfl rfl rfl rfl
                     simp only [Act.put, List.setIfInBounds_toArray, List.set_cons_zero, List.set_cons_succ])
                  | ((with_reducible refine mem_pure ?_ ?_ ?_)
                     · exact rfl
                     · exact wanted_some rfl rfl rfl rfl
                     intro K hK
                     apply Exists.intro
                     refine ⟨fun w3 hw3 => ?_, ?_⟩
                     · have hcs := hw3
                       simp only [CellsL, List.mem_cons, forall_eq_or_imp, List.not_mem_nil, false_implies, implies_true, and_true] at hcs
                       clear hw3
                       go_simp
                       first | done | exact ⟨rfl, rfl⟩ | rfl
                     refine hK _ ?_
                     clear hK K
                     try simp only [Act.put, List.setIfInBounds_toArray, List.set_cons_zero, List.set_cons_succ]))
                refine wpSep_end ?_
                intro wt hwt hct hfin hap
                have hC9 : OwnC wt wq.heap.size wt.heap.size A9 (ng + mg) c9 O9 (no + mo) d9 (mvs (bes1 x y u v) gs ng ++ mvs (bes2 x y u v ng) hs mg) (mvo (bes1 x y u v) os no ++ mvo (bes2 x y u v ng) ps mo) := hfin.1.1 A9 c9 O9 d9 rfl
                clear hfin hap
                have hrz9 := hrz8.alt hwt (hnw _ (by omega))
                have fz9 := fz8.alt hwt hrz8.lt (hnw _ (by omega))
                have hB9 := hB8.trans (hwt.below_ (B := w.heap.size) (by omega) (fun i hi => hnw i (by omega)))
                have hgl := hC9.1.len
                have hol := hC9.2.1.len
                have hq := hrz9; obtain ⟨r0, r1, r2, r3⟩ := hq
                have j0 := fz9 0; have j1 := fz9 1; have j2 := fz9 2; have j3 := fz9 3
                go_wp2
                have hq9 := BxC.set4 (hrz9) (x + u) (y + v) A9 (ng + mg) c9 O9 (no + mo) d9
                obtain ⟨q0, q1, q2, q3⟩ := hq9
                refine bodyPost_ret (v := .tuple #[.agg #[.int .i64 (x + u), .int .i64 (y + v), .slice A9 (ng + mg) c9, .slice O9 (no + mo) d9], .bool true]) (by simp [results, Try.results7, go_sem, q0, q1, q2, q3]) rfl ?_
                exact RetC.some_ (below_set4 hB9 (by omega) _ _ _ _ _ _ _ _) HR.out hgl hol rfl (by rw [set4_size]; exact ((hC9.set4 (.inl (by omega)) _ _ _ _ _ _ _ _).lo_ (by omega)))

end Go.Proofs.Ytgenehiiakdadaa
