/- Whether lines are a program, the reference's; numbers that fit widths. Texts below 2^21 bytes. The contracts of coGood, coCircuit and the reference's CompileProgram. Texts below 2^21 bytes. Contracts of the laws' own words for circuits. Contracts of the laws' own words for circuits and arithmetic circuits: copying, comparing, marking, asking for marks. -/
import Derived.Test.YtjjphaiomaiilaaGreatQB35
import Derived.Test.YtjjphaiomaiilaaGreatQB13
import Derived.Test.YtjjphaiomaiilaaGreatQB40
import Derived.Test.YtjjphaiomaiilaaGreatQB38
import Derived.Test.YtjjphaiomaiilaaGreatQB02
import Derived.Test.YtjjphaiomaiilaaGreatQB01
import Derived.Test.YtjjphaiomaiilaaGreatQB04
namespace Go.Proofs.YtjjphaiomaiilaaGreat
open Go.RowKit
set_option linter.unusedVariables false
set_option linter.unusedSimpArgs false
theorem good_not {l : List Ln} (h : ¬ goodP l) : decide (goodP l) = false := decide_eq_false h
set_option maxHeartbeats 1600000 in
theorem laGood_any (A : Option Addr) (n c : Nat) (l : List Ln) (w : World) (ha : RLn w A n l) (hn : n ≤ 2097152) (hcap : n ≤ c) (hsh : ∀ x ∈ l, shortL x) :
    Calls Tryz.prog 89 #[.slice A n c] w fun e w' => e = .returned (.bool (decide (goodP l))) ∧ Below w.heap.size w w' := by
  have hl := ha.len
  by_cases h30 : (n : Int) ≤ 30
  rotate_left
  · have HG : Hid (decide (goodP l) = false) := Lib.hid (good_not fun h => by have := h.1; omega)
    go_enter Tryz.func89, Tryz.ntmps89
    go_wp2
    go_ret
    exact ⟨by rw [HG.out]; rfl, Below.refl _ _⟩
  have hwl : (wids sW l).length = n := by rw [wids_len]; exact hl
  go_enter Tryz.func89, Tryz.ntmps89
  go_wp2_with fail
  refine (laWidths_any A n c l w ha hn hcap hsh).mono ?_
  rintro e w1 hT1
  obtain ⟨A1, c1, rfl, hw1, hb1⟩ := hT1.open_ hwl
  have hr1 := hw1.reads
  clear hT1 hw1
  cases hB : allB 1 10 (wids sW l) with
  | false =>
    have HG : Hid (decide (goodP l) = false) := Lib.hid (good_not fun h => by rw [(allW_iff l).2 h.2.1] at hB; cases hB)
    have HB := Lib.hid hB
    clear hB
    go_wp2_with fail
    refine (l1All_any A1 n c1 1 10 _ _ hr1 hn).mono ?_
    rintro e w2 ⟨rfl, rfl⟩
    rw [HB.out]
    go_wp2
    go_ret
    exact ⟨by rw [HG.out]; rfl, hb1⟩
  | true =>
    have HB := Lib.hid hB
    have hW := (allW_iff l).1 hB
    clear hB
    have ha1 := ha.below hb1 (Nat.le_refl _)
    have hi : ∀ p, ∀ z ∈ insL l p, 0 ≤ z ∧ z ≤ ((1024 : Nat) : Int) := fun p z hz => by have := insL_bd hW p z hz; omega
    have hL0 := insL_len l 0
    have hL1 := insL_len l 1
    go_wp2_with fail
    refine (l1All_any A1 n c1 1 10 _ _ hr1 hn).mono ?_
    rintro e w2 ⟨rfl, rfl⟩
    rw [HB.out]
    go_wp2_with fail
    refine (laInputs_any A n c 0 l _ ha1 hn).mono ?_
    rintro e w3 hT3
    obtain ⟨A3, c3, rfl, hw3, hb3⟩ := hT3
    have hB3 := hb1.trans (hb3.mono hb1.size)
    go_wp2_with fail
    refine (laSumW_any A3 _ c3 (insL l 0) _ hw3.reads (by omega) (hi 0)).mono ?_
    rintro e w4 ⟨rfl, rfl⟩
    obtain ⟨s0, hs0⟩ : ∃ s0, Hid (sumI (insL l 0) = s0) := ⟨_, Lib.hid rfl⟩
    rw [hs0.out]
    by_cases h0 : s0 ≤ 20
    rotate_left
    · have HG : Hid (decide (goodP l) = false) := Lib.hid (good_not fun h => h0 (by rw [← hs0.out]; exact h.2.2.1))
      go_wp2
      go_ret
      exact ⟨by rw [HG.out]; rfl, hB3⟩
    have ha3 := ha.below hB3 (Nat.le_refl _)
    go_wp2_with fail
    refine (laInputs_any A n c 1 l _ ha3 hn).mono ?_
    rintro e w5 hT5
    obtain ⟨A5, c5, rfl, hw5, hb5⟩ := hT5
    have hB5 := hB3.trans (hb5.mono hB3.size)
    go_wp2_with fail
    refine (laSumW_any A5 _ c5 (insL l 1) _ hw5.reads (by omega) (hi 1)).mono ?_
    rintro e w6 ⟨rfl, rfl⟩
    obtain ⟨s1, hs1⟩ : ∃ s1, Hid (sumI (insL l 1) = s1) := ⟨_, Lib.hid rfl⟩
    rw [hs1.out]
    by_cases h1 : s1 ≤ 20
    rotate_left
    · have HG : Hid (decide (goodP l) = false) := Lib.hid (good_not fun h => h1 (by rw [← hs1.out]; exact h.2.2.2.1))
      go_wp2
      go_ret
      exact ⟨by rw [HG.out]; rfl, hB5⟩
    have ha5 := ha.below hB5 (Nat.le_refl _)
    go_wp2_with fail
    refine (laOuts_any A n c l _ ha5 hn hcap hsh).mono ?_
    rintro e w7 hT7
    obtain ⟨A7, c7, rfl, hw7, hb7⟩ := hT7.open_ (outsL_len l)
    have hB7 := hB5.trans (hb7.mono hB5.size)
    by_cases h2 : (outsC l : Int) ≤ 10
    · have HG : Hid (decide (goodP l) = true) := Lib.hid (decide_eq_true ⟨by omega, hW, by rw [hs0.out]; exact h0, by rw [hs1.out]; exact h1, by omega⟩)
      have h3 : decide ((outsC l : Int) ≤ 10) = true := decide_eq_true h2
      go_wp2
      go_ret
      exact ⟨by rw [HG.out]; rfl, hB7⟩
    · have HG : Hid (decide (goodP l) = false) := Lib.hid (good_not fun h => by have := h.2.2.2.2; omega)
      have h3 : decide ((outsC l : Int) ≤ 10) = false := decide_eq_false h2
      go_wp2
      go_ret
      exact ⟨by rw [HG.out]; rfl, hB7⟩
theorem RetCs.cc_ {w w' : World} {l : List Ln} {e : Ending} (h : RetCs w l e w') :
    ∃ B Ag cg Oa oc Ea ec Wa wc bl, e = .returned (.agg #[.pointer (some ⟨B, 0, none⟩), .slice Wa l.length wc, .slice Ea l.length ec]) ∧
    BxC w' B (sumI (insL l 0)) (sumI (insL l 1)) Ag (cc l).g.length cg Oa (cc l).os.length oc ∧ B < w'.heap.size ∧ w.heap.size ≤ B ∧
    OwnC w' w.heap.size w'.heap.size Ag (cc l).g.length cg Oa (cc l).os.length oc (cc l).g (cc l).os ∧
    Own w' w.heap.size w'.heap.size (.slice Ea l.length ec) l.length (cc l).es ∧ Wi w' w.heap.size false bl Wa wc l.length (cc l).ws ∧ Below w.heap.size w w' := h
def RetCc (w : World) (l : List Ln) (e : Ending) (w' : World) : Prop :=
  ∃ Ag cg Oa oc, e = .returned (.agg #[.int .i64 (sumI (insL l 0)), .int .i64 (sumI (insL l 1)), .slice Ag (cc l).g.length cg, .slice Oa (cc l).os.length oc]) ∧ OwnC w' w.heap.size w'.heap.size Ag (cc l).g.length cg Oa (cc l).os.length oc (cc l).g (cc l).os ∧ Below w.heap.size w w'
theorem fld0 (B n wc ec : Nat) (Wa Ea : Option Addr) : ∀ w : World, (Instr.field 66 (.agg #[.pointer (some ⟨B, 0, none⟩), .slice Wa n wc, .slice Ea n ec]) 0).run Tryz.prog w = .ok (.pointer (some ⟨B, 0, none⟩)) w := fun _ => by kernel_rfl
set_option maxRecDepth 100000 in
set_option maxHeartbeats 4000000 in
theorem coGood_any (A : Option Addr) (n c : Nat) (l : List Ln) (w : World) (ha : RLn w A n l) (hn : n ≤ 2097152) (hcap : n ≤ c) (hsh : ∀ x ∈ l, shortL x) :
    Calls Tryz.prog 42 #[.slice A n c] w fun e w' => e = .returned (.bool (coB l)) ∧ Below w.heap.size w w' := by
  by_cases hgd : goodP l
  · have HR : Hid (coB l = circB (sumI (insL l 0)) (sumI (insL l 1)) (cc l).g (cc l).os) := Lib.hid (by unfold coB; rw [decide_eq_true hgd, Bool.true_and])
    have HG : Hid (decide (goodP l) = true) := Lib.hid (decide_eq_true hgd)
    obtain ⟨hng, hno⟩ := cc_small hgd
    go_enter Tryz.func42, Tryz.ntmps42
    go_wp2_with fail
    refine (laGood_any A n c l _ ha hn hcap hsh).mono ?_
    rintro e w1 ⟨rfl, hb1⟩
    rw [HG.out]
    go_wp2_with fail
    refine (coMake_any A n c l _ (ha.below hb1 (Nat.le_refl _)) hcap hsh hgd).mono ?_
    rintro e w2 hT
    obtain ⟨B, Ag, cg, Oa, oc, Ea, ec, Wa, wc, bl, rfl, hBx, hBlt, hBlo, hC, hE, hW, hb2⟩ := RetCs.cc_ hT
    have hq := hC.reads
    obtain ⟨k0, k1, k2, k3⟩ := hBx
    have hfd := fld0 B l.length wc ec Wa Ea
    clear hT hE hW hC ha
    go_wp2_with fail
    refine (ciGood_any (sumI (insL l 0)) (sumI (insL l 1)) Ag (cc l).g.length cg Oa (cc l).os.length oc (cc l).g (cc l).os _ hq.1 hq.2 hng hno).mono ?_
    rintro e w3 ⟨rfl, hb3⟩
    go_wp2
    go_ret
    exact ⟨by rw [HR.out]; rfl, (hb1.trans (hb2.mono hb1.size)).trans (hb3.mono (hb1.trans (hb2.mono hb1.size)).size)⟩
  · have HR : Hid (coB l = false) := Lib.hid (by unfold coB; rw [decide_eq_false hgd, Bool.false_and])
    have HG : Hid (decide (goodP l) = false) := Lib.hid (decide_eq_false hgd)
    go_enter Tryz.func42, Tryz.ntmps42
    go_wp2_with fail
    refine (laGood_any A n c l _ ha hn hcap hsh).mono ?_
    rintro e w1 ⟨rfl, hb1⟩
    rw [HG.out]
    go_wp2
    go_ret
    exact ⟨by rw [HR.out]; rfl, hb1⟩
set_option maxRecDepth 100000 in
set_option maxHeartbeats 4000000 in
theorem coCircuit_any (A : Option Addr) (n c : Nat) (l : List Ln) (w : World) (ha : RLn w A n l) (hcap : n ≤ c) (hsh : ∀ x ∈ l, shortL x) (hgd : goodP l) :
    Calls Tryz.prog 44 #[.slice A n c] w (RetCc w l) := by
  have al0 : Below w.heap.size w (w.alloc (.cells #[.int .i64 0, .int .i64 0, .slice none 0 0, .slice none 0 0] 46)) := (Below.refl _ _).alloc (Nat.le_refl _) _
  have hz0 : BxC (w.alloc (.cells #[.int .i64 0, .int .i64 0, .slice none 0 0, .slice none 0 0] 46)) w.heap.size 0 0 none 0 0 none 0 0 := BxC.new _ _
  have fz0 : Fz (w.alloc (.cells #[.int .i64 0, .int .i64 0, .slice none 0 0, .slice none 0 0] 46)) w.heap.size := Fz.new w #[.int .i64 0, .int .i64 0, .slice none 0 0, .slice none 0 0] 46
  have hs0 : (w.alloc (.cells #[.int .i64 0, .int .i64 0, .slice none 0 0, .slice none 0 0] 46)).heap.size = w.heap.size + 1 := by simp
  go_enter Tryz.func44, Tryz.ntmps44
  go_wp2_with fail
  refine (coMake_any A n c l _ (ha.below al0 (Nat.le_refl _)) hcap hsh hgd).mono ?_
  rintro e w1 hT
  obtain ⟨B, Ag, cg, Oa, oc, Ea, ec, Wa, wc, bl, rfl, hBx, hBlt, hBlo, hC, hE, hW, hb1⟩ := RetCs.cc_ hT
  have hz1 := hz0.below hb1
  have fz1 := fz0.below hb1 (by rw [hs0]; omega)
  have hBt := al0.trans (hb1.mono al0.size)
  obtain ⟨k0, k1, k2, k3⟩ := hBx
  have hq := hz1; obtain ⟨r0, r1, r2, r3⟩ := hq
  have g0 := fz1 0; have g1 := fz1 1; have g2 := fz1 2; have g3 := fz1 3
  have hsz := hb1.size
  rw [hs0] at hsz hC hBlo
  have hC2 := fun (x y : Int) (Ag : Option Addr) (ng cg : Nat) (Ao : Option Addr) (no co : Nat) => OwnC.lo_ (lo' := w.heap.size) ((hC.set4 (b := w.heap.size) (.inl (by omega)) x y Ag ng cg Ao no co).now) (by omega)
  have hfd := fld0 B l.length wc ec Wa Ea
  clear hE hW fz1 fz0 hC hT
  go_wp2
  have hq9 := BxC.set4 (hz1) (sumI (insL l 0)) (sumI (insL l 1)) Ag (cc l).g.length cg Oa (cc l).os.length oc
  obtain ⟨q0, q1, q2, q3⟩ := hq9
  refine bodyPost_ret (v := .agg #[.int .i64 (sumI (insL l 0)), .int .i64 (sumI (insL l 1)), .slice Ag (cc l).g.length cg, .slice Oa (cc l).os.length oc]) (by simp [results, Tryz.results44, go_sem, q0, q1, q2, q3]) rfl ?_
  exact ⟨Ag, cg, Oa, oc, rfl, hC2 _ _ _ _ _ _ _ _, below_set4 hBt (Nat.le_refl _) _ _ _ _ _ _ _ _⟩
set_option maxRecDepth 100000 in
set_option maxHeartbeats 4000000 in
theorem spec_CompileProgram_any (A : Option Addr) (n c : Nat) (l : List Ln) (w : World) (ha : RLn w A n l) (hn : n ≤ 2097152) (hcap : n ≤ c) (hsh : ∀ x ∈ l, shortL x) :
    Calls Tryz.prog 30 #[.slice A n c] w (RetC w (compF l)) := by
  have al0 : Below w.heap.size w (w.alloc (.cells #[.int .i64 0, .int .i64 0, .slice none 0 0, .slice none 0 0] 46)) := (Below.refl _ _).alloc (Nat.le_refl _) _
  have hz0 : BxC (w.alloc (.cells #[.int .i64 0, .int .i64 0, .slice none 0 0, .slice none 0 0] 46)) w.heap.size 0 0 none 0 0 none 0 0 := BxC.new _ _
  have fz0 : Fz (w.alloc (.cells #[.int .i64 0, .int .i64 0, .slice none 0 0, .slice none 0 0] 46)) w.heap.size := Fz.new w #[.int .i64 0, .int .i64 0, .slice none 0 0, .slice none 0 0] 46
  have hs0 : (w.alloc (.cells #[.int .i64 0, .int .i64 0, .slice none 0 0, .slice none 0 0] 46)).heap.size = w.heap.size + 1 := by simp
  cases hg : coB l with
  | true =>
    have HR : Hid (compF l = some ⟨sumI (insL l 0), sumI (insL l 1), (cc l).g, (cc l).os⟩) := Lib.hid (if_pos hg)
    have H0 := Lib.hid hg
    have hgd := (coB_good hg).1
    clear hg
    go_enter Tryz.func30, Tryz.ntmps30
    go_wp2_with fail
    refine (coGood_any A n c l _ (ha.below al0 (Nat.le_refl _)) hn hcap hsh).mono ?_
    rintro e w1 ⟨rfl, hb1⟩
    rw [H0.out]
    have hB1 := al0.trans (hb1.mono al0.size)
    go_wp2_with fail
    refine (coCircuit_any A n c l _ (ha.below hB1 (Nat.le_refl _)) hcap hsh hgd).mono ?_
    rintro e w2 ⟨Ag, cg, Oa, oc, rfl, hC, hb2⟩
    have hb12 := hb1.trans (hb2.mono hb1.size)
    have hz1 := hz0.below hb12
    have fz1 := fz0.below hb12 (by rw [hs0]; omega)
    have hBt := al0.trans (hb12.mono al0.size)
    have hq := hz1; obtain ⟨r0, r1, r2, r3⟩ := hq
    have g0 := fz1 0; have g1 := fz1 1; have g2 := fz1 2; have g3 := fz1 3
    have hsz := hb1.size
    rw [hs0] at hsz
    have hC2 := fun (x y : Int) (Ag : Option Addr) (ng cg : Nat) (Ao : Option Addr) (no co : Nat) => OwnC.lo_ (lo' := w.heap.size) ((hC.set4 (b := w.heap.size) (.inl (by omega)) x y Ag ng cg Ao no co).now) (by omega)
    clear fz1 fz0 hC
    go_wp2
    have hq9 := BxC.set4 (hz1) (sumI (insL l 0)) (sumI (insL l 1)) Ag (cc l).g.length cg Oa (cc l).os.length oc
    obtain ⟨q0, q1, q2, q3⟩ := hq9
    refine bodyPost_ret (v := .tuple #[.agg #[.int .i64 (sumI (insL l 0)), .int .i64 (sumI (insL l 1)), .slice Ag (cc l).g.length cg, .slice Oa (cc l).os.length oc], .bool true]) (by simp [results, Tryz.results30, go_sem, q0, q1, q2, q3]) rfl ?_
    exact RetC.some_ (below_set4 hBt (Nat.le_refl _) _ _ _ _ _ _ _ _) HR.out rfl rfl rfl (hC2 _ _ _ _ _ _ _ _)
  | false =>
    have HR : Hid (compF l = none) := Lib.hid (if_neg (by rw [hg]; decide))
    have H0 := Lib.hid hg
    clear hg
    go_enter Tryz.func30, Tryz.ntmps30
    go_wp2_with fail
    refine (coGood_any A n c l _ (ha.below al0 (Nat.le_refl _)) hn hcap hsh).mono ?_
    rintro e w1 ⟨rfl, hb1⟩
    rw [H0.out]
    have hz1 := hz0.below hb1
    have fz1 := fz0.below hb1 (by rw [hs0]; omega)
    have hBt := al0.trans (hb1.mono al0.size)
    have hq := hz1; obtain ⟨r0, r1, r2, r3⟩ := hq
    have g0 := fz1 0; have g1 := fz1 1; have g2 := fz1 2; have g3 := fz1 3
    clear fz1 fz0
    go_wp2
    have hq9 := BxC.set4 (hz1) 0 0 none 0 0 none 0 0
    obtain ⟨q0, q1, q2, q3⟩ := hq9
    refine bodyPost_ret (v := .tuple #[.agg #[.int .i64 0, .int .i64 0, .slice none 0 0, .slice none 0 0], .bool false]) (by simp [results, Tryz.results30, go_sem, q0, q1, q2, q3]) rfl ?_
    exact RetC.none_ (below_set4 hBt (Nat.le_refl _) _ _ _ _ _ _ _ _) HR.out rfl
theorem eqGate_any (g : G3) (w : World) :
    Calls Tryz.prog 112 #[.agg #[.int .i64 g.k, .int .i64 g.a, .int .i64 g.b], .agg #[.int .i64 g.k, .int .i64 g.a, .int .i64 g.b]] w fun e w' => e = .returned (.bool true) ∧ Below w.heap.size w w' := by
  obtain ⟨gk, ga, gb⟩ := g
  have e0 : (gk != gk) = false := by simp
  have e1 : (ga != ga) = false := by simp
  have e2 : (gb != gb) = false := by simp
  have hB : Below w.heap.size w ((w.alloc (.cells #[.int .i64 gk, .int .i64 ga, .int .i64 gb] 81)).alloc (.cells #[.int .i64 gk, .int .i64 ga, .int .i64 gb] 81)) := ((Below.refl _ _).alloc (Nat.le_refl _) _).alloc (by simp) _
  go_enter Tryz.func112, Tryz.ntmps112
  go_wp2
  go_ret
  exact ⟨rfl, hB⟩
theorem eqGateS_any (A B : Option Addr) (n c d : Nat) (xs : List G3) (w : World) (ha : RG w A n xs) (hb : RG w B n xs) (hn : n ≤ 2097152) :
    Calls Tryz.prog 72 #[.slice A n c, .slice B n d] w fun e w' => e = .returned (.bool true) ∧ Below w.heap.size w w' := by
  have hne : ((n : Int) != n) = false := by simp
  go_enter Tryz.func72, Tryz.ntmps72
  go_wp2
  go_loopw [5] (fun i wr => ∃ k : Nat, k ≤ n ∧ i = .int .i64 k ∧ Below w.heap.size w wr) (fun i _ => n - (intOf i).toNat)
  case atStart => exact ⟨0, Nat.zero_le _, rfl, Below.refl _ _⟩
  case round =>
    obtain ⟨k, hk, rfl, hw⟩ := hrel
    by_cases hlt : k < n
    · obtain ⟨b, o, rfl, hbB, c1, c2, c3⟩ := (ha.below hw (Nat.le_refl _)).at_ hlt
      obtain ⟨b2, o2, rfl, hbB2, d1, d2, d3⟩ := (hb.below hw (Nat.le_refl _)).at_ hlt
      go_wp2_with fail
      refine wp_region_keep (wr.heap.size) (wr) [(⟨b, o + k * 3, none⟩, .int .i64 (gg xs k).k), (⟨b, o + k * 3 + 1, none⟩, .int .i64 (gg xs k).a), (⟨b, o + k * 3 + 2, none⟩, .int .i64 (gg xs k).b), (⟨b2, o2 + k * 3, none⟩, .int .i64 (gg xs k).k), (⟨b2, o2 + k * 3 + 1, none⟩, .int .i64 (gg xs k).a), (⟨b2, o2 + k * 3 + 2, none⟩, .int .i64 (gg xs k).b)] (by kernel_rfl) (by kernel_rfl) (by simp only [List.mem_cons, forall_eq_or_imp, List.not_mem_nil, false_implies, implies_true, and_true]; repeat (any_goals (apply And.intro)); all_goals (first | assumption | go_simp)) ?_
      repeat (first
        | go_big_quiet_skip
        | (go_big_quiet_want
           apply Exists.intro
           refine ⟨fun w3 hw3 => ?_, ?_⟩
           · have hcs := hw3.2
             simp only [List.mem_cons, forall_eq_or_imp, List.not_mem_nil, false_implies, implies_true, and_true] at hcs
             simp only [Oper.quietAt]
             go_simp
             first | done | exact ⟨rfl, rfl⟩ | rfl | (refine (eqGate_any (gg xs k) _).mono ?_; rintro e w4 ⟨rfl, hb4⟩; exact ⟨rfl, hw3.next hb4 (Nat.le_refl _)⟩)
           go_big_quiet_on
           try simp only [Act.put, List.setIfInBounds_toArray, List.set_cons_zero, List.set_cons_succ]))
      refine wpQuiet_nil ?_
      intro wq hwq
      go_wp2
      go_roundw
      case rel => exact ⟨k + 1, by omega, by go_num, hw.trans (hwq.1.mono hw.size)⟩
      case measure => simp [intOf]; omega
    · obtain rfl : n = k := by omega
      go_wp2
      go_ret
      exact ⟨rfl, hw⟩
def gmarks (q : Int) (n : Nat) : List G3 := (List.range n).map fun i : Nat => ⟨q + (i : Int) * 3, q + (i : Int) * 3 + 1, q + (i : Int) * 3 + 1 + 1⟩
theorem gmarks_len (q : Int) (n : Nat) : (gmarks q n).length = n := by simp [gmarks]
theorem gmarks_set (q : Int) (j n : Nat) (xs : List G3) (hx : xs.length = n) (h : j < n) : ((gmarks q j ++ xs.drop j).set j ⟨q + (j : Int) * 3, q + (j : Int) * 3 + 1, q + (j : Int) * 3 + 1 + 1⟩) = gmarks q (j + 1) ++ xs.drop (j + 1) := by
  rw [List.set_append_right _ _ (by simp [gmarks_len])]
  simp only [gmarks_len, Nat.sub_self]
  have hd : xs.drop j = xs[j] :: xs.drop (j + 1) := List.drop_eq_getElem_cons (by omega)
  rw [hd, List.set_cons_zero]
  simp [gmarks, List.range_succ]
theorem OwnG.stored_grown {w : World} {lo hi g n c : Nat} {xs : List G3} (h : OwnG w lo hi (.slice (some ⟨g, 0, none⟩) n c) n xs) (k : Nat) (x : G3) :
    w.grownBy (((w.setCell ⟨g, k * 3, none⟩ (.int .i64 x.k)).setCell ⟨g, k * 3 + 1, none⟩ (.int .i64 x.a)).setCell ⟨g, k * 3 + 2, none⟩ (.int .i64 x.b)) (some g) := by
  obtain ⟨h1, g1⟩ := h.1.stored (k * 3) (.int .i64 x.k)
  obtain ⟨h2, g2⟩ := h1.stored (k * 3 + 1) (.int .i64 x.a)
  obtain ⟨h3, g3⟩ := h2.stored (k * 3 + 2) (.int .i64 x.b)
  exact grownBy_trans (grownBy_trans g1 g2) g3
set_option maxHeartbeats 400000 in
theorem markGateS_c (A : Option Addr) (n c lo hi : Nat) (q : Int) (xs : List G3) (w : World) (ha : OwnG w lo hi (.slice A n c) n xs) (hn : n ≤ 2097152) (h0 : 0 ≤ q) (h1 : q ≤ 1000000000000) :
    Calls Tryz.prog 73 #[.slice A n c, .int .i64 q] w fun e w' => e = .returned (.int .i64 (q + (n : Int) * 3)) ∧ OwnG w' lo hi (.slice A n c) n (gmarks q n) ∧ w.grownBy w' (Value.slice A n c).ownBlock := by
  have hl := ha.len
  go_enter Tryz.func73, Tryz.ntmps73
  go_wp2
  go_loopw [1, 5] (fun v i wr => ∃ k : Nat, k ≤ n ∧ i = .int .i64 k ∧ v = .int .i64 (q + (k : Int) * 3) ∧ OwnG wr lo hi (.slice A n c) n (gmarks q k ++ xs.drop k) ∧ w.grownBy wr (Value.slice A n c).ownBlock) (fun _ i _ => n - (intOf i).toNat)
  case atStart => exact ⟨0, Nat.zero_le _, rfl, by simp, by simpa [gmarks] using ha, World.grownBy.refl _ _⟩
  case round =>
    clear ha
    obtain ⟨k, hk, rfl, rfl, hown, hgb⟩ := hrel
    by_cases hlt : k < n
    · obtain ⟨g, rfl, _, _, hgs⟩ := hown.some_ (by omega)
      have hs1 := hown.stored k ⟨q + (k : Int) * 3, q + (k : Int) * 3 + 1, q + (k : Int) * 3 + 1 + 1⟩ hlt
      rw [gmarks_set q k n xs hl hlt] at hs1
      have hgb2 := grownBy_trans hgb (OwnG.stored_grown hown k ⟨q + (k : Int) * 3, q + (k : Int) * 3 + 1, q + (k : Int) * 3 + 1 + 1⟩)
      obtain ⟨q0, q1, q2⟩ := gcells_at (gmarks q k ++ xs.drop k) k (by simp [gmarks_len]; omega)
      have f0 := hown.1.frozenAt (k * 3)
      have f1 := hown.1.frozenAt (k * 3 + 1)
      have f2 := hown.1.frozenAt (k * 3 + 2)
      have d0 := (hown.1.cellAt (k * 3) (by omega)).trans q0
      have d1 := (hown.1.cellAt (k * 3 + 1) (by omega)).trans q1
      have d2 := (hown.1.cellAt (k * 3 + 2) (by omega)).trans q2
      clear q0 q1 q2 hown hgb
      go_wp2
      go_roundw
      case rel => exact ⟨k + 1, by omega, by go_num, by go_num, hs1, hgb2⟩
      case measure => simp [intOf]; omega
    · obtain rfl : n = k := by omega
      rw [List.drop_of_length_le (by omega), List.append_nil] at hown
      go_wp2
      go_ret
      exact ⟨rfl, hown, hgb⟩
theorem gg_gmarks {q : Int} {n j : Nat} (h : j < n) : gg (gmarks q n) j = ⟨q + (j : Int) * 3, q + (j : Int) * 3 + 1, q + (j : Int) * 3 + 1 + 1⟩ := by simp [gg, gmarks, h]
set_option maxHeartbeats 400000 in
theorem heldGateS_b (A : Option Addr) (n c : Nat) (q : Int) (w : World) (ha : RG w A n (gmarks q n)) (hn : n ≤ 2097152) (h0 : 0 ≤ q) (h1 : q ≤ 1000000000000) :
    Calls Tryz.prog 74 #[.slice A n c, .int .i64 q] w fun e w' => e = .returned (.int .i64 (q + (n : Int) * 3)) ∧ Below w.heap.size w w' := by
  go_enter Tryz.func74, Tryz.ntmps74
  go_wp2
  go_loopw [1, 5] (fun v i wr => ∃ k j : Nat, k ≤ n ∧ i = .int .i64 k ∧ v = .int .i64 (q + (k : Int) * 3) ∧ w.drewN j = wr) (fun _ i _ => n - (intOf i).toNat)
  case atStart => exact ⟨0, 0, Nat.zero_le _, rfl, by simp, rfl⟩
  case round =>
    obtain ⟨k, j, hk, rfl, rfl, rfl⟩ := hrel
    by_cases hlt : k < n
    · obtain ⟨b, o, rfl, hbB, c1, c2, c3⟩ := ha.at_ hlt
      rw [gg_gmarks hlt] at c1 c2 c3
      have d1 : ((q + (k : Int) * 3) != (q + (k : Int) * 3)) = false := by simp
      have d2 : ((q + (k : Int) * 3 + 1) != (q + (k : Int) * 3 + 1)) = false := by simp
      have d3 : ((q + (k : Int) * 3 + 1 + 1) != (q + (k : Int) * 3 + 1 + 1)) = false := by simp
      clear ha
      go_wp2
      go_roundw
      case rel => exact ⟨k + 1, _, by omega, by go_num, by go_num, rfl⟩
      case measure => simp [intOf]; omega
    · obtain rfl : k = n := by omega
      go_wp2
      go_ret
      exact ⟨rfl, below_of_drewN _⟩
set_option maxHeartbeats 400000 in
theorem eqCircuit_any (x y : Int) (Ag : Option Addr) (ng cg : Nat) (Ao : Option Addr) (no co : Nat) (Bg : Option Addr) (dg : Nat) (Bo : Option Addr) (do_ : Nat) (gs : List G3) (os : List Int) (w : World) (hr : RG w Ag ng gs ∧ RI w Ao no os) (hr2 : RG w Bg ng gs ∧ RI w Bo no os) (hng : ng ≤ 2097152) (hno : no ≤ 2097152) :
    Calls Tryz.prog 32 #[.agg #[.int .i64 x, .int .i64 y, .slice Ag ng cg, .slice Ao no co], .agg #[.int .i64 x, .int .i64 y, .slice Bg ng dg, .slice Bo no do_]] w fun e w' => e = .returned (.bool true) ∧ Below w.heap.size w w' := by
  obtain ⟨hg, ho⟩ := hr
  obtain ⟨hg2, ho2⟩ := hr2
  have hB : Below w.heap.size w ((w.alloc (.cells #[.int .i64 x, .int .i64 y, .slice Ag ng cg, .slice Ao no co] 46)).alloc (.cells #[.int .i64 x, .int .i64 y, .slice Bg ng dg, .slice Bo no do_] 46)) := ((Below.refl _ _).alloc (Nat.le_refl _) _).alloc (by simp) _
  have nx : (x != x) = false := by simp
  have ny : (y != y) = false := by simp
  go_enter Tryz.func32, Tryz.ntmps32
  go_wp2_with fail
  refine (eqGateS_any Ag Bg ng cg dg gs _ (hg.below hB (Nat.le_refl _)) (hg2.below hB (Nat.le_refl _)) hng).mono ?_
  rintro e w2 ⟨rfl, hb2⟩
  have hz2 := hb2.size
  simp only [World.size_alloc] at hz2
  have hy2' : w.heap.size + 1 < w2.heap.size := by omega
  have hx2' : w.heap.size < w2.heap.size := by omega
  have hB2 := hB.trans (hb2.mono hB.size)
  obtain ⟨hc2, hf2⟩ := bcell hb2
  go_wp2_with fail
  refine (eqIntS_b Ao Bo no co do_ os _ (ho.below hB2 (Nat.le_refl _)) (ho2.below hB2 (Nat.le_refl _)) hno).mono ?_
  rintro e w3 ⟨rfl, hb3⟩
  go_wp2
  go_ret
  exact ⟨rfl, hB2.trans (hb3.mono hB2.size)⟩
set_option maxHeartbeats 400000 in
theorem markCircuit_c (x y : Int) (Ag : Option Addr) (ng cg : Nat) (Ao : Option Addr) (no co lo hi : Nat) (q : Int) (gs : List G3) (os : List Int) (w : World) (h : OwnC w lo hi Ag ng cg Ao no co gs os) (hng : ng ≤ 2097152) (hno : no ≤ 2097152) (h0 : 0 ≤ q) (h1 : q ≤ 100000000000) :
    Calls Tryz.prog 33 #[.agg #[.int .i64 x, .int .i64 y, .slice Ag ng cg, .slice Ao no co], .int .i64 q] w fun e w' => e = .returned (.int .i64 (q + (ng : Int) * 3 + no)) ∧ OwnC w' lo hi Ag ng cg Ao no co (gmarks q ng) (marks (q + (ng : Int) * 3) no) ∧ Chg lo hi w w' := by
  obtain ⟨hg, ho, hap⟩ := h
  have hB : Below w.heap.size w (w.alloc (.cells #[.int .i64 x, .int .i64 y, .slice Ag ng cg, .slice Ao no co] 46)) := (Below.refl _ _).alloc (Nat.le_refl _) _
  go_enter Tryz.func33, Tryz.ntmps33
  go_wp2_with fail
  refine (markGateS_c Ag ng cg lo hi q gs _ (hg.below hB (.inl (Nat.le_refl _))) hng h0 (by omega)).mono ?_
  rintro e w2 ⟨rfl, hg2, hgr⟩
  have ho2 := (ho.below hB (.inl (Nat.le_refl _))).apart hgr hap.symm_
  have hC2 := (Chg.of_below (lo := lo) (hi := hi) hB).trans_ (Chg.of_grownG (hg.below hB (.inl (Nat.le_refl _))) hgr)
  have hz2 := hgr.size
  simp only [World.size_alloc] at hz2
  have hx2' : w.heap.size < w2.heap.size := by omega
  have hnb : (Value.slice Ag ng cg).ownBlock ≠ some w.heap.size := fun he => by have := (hg.lt _ he).2.2; omega
  have hc2 : ∀ o, w2.cell? ⟨w.heap.size, o, none⟩ = (w.alloc (.cells #[.int .i64 x, .int .i64 y, .slice Ag ng cg, .slice Ao no co] 46)).cell? ⟨w.heap.size, o, none⟩ := fun o => World.cell?_of_block (hgr.block w.heap.size (by simp) (fun he => hnb he.symm))
  clear hnb
  go_wp2_with fail
  refine (markIntS_any Ao no co lo hi (q + (ng : Int) * 3) os _ ho2 hno (by omega) (by omega)).mono ?_
  rintro e w3 ⟨rfl, ho3, hgr3⟩
  go_wp2
  go_ret
  exact ⟨rfl, ⟨hg2.apart hgr3 hap, ho3, hap⟩, hC2.trans_ (Chg.of_grown ho2 hgr3)⟩
set_option maxHeartbeats 400000 in
theorem heldCircuit_b (x y : Int) (Ag : Option Addr) (ng cg : Nat) (Ao : Option Addr) (no co : Nat) (q : Int) (w : World) (hr : RG w Ag ng (gmarks q ng) ∧ RI w Ao no (marks (q + (ng : Int) * 3) no)) (hng : ng ≤ 2097152) (hno : no ≤ 2097152) (h0 : 0 ≤ q) (h1 : q ≤ 100000000000) :
    Calls Tryz.prog 34 #[.agg #[.int .i64 x, .int .i64 y, .slice Ag ng cg, .slice Ao no co], .int .i64 q] w fun e w' => e = .returned (.int .i64 (q + (ng : Int) * 3 + no)) ∧ Below w.heap.size w w' := by
  obtain ⟨hg, ho⟩ := hr
  have hB : Below w.heap.size w (w.alloc (.cells #[.int .i64 x, .int .i64 y, .slice Ag ng cg, .slice Ao no co] 46)) := (Below.refl _ _).alloc (Nat.le_refl _) _
  go_enter Tryz.func34, Tryz.ntmps34
  go_wp2_with fail
  refine (heldGateS_b Ag ng cg q _ (hg.below hB (Nat.le_refl _)) hng h0 (by omega)).mono ?_
  rintro e w2 ⟨rfl, hb2⟩
  have hz2 := hb2.size
  simp only [World.size_alloc] at hz2
  have hx2' : w.heap.size < w2.heap.size := by omega
  have hB2 := hB.trans (hb2.mono hB.size)
  obtain ⟨hc2, hf2⟩ := bcell hb2
  go_wp2_with fail
  refine (heldIntS_b Ao no co (q + (ng : Int) * 3) _ (ho.below hB2 (Nat.le_refl _)) hno (by omega) (by omega)).mono ?_
  rintro e w3 ⟨rfl, hb3⟩
  go_wp2
  go_ret
  exact ⟨rfl, hB2.trans (hb3.mono hB2.size)⟩
end Go.Proofs.YtjjphaiomaiilaaGreat
