/- The contracts of coGood, coCircuit and the reference's CompileProgram. Texts below 2^21 bytes. The contracts of the reference's LineOfGate, WiresOf and AndsByLine. Texts below 2^21 bytes. The contract of the reference's AndsByLine. Texts below 2^21 bytes. Contracts of putting a number into a list in order, and of DependsOn. DropDead: what it returns, in plain words. No program. Plain facts of circuits' shapes: counts of kinds, depths, used wires, two circuits beside each other. No program in sight. The program's row of the wires that are used. Lengths below 2^21. CountGates and UsedWires, both hands. Lengths below 2^21. -/
import Derived.Test.YtenknpcbbcbciaaGreatQP37
import Derived.Test.YtenknpcbbcbciaaGreatQP35
import Derived.Test.YtenknpcbbcbciaaGreatQP29
import Derived.Test.YtenknpcbbcbciaaGreatQP36
import Derived.Test.YtenknpcbbcbciaaGreatQP25
import Derived.Test.YtenknpcbbcbciaaGreatQP05
import Derived.Test.YtenknpcbbcbciaaGreatQP24
import Derived.Test.YtenknpcbbcbciaaGreatQP32
namespace Go.Proofs.YtenknpcbbcbciaaGreat
open Go.RowKit
set_option linter.unusedVariables false
set_option linter.unusedSimpArgs false
theorem RetCs.cc_ {w w' : World} {l : List Ln} {e : Ending} (h : RetCs w l e w') :
    ∃ B Ag cg Oa oc Ea ec Wa wc bl, e = .returned (.agg #[.pointer (some ⟨B, 0, none⟩), .slice Wa l.length wc, .slice Ea l.length ec]) ∧
    BxC w' B (sumI (insL l 0)) (sumI (insL l 1)) Ag (cc l).g.length cg Oa (cc l).os.length oc ∧ B < w'.heap.size ∧ w.heap.size ≤ B ∧
    OwnC w' w.heap.size w'.heap.size Ag (cc l).g.length cg Oa (cc l).os.length oc (cc l).g (cc l).os ∧
    Own w' w.heap.size w'.heap.size (.slice Ea l.length ec) l.length (cc l).es ∧ Wi w' w.heap.size false bl Wa wc l.length (cc l).ws ∧ Below w.heap.size w w' := h
def RetCc (w : World) (l : List Ln) (e : Ending) (w' : World) : Prop :=
  ∃ Ag cg Oa oc, e = .returned (.agg #[.int .i64 (sumI (insL l 0)), .int .i64 (sumI (insL l 1)), .slice Ag (cc l).g.length cg, .slice Oa (cc l).os.length oc]) ∧ OwnC w' w.heap.size w'.heap.size Ag (cc l).g.length cg Oa (cc l).os.length oc (cc l).g (cc l).os ∧ Below w.heap.size w w'
theorem fld0 (B n wc ec : Nat) (Wa Ea : Option Addr) : ∀ w : World, (Instr.field 99 (.agg #[.pointer (some ⟨B, 0, none⟩), .slice Wa n wc, .slice Ea n ec]) 0).run Tryz.prog w = .ok (.pointer (some ⟨B, 0, none⟩)) w := fun _ => by kernel_rfl
theorem fld1 (B n wc ec : Nat) (Wa Ea : Option Addr) : ∀ w : World, (Instr.field 99 (.agg #[.pointer (some ⟨B, 0, none⟩), .slice Wa n wc, .slice Ea n ec]) 1).run Tryz.prog w = .ok (.slice Wa n wc) w := fun _ => by kernel_rfl
theorem fld2 (B n wc ec : Nat) (Wa Ea : Option Addr) : ∀ w : World, (Instr.field 99 (.agg #[.pointer (some ⟨B, 0, none⟩), .slice Wa n wc, .slice Ea n ec]) 2).run Tryz.prog w = .ok (.slice Ea n ec) w := fun _ => by kernel_rfl
set_option maxRecDepth 100000 in
set_option maxHeartbeats 4000000 in
theorem coGood_any (A : Option Addr) (n c : Nat) (l : List Ln) (w : World) (ha : RLn w A n l) (hn : n ≤ 2097152) (hcap : n ≤ c) (hsh : ∀ x ∈ l, shortL x) :
    Calls Tryz.prog 50 #[.slice A n c] w fun e w' => e = .returned (.bool (coB l)) ∧ Below w.heap.size w w' := by
  by_cases hgd : goodP l
  · have HR : Hid (coB l = circB (sumI (insL l 0)) (sumI (insL l 1)) (cc l).g (cc l).os) := Lib.hid (by unfold coB; rw [decide_eq_true hgd, Bool.true_and])
    have HG : Hid (decide (goodP l) = true) := Lib.hid (decide_eq_true hgd)
    obtain ⟨hng, hno⟩ := cc_small hgd
    go_enter Tryz.func50, Tryz.ntmps50
    go_wp2_with fail
    refine (laGood_any A n c l _ ha hn hcap hsh).mono ?_
    rintro e w1 ⟨rfl, hb1⟩
    rw [HG.out]
    go_wp2_with fail
    refine (coMake_any A n c l _ (ha.below hb1 (Nat.le_refl _)) hcap hsh hgd).mono ?_
    rintro e w2 hT
    obtain ⟨B, Ag, cg, Oa, oc, Ea, ec, Wa, wc, bl, rfl, hBx, hBlt, hBlo, hC, hE, hW, hb2⟩ := RetCs.cc_ hT
    have hq := hC.reads
    obtain ⟨k0, k1, k2, k3⟩ := hBx
    have hfd := fld0 B l.length wc ec Wa Ea
    clear hT hE hW hC ha
    go_wp2_with fail
    refine (ciGood_any (sumI (insL l 0)) (sumI (insL l 1)) Ag (cc l).g.length cg Oa (cc l).os.length oc (cc l).g (cc l).os _ hq.1 hq.2 hng hno).mono ?_
    rintro e w3 ⟨rfl, hb3⟩
    go_wp2
    go_ret
    exact ⟨by rw [HR.out]; rfl, (hb1.trans (hb2.mono hb1.size)).trans (hb3.mono (hb1.trans (hb2.mono hb1.size)).size)⟩
  · have HR : Hid (coB l = false) := Lib.hid (by unfold coB; rw [decide_eq_false hgd, Bool.false_and])
    have HG : Hid (decide (goodP l) = false) := Lib.hid (decide_eq_false hgd)
    go_enter Tryz.func50, Tryz.ntmps50
    go_wp2_with fail
    refine (laGood_any A n c l _ ha hn hcap hsh).mono ?_
    rintro e w1 ⟨rfl, hb1⟩
    rw [HG.out]
    go_wp2
    go_ret
    exact ⟨by rw [HR.out]; rfl, hb1⟩
set_option maxRecDepth 100000 in
set_option maxHeartbeats 4000000 in
theorem coCircuit_any (A : Option Addr) (n c : Nat) (l : List Ln) (w : World) (ha : RLn w A n l) (hcap : n ≤ c) (hsh : ∀ x ∈ l, shortL x) (hgd : goodP l) :
    Calls Tryz.prog 58 #[.slice A n c] w (RetCc w l) := by
  have al0 : Below w.heap.size w (w.alloc (.cells #[.int .i64 0, .int .i64 0, .slice none 0 0, .slice none 0 0] 38)) := (Below.refl _ _).alloc (Nat.le_refl _) _
  have hz0 : BxC (w.alloc (.cells #[.int .i64 0, .int .i64 0, .slice none 0 0, .slice none 0 0] 38)) w.heap.size 0 0 none 0 0 none 0 0 := BxC.new _ _
  have fz0 : Fz (w.alloc (.cells #[.int .i64 0, .int .i64 0, .slice none 0 0, .slice none 0 0] 38)) w.heap.size := Fz.new w #[.int .i64 0, .int .i64 0, .slice none 0 0, .slice none 0 0] 38
  have hs0 : (w.alloc (.cells #[.int .i64 0, .int .i64 0, .slice none 0 0, .slice none 0 0] 38)).heap.size = w.heap.size + 1 := by simp
  go_enter Tryz.func58, Tryz.ntmps58
  go_wp2_with fail
  refine (coMake_any A n c l _ (ha.below al0 (Nat.le_refl _)) hcap hsh hgd).mono ?_
  rintro e w1 hT
  obtain ⟨B, Ag, cg, Oa, oc, Ea, ec, Wa, wc, bl, rfl, hBx, hBlt, hBlo, hC, hE, hW, hb1⟩ := RetCs.cc_ hT
  have hz1 := hz0.below hb1
  have fz1 := fz0.below hb1 (by rw [hs0]; omega)
  have hBt := al0.trans (hb1.mono al0.size)
  obtain ⟨k0, k1, k2, k3⟩ := hBx
  have hq := hz1; obtain ⟨r0, r1, r2, r3⟩ := hq
  have g0 := fz1 0; have g1 := fz1 1; have g2 := fz1 2; have g3 := fz1 3
  have hsz := hb1.size
  rw [hs0] at hsz hC hBlo
  have hC2 := fun (x y : Int) (Ag : Option Addr) (ng cg : Nat) (Ao : Option Addr) (no co : Nat) => OwnC.lo_ (lo' := w.heap.size) ((hC.set4 (b := w.heap.size) (.inl (by omega)) x y Ag ng cg Ao no co).now) (by omega)
  have hfd := fld0 B l.length wc ec Wa Ea
  clear hE hW fz1 fz0 hC hT
  go_wp2
  have hq9 := BxC.set4 (hz1) (sumI (insL l 0)) (sumI (insL l 1)) Ag (cc l).g.length cg Oa (cc l).os.length oc
  obtain ⟨q0, q1, q2, q3⟩ := hq9
  refine bodyPost_ret (v := .agg #[.int .i64 (sumI (insL l 0)), .int .i64 (sumI (insL l 1)), .slice Ag (cc l).g.length cg, .slice Oa (cc l).os.length oc]) (by simp [results, Tryz.results58, go_sem, q0, q1, q2, q3]) rfl ?_
  exact ⟨Ag, cg, Oa, oc, rfl, hC2 _ _ _ _ _ _ _ _, below_set4 hBt (Nat.le_refl _) _ _ _ _ _ _ _ _⟩
set_option maxRecDepth 100000 in
set_option maxHeartbeats 4000000 in
theorem spec_CompileProgram_any (A : Option Addr) (n c : Nat) (l : List Ln) (w : World) (ha : RLn w A n l) (hn : n ≤ 2097152) (hcap : n ≤ c) (hsh : ∀ x ∈ l, shortL x) :
    Calls Tryz.prog 17 #[.slice A n c] w (RetC w (compF l)) := by
  have al0 : Below w.heap.size w (w.alloc (.cells #[.int .i64 0, .int .i64 0, .slice none 0 0, .slice none 0 0] 38)) := (Below.refl _ _).alloc (Nat.le_refl _) _
  have hz0 : BxC (w.alloc (.cells #[.int .i64 0, .int .i64 0, .slice none 0 0, .slice none 0 0] 38)) w.heap.size 0 0 none 0 0 none 0 0 := BxC.new _ _
  have fz0 : Fz (w.alloc (.cells #[.int .i64 0, .int .i64 0, .slice none 0 0, .slice none 0 0] 38)) w.heap.size := Fz.new w #[.int .i64 0, .int .i64 0, .slice none 0 0, .slice none 0 0] 38
  have hs0 : (w.alloc (.cells #[.int .i64 0, .int .i64 0, .slice none 0 0, .slice none 0 0] 38)).heap.size = w.heap.size + 1 := by simp
  cases hg : coB l with
  | true =>
    have HR : Hid (compF l = some ⟨sumI (insL l 0), sumI (insL l 1), (cc l).g, (cc l).os⟩) := Lib.hid (if_pos hg)
    have H0 := Lib.hid hg
    have hgd := (coB_good hg).1
    clear hg
    go_enter Tryz.func17, Tryz.ntmps17
    go_wp2_with fail
    refine (coGood_any A n c l _ (ha.below al0 (Nat.le_refl _)) hn hcap hsh).mono ?_
    rintro e w1 ⟨rfl, hb1⟩
    rw [H0.out]
    have hB1 := al0.trans (hb1.mono al0.size)
    go_wp2_with fail
    refine (coCircuit_any A n c l _ (ha.below hB1 (Nat.le_refl _)) hcap hsh hgd).mono ?_
    rintro e w2 ⟨Ag, cg, Oa, oc, rfl, hC, hb2⟩
    have hb12 := hb1.trans (hb2.mono hb1.size)
    have hz1 := hz0.below hb12
    have fz1 := fz0.below hb12 (by rw [hs0]; omega)
    have hBt := al0.trans (hb12.mono al0.size)
    have hq := hz1; obtain ⟨r0, r1, r2, r3⟩ := hq
    have g0 := fz1 0; have g1 := fz1 1; have g2 := fz1 2; have g3 := fz1 3
    have hsz := hb1.size
    rw [hs0] at hsz
    have hC2 := fun (x y : Int) (Ag : Option Addr) (ng cg : Nat) (Ao : Option Addr) (no co : Nat) => OwnC.lo_ (lo' := w.heap.size) ((hC.set4 (b := w.heap.size) (.inl (by omega)) x y Ag ng cg Ao no co).now) (by omega)
    clear fz1 fz0 hC
    go_wp2
    have hq9 := BxC.set4 (hz1) (sumI (insL l 0)) (sumI (insL l 1)) Ag (cc l).g.length cg Oa (cc l).os.length oc
    obtain ⟨q0, q1, q2, q3⟩ := hq9
    refine bodyPost_ret (v := .tuple #[.agg #[.int .i64 (sumI (insL l 0)), .int .i64 (sumI (insL l 1)), .slice Ag (cc l).g.length cg, .slice Oa (cc l).os.length oc], .bool true]) (by simp [results, Tryz.results17, go_sem, q0, q1, q2, q3]) rfl ?_
    exact RetC.some_ (below_set4 hBt (Nat.le_refl _) _ _ _ _ _ _ _ _) HR.out rfl rfl rfl (hC2 _ _ _ _ _ _ _ _)
  | false =>
    have HR : Hid (compF l = none) := Lib.hid (if_neg (by rw [hg]; decide))
    have H0 := Lib.hid hg
    clear hg
    go_enter Tryz.func17, Tryz.ntmps17
    go_wp2_with fail
    refine (coGood_any A n c l _ (ha.below al0 (Nat.le_refl _)) hn hcap hsh).mono ?_
    rintro e w1 ⟨rfl, hb1⟩
    rw [H0.out]
    have hz1 := hz0.below hb1
    have fz1 := fz0.below hb1 (by rw [hs0]; omega)
    have hBt := al0.trans (hb1.mono al0.size)
    have hq := hz1; obtain ⟨r0, r1, r2, r3⟩ := hq
    have g0 := fz1 0; have g1 := fz1 1; have g2 := fz1 2; have g3 := fz1 3
    clear fz1 fz0
    go_wp2
    have hq9 := BxC.set4 (hz1) 0 0 none 0 0 none 0 0
    obtain ⟨q0, q1, q2, q3⟩ := hq9
    refine bodyPost_ret (v := .tuple #[.agg #[.int .i64 0, .int .i64 0, .slice none 0 0, .slice none 0 0], .bool false]) (by simp [results, Tryz.results17, go_sem, q0, q1, q2, q3]) rfl ?_
    exact RetC.none_ (below_set4 hBt (Nat.le_refl _) _ _ _ _ _ _ _ _) HR.out rfl
theorem fldG (x y : Int) (Ag Oa : Option Addr) (n cg m oc : Nat) : ∀ w : World, (Instr.field 38 (.agg #[.int .i64 x, .int .i64 y, .slice Ag n cg, .slice Oa m oc]) 2).run Tryz.prog w = .ok (.slice Ag n cg) w := fun _ => by kernel_rfl
theorem goodP_find {l : List Ln} (h : goodP l) (nm : Str) : sFind l nm = iFind l nm := find_same (allW_ok h.2.1) nm
theorem take_no {es : List Int} {k : Int} {i : Nat} (hi : i < es.length) (h : (es.take i).any (fun e => decide (k < e)) = false) (he : gi es i ≤ k) : (es.take (i + 1)).any (fun e => decide (k < e)) = false := by
  rw [gi_take_snoc hi, List.any_append, h]
  simp; omega
set_option maxRecDepth 100000 in
set_option maxHeartbeats 1600000 in
theorem spec_LineOfGate_any (A : Option Addr) (n c : Nat) (l : List Ln) (k : Int) (w : World) (ha : RLn w A n l) (hn : n ≤ 2097152) (hcap : n ≤ c) (hsh : ∀ x ∈ l, shortL x) :
    Calls Tryz.prog 35 #[.slice A n c, .int .i64 k] w fun e w' => e = .returned (.tuple #[.int .i64 ((lgF l k).getD 0), .bool (lgF l k).isSome]) ∧ Below w.heap.size w w' := by
  cases hg : coB l with
  | false =>
    have HR : Hid (lgF l k = none) := Lib.hid (if_neg (fun h => by rw [hg] at h; cases h.1))
    have H0 := Lib.hid hg
    clear hg
    go_enter Tryz.func35, Tryz.ntmps35
    go_wp2_with fail
    refine (coGood_any A n c l _ ha hn hcap hsh).mono ?_
    rintro e w1 ⟨rfl, hb1⟩
    rw [H0.out]
    go_wp2
    go_ret2
    exact ⟨by rw [HR.out]; rfl, hb1⟩
  | true =>
    have H0 := Lib.hid hg
    obtain ⟨hgd, hcb⟩ := coB_good hg
    have hng := (circB_parts hcb).2.2.1
    have hl := ha.len
    subst hl
    have hn30 := hgd.1
    have hei : Hid (EInv l.length (cc l)) := Lib.hid (cS_es l _ _ l.length)
    have hwr : IntKind.i64.wrap (((cc l).g.length : Int) - 1) = ((cc l).g.length : Int) - 1 := IntWalk.i64_in _ (by omega)
    clear hg hcb
    cases hin : inB 0 (((cc l).g.length : Int) - 1) k with
    | false =>
      have HR : Hid (lgF l k = none) := Lib.hid (if_neg (fun h => by rw [hin] at h; cases h.2))
      go_enter Tryz.func35, Tryz.ntmps35
      go_wp2_with fail
      refine (coGood_any A l.length c l _ ha hn hcap hsh).mono ?_
      rintro e w1 ⟨rfl, hb1⟩
      rw [H0.out]
      go_wp2_with fail
      refine (coCircuit_any A l.length c l _ (ha.below hb1 (Nat.le_refl _)) hcap hsh hgd).mono ?_
      rintro e w2 ⟨Ag, cg, Oa, oc, rfl, hC, hb2⟩
      have hfg := fldG (sumI (insL l 0)) (sumI (insL l 1)) Ag Oa (cc l).g.length cg (cc l).os.length oc
      go_wp2_with fail
      refine (l1In_any k 0 (((cc l).g.length : Int) - 1) false hin _).mono ?_
      rintro e w3 ⟨rfl, rfl⟩
      go_wp2
      go_ret2
      exact ⟨by rw [HR.out]; rfl, hb1.trans (hb2.mono hb1.size)⟩
    | true =>
      have hkb : 0 ≤ k ∧ k ≤ ((cc l).g.length : Int) - 1 := by unfold inB at hin; simpa using hin
      have HR : Hid (lgF l k = some (idxP (fun e => decide (k < e)) (cc l).es)) := Lib.hid (if_pos ⟨H0.out, hin⟩)
      have hpos : 0 < l.length := by
        refine Nat.pos_of_ne_zero fun h => ?_
        have h0 : cc l = ⟨[], [], [], []⟩ := by unfold cc; rw [h]; rfl
        rw [h0] at hkb
        simp at hkb
        omega
      go_enter Tryz.func35, Tryz.ntmps35
      go_wp2_with fail
      refine (coGood_any A l.length c l _ ha hn hcap hsh).mono ?_
      rintro e w1 ⟨rfl, hb1⟩
      rw [H0.out]
      go_wp2_with fail
      refine (coCircuit_any A l.length c l _ (ha.below hb1 (Nat.le_refl _)) hcap hsh hgd).mono ?_
      rintro e w2 ⟨Ag, cg, Oa, oc, rfl, hC, hb2⟩
      have hfg := fldG (sumI (insL l 0)) (sumI (insL l 1)) Ag Oa (cc l).g.length cg (cc l).os.length oc
      have hB2 := hb1.trans (hb2.mono hb1.size)
      go_wp2_with fail
      refine (l1In_any k 0 (((cc l).g.length : Int) - 1) true hin _).mono ?_
      rintro e w3 ⟨rfl, rfl⟩
      go_wp2_with fail
      refine (coMake_any A l.length c l _ (ha.below hB2 (Nat.le_refl _)) hcap hsh hgd).mono ?_
      rintro e w4 hT
      obtain ⟨B, Ag', cg', Oa', oc', Ea, ec, Wa, wc, bl, rfl, hBx, hBlt, hBlo, hC', hE, hW, hb4⟩ := RetCs.cc_ hT
      have hfd := fld2 B l.length wc ec Wa Ea
      have hB4 := hB2.trans (hb4.mono hB2.size)
      have hEr := hE.reads
      have hes := hE.len
      clear hT hE hW hC' hC hBx hb1 hb2 hb4 hB2 ha hsh hin hfg
      go_wp2
      go_loop [7] (fun x => ∃ i : Nat, i < l.length ∧ x = .int .i64 i ∧ Hid (((cc l).es.take i).any (fun e => decide (k < e)) = false)) (fun x => l.length - (intOf x).toNat)
      case atStart => exact ⟨0, hpos, rfl, Lib.hid rfl⟩
      case round =>
        obtain ⟨i, hi, rfl, hno⟩ := hrel
        obtain ⟨b, o, rfl, hbB, c1⟩ := hEr.at_ hi
        have hlast := hei.out.last i
        obtain ⟨E, hE⟩ : ∃ E, Hid (gi (cc l).es i = E) := ⟨_, Lib.hid rfl⟩
        rw [hE.out] at c1 hlast
        by_cases hlt : E ≤ k
        · have hnx : Hid (((cc l).es.take (i + 1)).any (fun e => decide (k < e)) = false) := Lib.hid (take_no (by omega) hno.out (by rw [hE.out]; exact hlt))
          have hi1 : i + 1 < l.length := by
            refine Nat.lt_of_le_of_ne hi fun h => ?_
            have := hlast h
            omega
          clear hlast
          go_wp2
          go_roundw
          case rel => exact ⟨i + 1, hi1, by go_num, hnx⟩
          case measure => simp [intOf]; omega
        · have hres : Hid (idxP (fun e => decide (k < e)) (cc l).es = i) := Lib.hid (idxP_some (by omega) hno.out (by rw [hE.out]; simp; omega))
          rw [hres.out] at HR
          clear hlast
          go_wp2
          go_ret2
          exact ⟨by rw [HR.out]; rfl, hB4⟩
def RdS (w : World) (lo hi : Nat) (v : Value) (n : Nat) (xs : List Int) : Prop := ∃ A c, v = .slice A n c ∧ RI w A n xs ∧ ∀ q o, A = some ⟨q, o, none⟩ → lo ≤ q ∧ q < hi
theorem RdS.reads {w : World} {lo hi n c : Nat} {A : Option Addr} {xs : List Int} (h : RdS w lo hi (.slice A n c) n xs) : RI w A n xs := by
  obtain ⟨A', c', hv, h1, _⟩ := h
  simp only [Value.slice.injEq, true_and] at hv
  obtain ⟨rfl, rfl⟩ := hv
  exact h1
theorem RdS.below {w w' : World} {lo hi n B : Nat} {v : Value} {xs : List Int} (h : RdS w lo hi v n xs) (k : Below B w w') (hB : w.heap.size ≤ B ∨ hi ≤ B) : RdS w' lo hi v n xs := by
  obtain ⟨A, c, hv, h1, h2⟩ := h
  refine ⟨A, c, hv, h1.alt (Alt.of_below (S := fun i => B ≤ i) k (fun _ _ h => h)) (fun hn q o hq hc => ?_), h2⟩
  obtain ⟨b, o', hA, hlt, _⟩ := h1.2 hn
  have h3 := h2 q o hq
  rw [hA] at hq
  simp only [Option.some.injEq, Addr.mk.injEq, and_true] at hq
  omega
theorem RdS.chg {w w' : World} {lo hi lo' hi' n : Nat} {v : Value} {xs : List Int} (h : RdS w lo hi v n xs) (k : Chg lo' hi' w w') (hd : hi ≤ lo' ∨ hi' ≤ lo) : RdS w' lo hi v n xs := by
  obtain ⟨A, c, hv, h1, h2⟩ := h
  exact ⟨A, c, hv, h1.chg (B := 0) k (fun b o hb => by have := h2 b o hb; omega), h2⟩
def RetOR (w : World) (o : Option (List Int)) (e : Ending) (w' : World) : Prop :=
  ∃ A' c', e = .returned (.tuple #[.slice A' (o.getD []).length c', .bool o.isSome]) ∧ RdS w' w.heap.size w'.heap.size (.slice A' (o.getD []).length c') (o.getD []).length (o.getD []) ∧ Below w.heap.size w w'
theorem RetOR.none_ {w : World} {o : Option (List Int)} {e : Ending} {w' : World} (hb : Below w.heap.size w w') (ho : o = none) (he : e = .returned (.tuple #[.slice none 0 0, .bool false])) : RetOR w o e w' := by
  subst ho; exact ⟨none, 0, he, ⟨none, 0, rfl, ⟨rfl, fun h => absurd h (by simp)⟩, fun q o h => by cases h⟩, hb⟩
theorem RetOR.some_ {w : World} {o : Option (List Int)} {zs : List Int} {n : Nat} {A' : Option Addr} {c' : Nat} {e : Ending} {w' : World} (hb : Below w.heap.size w w') (ho : o = some zs) (hn : zs.length = n) (he : e = .returned (.tuple #[.slice A' n c', .bool true]))
    (hw : RdS w' w.heap.size w'.heap.size (.slice A' n c') n zs) : RetOR w o e w' := by
  subst ho; subst hn; exact ⟨A', c', he, hw, hb⟩
set_option maxRecDepth 100000 in
set_option maxHeartbeats 1600000 in
theorem spec_WiresOf_any (A : Option Addr) (n c : Nat) (l : List Ln) (nm : Str) (w : World) (ha : RLn w A n l) (hn : n ≤ 2097152) (hcap : n ≤ c) (hsh : ∀ x ∈ l, shortL x) :
    Calls Tryz.prog 32 #[.slice A n c, .string (bs nm)] w (RetOR w (wiF l nm)) := by
  cases hg : coB l with
  | false =>
    have HR : Hid (wiF l nm = none) := Lib.hid (if_neg (fun h => by rw [hg] at h; cases h.1))
    have H0 := Lib.hid hg
    clear hg
    go_enter Tryz.func32, Tryz.ntmps32
    go_wp2_with fail
    refine (coGood_any A n c l _ ha hn hcap hsh).mono ?_
    rintro e w1 ⟨rfl, hb1⟩
    rw [H0.out]
    go_wp2
    go_ret2
    exact RetOR.none_ hb1 HR.out rfl
  | true =>
    have H0 := Lib.hid hg
    have hgd := (coB_good hg).1
    have hl := ha.len
    subst hl
    have hn30 := hgd.1
    have hfb := iFind_bd l nm
    have hsf := Lib.hid (goodP_find hgd nm)
    clear hg
    by_cases hf : 0 ≤ iFind l nm
    · have HR : Hid (wiF l nm = some (gl (cc l).ws (iFind l nm).toNat)) := Lib.hid (if_pos ⟨H0.out, hf⟩)
      obtain ⟨F, hF⟩ := Int.eq_ofNat_of_zero_le hf
      rw [hF] at HR hfb hsf
      simp only [Int.toNat_natCast] at HR
      clear hF hf
      go_enter Tryz.func32, Tryz.ntmps32
      go_wp2_with fail
      refine (coGood_any A l.length c l _ ha hn hcap hsh).mono ?_
      rintro e w1 ⟨rfl, hb1⟩
      rw [H0.out]
      go_wp2_with fail
      refine (laFind_any A l.length c l nm _ (ha.below hb1 (Nat.le_refl _)) hn).mono ?_
      rintro e w2 ⟨rfl, hb2⟩
      rw [hsf.out]
      have hB2 := hb1.trans (hb2.mono hb1.size)
      go_wp2_with fail
      refine (coMake_any A l.length c l _ (ha.below hB2 (Nat.le_refl _)) hcap hsh hgd).mono ?_
      rintro e w4 hT
      obtain ⟨B, Ag', cg', Oa', oc', Ea, ec, Wa, wc, bl, rfl, hBx, hBlt, hBlo, hC', hE, hW, hb4⟩ := RetCs.cc_ hT
      have hfd := fld1 B l.length wc ec Wa Ea
      have hB4 := hB2.trans (hb4.mono hB2.size)
      clear hT hE hC' hBx
      go_wp2_with fail
      refine (laFind_any A l.length c l nm _ (ha.below hB4 (Nat.le_refl _)) hn).mono ?_
      rintro e w5 ⟨rfl, hb5⟩
      rw [hsf.out]
      have hW5 := hW.below_ hb5
      have hB5 := hB4.trans (hb5.mono hB4.size)
      have hz2 := hB2.size
      obtain ⟨g, P, d, hWa, hcell, hri, _, hlow⟩ := hW5.at_ (j := F) (by omega)
      subst hWa
      clear hW hW5 hb1 hb2 hb4 hb5 hB2 hB4 ha hsh
      go_wp2
      go_ret2
      exact RetOR.some_ hB5 HR.out rfl rfl ⟨P, d, rfl, hri, fun q o hq => ⟨by have := hlow q o hq; omega, (hlow q o hq).2⟩⟩
    · have HR : Hid (wiF l nm = none) := Lib.hid (if_neg (fun h => hf h.2))
      have hneg : iFind l nm = -1 := by omega
      rw [hneg] at hsf
      clear hneg hf
      go_enter Tryz.func32, Tryz.ntmps32
      go_wp2_with fail
      refine (coGood_any A l.length c l _ ha hn hcap hsh).mono ?_
      rintro e w1 ⟨rfl, hb1⟩
      rw [H0.out]
      go_wp2_with fail
      refine (laFind_any A l.length c l nm _ (ha.below hb1 (Nat.le_refl _)) hn).mono ?_
      rintro e w2 ⟨rfl, hb2⟩
      rw [hsf.out]
      go_wp2
      go_ret2
      exact RetOR.none_ (hb1.trans (hb2.mono hb1.size)) HR.out rfl
theorem cnt_one {gs : List G3} {k : Nat} (h : 0 ≤ (gg gs k).k ∧ (gg gs k).k ≤ 3) : gi (cntK gs (k + 1)) 1 = gi (cntK gs k) 1 + if (gg gs k).k = 1 then 1 else 0 := by
  rw [cntK]
  have hl := cntK_len gs k
  unfold gi
  simp only [List.getD_eq_getElem?_getD]
  by_cases h1 : (gg gs k).k = 1
  · rw [if_pos h1, h1]
    simp [List.getElem?_set, hl]
  · rw [if_neg h1, List.getElem?_set_ne (by omega)]
    simp
set_option maxRecDepth 100000 in
set_option maxHeartbeats 3200000 in
theorem spec_AndsByLine_any (A : Option Addr) (n c : Nat) (l : List Ln) (w : World) (ha : RLn w A n l) (hn : n ≤ 2097152) (hcap : n ≤ c) (hsh : ∀ x ∈ l, shortL x) :
    Calls Tryz.prog 37 #[.slice A n c] w (RetO w (anF l)) := by
  cases hg : coB l with
  | false =>
    have HR : Hid (anF l = none) := Lib.hid (if_neg (fun h => by rw [hg] at h; cases h))
    have H0 := Lib.hid hg
    clear hg
    go_enter Tryz.func37, Tryz.ntmps37
    go_wp2_with fail
    refine (coGood_any A n c l _ ha hn hcap hsh).mono ?_
    rintro e w1 ⟨rfl, hb1⟩
    rw [H0.out]
    go_wp2
    go_ret2
    exact RetO.none_ hb1 HR.out rfl
  | true =>
    have HR : Hid (anF l = some (andsK (cc l) l.length)) := Lib.hid (if_pos hg)
    have H0 := Lib.hid hg
    obtain ⟨hgd, hcb⟩ := coB_good hg
    obtain ⟨_, _, hng, _, hgat, _⟩ := circB_parts hcb
    have hkd := Lib.hid (kinds_of hgat)
    have hl := ha.len
    subst hl
    have hn30 := hgd.1
    have hei : Hid (EInv l.length (cc l)) := Lib.hid (cS_es l _ _ l.length)
    go_enter Tryz.func37, Tryz.ntmps37
    go_wp2_with fail
    refine (coGood_any A l.length c l _ ha hn hcap hsh).mono ?_
    rintro e w1 ⟨rfl, hb1⟩
    rw [H0.out]
    go_wp2_with fail
    refine (coMake_any A l.length c l _ (ha.below hb1 (Nat.le_refl _)) hcap hsh hgd).mono ?_
    rintro e w2 hT
    obtain ⟨B, Ag, cg, Oa, oc, Ea, ec, Wa, wc, bl, rfl, hBx, hBlt, hBlo, hC, hE, hW, hb2⟩ := RetCs.cc_ hT
    have hB2 := hb1.trans (hb2.mono hb1.size)
    have al1 : Below w2.heap.size w2 (w2.alloc (.cells #[.pointer (some ⟨B, 0, none⟩), .slice Wa l.length wc, .slice Ea l.length ec] 99)) := (Below.refl _ _).alloc (Nat.le_refl _) _
    have hB1 := hB2.trans (al1.mono hB2.size)
    have hE1 := hE.reads.below al1 (Nat.le_refl _)
    have hG1 := hC.1.reads.below al1 (Nat.le_refl _)
    have hX1 := hBx.below al1
    have m0 : (w2.alloc (.cells #[.pointer (some ⟨B, 0, none⟩), .slice Wa l.length wc, .slice Ea l.length ec] 99)).cell? ⟨w2.heap.size, 0, none⟩ = some (.pointer (some ⟨B, 0, none⟩)) := box_cell _ _ 0 _ rfl
    have hs1 : (w2.alloc (.cells #[.pointer (some ⟨B, 0, none⟩), .slice Wa l.length wc, .slice Ea l.length ec] 99)).heap.size = w2.heap.size + 1 := by simp
    have hz2 := hB2.size
    clear hT hE hW hC hBx hcb hgat hb1 hb2 hB2 al1 ha hsh hgd
    obtain ⟨ng, hgl⟩ : ∃ ng, Hid ((cc l).g.length = ng) := ⟨_, Lib.hid rfl⟩
    obtain ⟨s, hs⟩ : ∃ s, Hid (cc l = s) := ⟨_, Lib.hid rfl⟩
    rw [hs.out] at hE1 hG1 hei hkd hng hgl HR hX1
    rw [hgl.out] at hG1 hkd hng hX1
    obtain ⟨_, _, k2, _⟩ := hX1
    go_wp2_with fail
    generalize hWW : w2.alloc (.cells #[.pointer (some ⟨B, 0, none⟩), .slice Wa l.length wc, .slice Ea l.length ec] 99) = W1 at *
    clear hWW hg
    have hb0 : Below (w2.heap.size + 1) W1 W1 := Below.refl _ _
    go_loopw [5, 6, 18] (fun v f i wr => ∃ (k : Nat) (A' : Option Addr) (c' : Nat), k ≤ l.length ∧ i = .int .i64 k ∧ f = .int .i64 (endN s.es k : Nat) ∧ v = .slice A' k c' ∧ Own wr (w2.heap.size + 1) wr.heap.size (.slice A' k c') k (andsK s k) ∧ Below (w2.heap.size + 1) W1 wr) (fun _ _ i _ => l.length - (intOf i).toNat)
    case atStart => exact ⟨0, none, 0, Nat.zero_le _, rfl, rfl, rfl, Own.none_ _ _ _, hb0⟩
    case round =>
      clear hb0
      obtain ⟨k, A', c', hk, rfl, rfl, rfl, hown, hbw⟩ := hrel
      by_cases hlt : k < l.length
      · obtain ⟨b, o, rfl, hbB, c1⟩ := (hE1.below hbw (by omega)).at_ hlt
        obtain ⟨n1, n2, n3⟩ := endN_le hei.out hlt
        have hsn : Hid (andsK s (k + 1) = andsK s k ++ [andN s k]) := Lib.hid (andsK_snoc s k)
        have han : Hid (andN s k = gi (cntK (cutG s.g (endN s.es k) (endN s.es (k + 1))) (endN s.es (k + 1) - endN s.es k)) 1) := Lib.hid rfl
        rw [hgl.out] at n2
        rw [n3] at c1
        obtain ⟨a, ha⟩ : ∃ a, Hid (endN s.es k = a) := ⟨_, Lib.hid rfl⟩
        obtain ⟨d, hd⟩ : ∃ d, Hid (endN s.es (k + 1) = d) := ⟨_, Lib.hid rfl⟩
        rw [ha.out] at n1 han ⊢
        rw [hd.out] at n1 n2 han c1
        clear n3
        have hGw := hG1.below hbw (by omega)
        have hc0 : Hid (gi (cntK (cutG s.g a d) 0) 1 = 0) := Lib.hid rfl
        have hstep : Hid (∀ j, a ≤ j → j < d → gi (cntK (cutG s.g a d) (j + 1 - a)) 1 = gi (cntK (cutG s.g a d) (j - a)) 1 + if (gg s.g j).k = 1 then 1 else 0) := Lib.hid (fun j h1 h2 => by
          have he := cutG_at (gs := s.g) (a := a) (b := d) (j := j - a) (by rw [hgl.out]; exact n2) (by omega)
          rw [show a + (j - a) = j by omega] at he
          rw [show j + 1 - a = (j - a) + 1 by omega, cnt_one (by rw [he]; exact hkd.out j (by omega)), he])
        have hbd : Hid (∀ j, 0 ≤ gi (cntK (cutG s.g a d) j) 1 ∧ gi (cntK (cutG s.g a d) j) 1 ≤ j) := Lib.hid (fun j => cntK_bd _ j 1)
        have q2 := (hbw.cell (p := ⟨B, 2, none⟩) (by show B < w2.heap.size + 1; omega)).trans k2
        have q0 := (hbw.cell (p := ⟨w2.heap.size, 0, none⟩) (by show w2.heap.size < w2.heap.size + 1; omega)).trans m0
        have hz := hbw.size
        generalize hcnt : (fun j => gi (cntK (cutG s.g a d) j) 1) = C at *
        have hC : ∀ j, gi (cntK (cutG s.g a d) j) 1 = C j := fun j => by rw [← hcnt]
        simp only [hC] at hc0 hstep hbd han
        clear hcnt hC hk
        go_wp2
        go_loop [6, 9] (fun f z => ∃ j : Nat, a ≤ j ∧ j ≤ d ∧ f = .int .i64 j ∧ z = .int .i64 (C (j - a))) (fun f _ => d - (intOf f).toNat)
        case atStart => exact ⟨a, Nat.le_refl _, n1, rfl, by rw [Nat.sub_self, hc0.out]⟩
        case round =>
          obtain ⟨j, hj1, hj2, rfl, rfl⟩ := hrel
          by_cases hjd : j < d
          · have hst := hstep.out j hj1 hjd
            have hbj := hbd.out (j - a)
            obtain ⟨b2, o2, hA2, hb2, g0, _, _⟩ := hGw.at_ (k := j) (by omega)
            subst hA2
            obtain ⟨z, hz1⟩ : ∃ z, Hid (C (j - a) = z) := ⟨_, Lib.hid rfl⟩
            rw [hz1.out] at hst hbj ⊢
            by_cases hk1 : (gg s.g j).k = 1
            · rw [if_pos hk1] at hst
              rw [hk1] at g0
              have hst := Lib.hid hst
              clear hk1
              go_wp2
              go_roundw
              case rel => exact ⟨j + 1, by omega, by omega, by go_num, by rw [hst.out]⟩
              case measure => simp [intOf]; omega
            · rw [if_neg hk1, Int.add_zero] at hst
              have hst := Lib.hid hst
              go_wp2
              go_roundw
              case rel => exact ⟨j + 1, by omega, by omega, by go_num, by rw [hst.out]⟩
              case measure => simp [intOf]; omega
          · obtain rfl : j = d := by omega
            rw [← han.out]
            obtain ⟨z, hzz⟩ : ∃ z, Hid (andN s k = z) := ⟨_, Lib.hid rfl⟩
            rw [hzz.out] at hsn ⊢
            have hownA := hown.alloc (.cells #[.int .i64 z] 3)
            have hbA := hbw.alloc (by omega) (.cells #[.int .i64 z] 3)
            go_wp2_with (at_builtin; refine wpList_app _ rfl _ _ rfl rfl hownA rfl (RI_one _ _ _ _ (by simp)) (by omega) (by first | omega | (simp; done) | (simp; omega)) ?_; intro A5 c5 w5 hown5 hg5 hat5)
            have hb5 := below_app hbA hownA hg5 (by simp; omega) (by omega)
            rw [← hsn.out] at hown5
            clear hownA hbA hg5 hat5 hown hbw
            go_wp2
            go_roundw
            case rel => exact ⟨k + 1, _, _, by omega, by go_num, by rw [hd.out], rfl, hown5, hb5⟩
            case measure => simp [intOf]; omega
      · obtain hkl : l.length = k := by omega
        have hBf := hB1.trans (hbw.mono (by omega))
        rw [hkl] at HR
        go_wp2
        go_ret2
        exact RetO.some_ hBf HR.out (andsK_len _ _) rfl (hown.lo_ (by omega))
def lessN (l : List Int) (x : Int) : Nat := (l.takeWhile fun z => decide (z < x)).length
def putL (l : List Int) (x : Int) : List Int := if gi l (lessN l x) = x ∧ lessN l x < l.length then l else l.take (lessN l x) ++ x :: l.drop (lessN l x)
theorem putL_mem {l : List Int} {x z : Int} : z ∈ putL l x ↔ z = x ∨ z ∈ l := by
  unfold putL
  split
  · rename_i h
    constructor
    · exact .inr
    · rintro (rfl | h')
      · have := gi_mem h.2
        rw [h.1] at this; exact this
      · exact h'
  · have : z ∈ l ↔ z ∈ l.take (lessN l x) ∨ z ∈ l.drop (lessN l x) := by
      rw [← List.mem_append, List.take_append_drop]
    rw [this]
    simp only [List.mem_append, List.mem_cons]
    constructor
    · rintro (h | h | h)
      · exact .inr (.inl h)
      · exact .inl h
      · exact .inr (.inr h)
    · rintro (h | h | h)
      · exact .inr (.inl h)
      · exact .inl h
      · exact .inr (.inr h)
def inL (l : List Int) (z : Int) : Bool := decide (z ∈ l)
def ctF (x y : Int) (gs : List G3) (os : List Int) : Option (List Int) := if circB x y gs os = true then some (cntK gs gs.length) else none
def dv (b : Bool) (g : G3) (d : List Int) : Int :=
  (if g.k = 0 ∨ g.k = 1 then max (gi d g.a.toNat) (gi d g.b.toNat) else if g.k = 2 then gi d g.a.toNat else 0) + (if b = true then (if g.k = 1 then 1 else 0) else 1)
def rowK (L : List Int) : Nat → List Int
  | 0 => []
  | k + 1 => if inL L (k : Int) = true then rowK L k ++ [(k : Int)] else rowK L k
structure BRow (w : World) (g n : Nat) (L : List Int) : Prop where
  lt : g < w.heap.size
  at_ : ∀ j, j < n → w.cell? ⟨g, j, none⟩ = some (.bool (inL L j))
  fz : Fz w g
theorem BRow.alt {S : Nat → Prop} {w w' : World} {g n : Nat} {L : List Int} (h : BRow w g n L) (k : Alt S w w') (hs : ¬ S g) : BRow w' g n L :=
  ⟨Nat.lt_of_lt_of_le h.lt k.size, fun j hj => k.cell_ (h.at_ j hj) hs, h.fz.alt k h.lt hs⟩
theorem BRow.below {w w' : World} {g n : Nat} {L : List Int} (h : BRow w g n L) (hb : Below w.heap.size w w') : BRow w' g n L :=
  ⟨Nat.lt_of_lt_of_le h.lt hb.size, fun j hj => cell_bel (h.at_ j hj) hb, h.fz.below hb h.lt⟩
theorem BRow.put {w : World} {g n : Nat} {L : List Int} {v : Nat} (h : BRow w g n L) (hv : v < n) : BRow (w.setCell ⟨g, v, none⟩ (.bool true)) g n (putL L v) := by
  refine ⟨by simpa using h.lt, fun j hj => ?_, h.fz.set _ _⟩
  by_cases he : j = v
  · subst he
    rw [World.cell?_setCell_same _ _ _ (h.at_ j hj)]
    simp [inL, putL_mem]
  · rw [World.cell?_setCell_other _ _ _ _ (by first | (simp; done) | (simp; omega)), h.at_ j hj]
    have : ((j : Int) ∈ L) = ((j : Int) ∈ putL L v) := by
      apply propext; rw [putL_mem]
      constructor
      · exact .inr
      · rintro (h | h)
        · omega
        · exact h
    unfold inL
    simp only [this]
theorem BRow.made {w : World} {lo g n : Nat} (h : w.ownsRow lo 4 1 (.slice (some ⟨g, 0, none⟩) n n) n (madeCells (Value.bool false).cells (n * 1)).toList) (hg : g < w.heap.size) : BRow w g n [] := by
  refine ⟨hg, fun j hj => ?_, fun q => h.frozenAt q⟩
  rw [h.cellAt j (by omega)]
  simp [madeCells, Value.cells, inL, hj, Nat.mod_one]
theorem GateIs.kd {g : G3} {n : Int} (h : GateIs g n) : 0 ≤ g.k ∧ g.k ≤ 3 := by cases h <;> omega
theorem gate_kd {x y : Int} {gs : List G3} {os : List Int} (h : circB x y gs os = true) {n : Nat} (hl : gs.length = n) : ∀ k, k < n → 0 ≤ (gg gs k).k ∧ (gg gs k).k ≤ 3 := fun k hk => (circB_gate_at h hl k hk).kd
set_option maxHeartbeats 1000000 in
theorem CountGates_any (x y : Int) (Ag : Option Addr) (ng cg : Nat) (Ao : Option Addr) (no co : Nat) (gs : List G3) (os : List Int) (w : World) (hr : RG w Ag ng gs ∧ RI w Ao no os) (hng : ng ≤ 2097152) (hno : no ≤ 2097152) :
    Calls Tryz.prog 39 #[.agg #[.int .i64 x, .int .i64 y, .slice Ag ng cg, .slice Ao no co]] w (RetO w (ctF x y gs os)) := by
  have hB : Below w.heap.size w (w.alloc (.cells #[.int .i64 x, .int .i64 y, .slice Ag ng cg, .slice Ao no co] 38)) := (Below.refl _ _).alloc (Nat.le_refl _) _
  have hx0 : BxC (w.alloc (.cells #[.int .i64 x, .int .i64 y, .slice Ag ng cg, .slice Ao no co] 38)) w.heap.size x y Ag ng cg Ao no co := BxC.new w _
  have hs0 : (w.alloc (.cells #[.int .i64 x, .int .i64 y, .slice Ag ng cg, .slice Ao no co] 38)).heap.size = w.heap.size + 1 := by simp
  have hlg := hr.1.len
  have hlo := hr.2.len
  have hq := hx0; obtain ⟨k0, k1, k2, k3⟩ := hq
  cases h0 : circB x y gs os with
  | false =>
    have HR : Hid (ctF x y gs os = none) := Lib.hid (by simp [ctF, h0])
    have H0 := Lib.hid h0; clear h0
    go_enter Tryz.func39, Tryz.ntmps39
    go_wp2_with fail
    refine (IsCircuit_any x y Ag ng cg Ao no co gs os _ (hr.1.below hB (Nat.le_refl _)) (hr.2.below hB (Nat.le_refl _)) hng hno).mono ?_
    rintro e v1 ⟨rfl, hb1⟩
    rw [H0.out]
    go_wp2
    go_ret2
    exact RetO.none_ (hB.trans (hb1.mono hB.size)) HR.out rfl
  | true =>
    have HR : Hid (ctF x y gs os = some (cntK gs ng)) := Lib.hid (by simp [ctF, h0, hlg])
    have hkd := gate_kd h0 hlg
    have H0 := Lib.hid h0; clear h0
    go_enter Tryz.func39, Tryz.ntmps39
    go_wp2_with fail
    refine (IsCircuit_any x y Ag ng cg Ao no co gs os _ (hr.1.below hB (Nat.le_refl _)) (hr.2.below hB (Nat.le_refl _)) hng hno).mono ?_
    rintro e v1 ⟨rfl, hb1⟩
    rw [H0.out]
    have hx1 := hx0.below hb1
    have hB1 := hB.trans (hb1.mono hB.size)
    have hz1 := hb1.size
    rw [hs0] at hz1
    clear k0 k1 k2 k3 hx0 hb1 hB
    have hq := hx1; obtain ⟨k0, k1, k2, k3⟩ := hq
    go_wp2_with fail
    refine (countKinds_any Ag ng cg gs _ (hr.1.below hB1 (Nat.le_refl _)) hng hkd).mono ?_
    rintro e v2 hT
    obtain ⟨A', c', rfl, ho, hb2⟩ := hT.open_ (cntK_len gs ng)
    go_wp2
    go_ret2
    exact RetO.some_ (hB1.trans (hb2.mono hB1.size)) HR.out (cntK_len gs ng) rfl (ho.lo_ hB1.size)
set_option maxHeartbeats 1000000 in
theorem spec_CountGates_any (x y : Int) (Ag : Option Addr) (ng cg : Nat) (Ao : Option Addr) (no co : Nat) (gs : List G3) (os : List Int) (w : World) (hr : RG w Ag ng gs ∧ RI w Ao no os) (hng : ng ≤ 2097152) (hno : no ≤ 2097152) :
    Calls Tryz.prog 40 #[.agg #[.int .i64 x, .int .i64 y, .slice Ag ng cg, .slice Ao no co]] w (RetO w (ctF x y gs os)) := by
  have hB : Below w.heap.size w (w.alloc (.cells #[.int .i64 x, .int .i64 y, .slice Ag ng cg, .slice Ao no co] 38)) := (Below.refl _ _).alloc (Nat.le_refl _) _
  have hx0 : BxC (w.alloc (.cells #[.int .i64 x, .int .i64 y, .slice Ag ng cg, .slice Ao no co] 38)) w.heap.size x y Ag ng cg Ao no co := BxC.new w _
  have hs0 : (w.alloc (.cells #[.int .i64 x, .int .i64 y, .slice Ag ng cg, .slice Ao no co] 38)).heap.size = w.heap.size + 1 := by simp
  have hlg := hr.1.len
  have hlo := hr.2.len
  have hq := hx0; obtain ⟨k0, k1, k2, k3⟩ := hq
  cases h0 : circB x y gs os with
  | false =>
    have HR : Hid (ctF x y gs os = none) := Lib.hid (by simp [ctF, h0])
    have H0 := Lib.hid h0; clear h0
    go_enter Tryz.func40, Tryz.ntmps40
    go_wp2_with fail
    refine (ciGood_any x y Ag ng cg Ao no co gs os _ (hr.1.below hB (Nat.le_refl _)) (hr.2.below hB (Nat.le_refl _)) hng hno).mono ?_
    rintro e v1 ⟨rfl, hb1⟩
    rw [H0.out]
    go_wp2
    go_ret2
    exact RetO.none_ (hB.trans (hb1.mono hB.size)) HR.out rfl
  | true =>
    have HR : Hid (ctF x y gs os = some (cntK gs ng)) := Lib.hid (by simp [ctF, h0, hlg])
    have hkd := gate_kd h0 hlg
    have H0 := Lib.hid h0; clear h0
    go_enter Tryz.func40, Tryz.ntmps40
    go_wp2_with fail
    refine (ciGood_any x y Ag ng cg Ao no co gs os _ (hr.1.below hB (Nat.le_refl _)) (hr.2.below hB (Nat.le_refl _)) hng hno).mono ?_
    rintro e v1 ⟨rfl, hb1⟩
    rw [H0.out]
    have hx1 := hx0.below hb1
    have hB1 := hB.trans (hb1.mono hB.size)
    have hz1 := hb1.size
    rw [hs0] at hz1
    clear k0 k1 k2 k3 hx0 hb1 hB
    have hq := hx1; obtain ⟨k0, k1, k2, k3⟩ := hq
    go_wp2_with fail
    refine (ciCounts_any x y Ag ng cg Ao no co gs _ (hr.1.below hB1 (Nat.le_refl _)) hng hkd).mono ?_
    rintro e v2 hT
    obtain ⟨A', c', rfl, ho, hb2⟩ := hT.open_ (cntK_len gs ng)
    go_wp2
    go_ret2
    exact RetO.some_ (hB1.trans (hb2.mono hB1.size)) HR.out (cntK_len gs ng) rfl (ho.lo_ hB1.size)
end Go.Proofs.YtenknpcbbcbciaaGreat
