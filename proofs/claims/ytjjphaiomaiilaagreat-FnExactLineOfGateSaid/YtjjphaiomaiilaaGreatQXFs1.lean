/- The contracts of the reference's LineOfGate, WiresOf and AndsByLine. Texts below 2^21 bytes. -/
import Derived.Test.YtjjphaiomaiilaaGreatQA
import Derived.Test.YtjjphaiomaiilaaGreatQXFi1
import Derived.Test.YtjjphaiomaiilaaGreatQXFi2
namespace Go.Proofs.YtjjphaiomaiilaaGreat
open Go.RowKit
set_option linter.unusedVariables false
set_option linter.unusedSimpArgs false
theorem fldG (x y : Int) (Ag Oa : Option Addr) (n cg m oc : Nat) : ∀ w : World, (Instr.field 46 (.agg #[.int .i64 x, .int .i64 y, .slice Ag n cg, .slice Oa m oc]) 2).run Tryz.prog w = .ok (.slice Ag n cg) w := fun _ => by kernel_rfl
theorem goodP_find {l : List Ln} (h : goodP l) (nm : Str) : sFind l nm = iFind l nm := find_same (allW_ok h.2.1) nm
theorem take_no {es : List Int} {k : Int} {i : Nat} (hi : i < es.length) (h : (es.take i).any (fun e => decide (k < e)) = false) (he : gi es i ≤ k) : (es.take (i + 1)).any (fun e => decide (k < e)) = false := by
  rw [gi_take_snoc hi, List.any_append, h]
  simp; omega
set_option maxRecDepth 100000 in
set_option maxHeartbeats 1600000 in
theorem spec_LineOfGate_any (A : Option Addr) (n c : Nat) (l : List Ln) (k : Int) (w : World) (ha : RLn w A n l) (hn : n ≤ 2097152) (hcap : n ≤ c) (hsh : ∀ x ∈ l, shortL x) :
    Calls Tryz.prog 13 #[.slice A n c, .int .i64 k] w fun e w' => e = .returned (.tuple #[.int .i64 ((lgF l k).getD 0), .bool (lgF l k).isSome]) ∧ Below w.heap.size w w' := by
  cases hg : coB l with
  | false =>
    have HR : Hid (lgF l k = none) := Lib.hid (if_neg (fun h => by rw [hg] at h; cases h.1))
    have H0 := Lib.hid hg
    clear hg
    go_enter Tryz.func13, Tryz.ntmps13
    go_wp2_with fail
    refine (coGood_any A n c l _ ha hn hcap hsh).mono ?_
    rintro e w1 ⟨rfl, hb1⟩
    rw [H0.out]
    go_wp2
    go_ret2
    exact ⟨by rw [HR.out]; rfl, hb1⟩
  | true =>
    have H0 := Lib.hid hg
    obtain ⟨hgd, hcb⟩ := coB_good hg
    have hng := (circB_parts hcb).2.2.1
    have hl := ha.len
    subst hl
    have hn30 := hgd.1
    have hei : Hid (EInv l.length (cc l)) := Lib.hid (cS_es l _ _ l.length)
    have hwr : IntKind.i64.wrap (((cc l).g.length : Int) - 1) = ((cc l).g.length : Int) - 1 := IntWalk.i64_in _ (by omega)
    clear hg hcb
    cases hin : inB 0 (((cc l).g.length : Int) - 1) k with
    | false =>
      have HR : Hid (lgF l k = none) := Lib.hid (if_neg (fun h => by rw [hin] at h; cases h.2))
      go_enter Tryz.func13, Tryz.ntmps13
      go_wp2_with fail
      refine (coGood_any A l.length c l _ ha hn hcap hsh).mono ?_
      rintro e w1 ⟨rfl, hb1⟩
      rw [H0.out]
      go_wp2_with fail
      refine (coCircuit_any A l.length c l _ (ha.below hb1 (Nat.le_refl _)) hcap hsh hgd).mono ?_
      rintro e w2 ⟨Ag, cg, Oa, oc, rfl, hC, hb2⟩
      have hfg := fldG (sumI (insL l 0)) (sumI (insL l 1)) Ag Oa (cc l).g.length cg (cc l).os.length oc
      go_wp2_with fail
      refine (l1In_any k 0 (((cc l).g.length : Int) - 1) false hin _).mono ?_
      rintro e w3 ⟨rfl, rfl⟩
      go_wp2
      go_ret2
      exact ⟨by rw [HR.out]; rfl, hb1.trans (hb2.mono hb1.size)⟩
    | true =>
      have hkb : 0 ≤ k ∧ k ≤ ((cc l).g.length : Int) - 1 := by unfold inB at hin; simpa using hin
      have HR : Hid (lgF l k = some (idxP (fun e => decide (k < e)) (cc l).es)) := Lib.hid (if_pos ⟨H0.out, hin⟩)
      have hpos : 0 < l.length := by
        refine Nat.pos_of_ne_zero fun h => ?_
        have h0 : cc l = ⟨[], [], [], []⟩ := by unfold cc; rw [h]; rfl
        rw [h0] at hkb
        simp at hkb
        omega
      go_enter Tryz.func13, Tryz.ntmps13
      go_wp2_with fail
      refine (coGood_any A l.length c l _ ha hn hcap hsh).mono ?_
      rintro e w1 ⟨rfl, hb1⟩
      rw [H0.out]
      go_wp2_with fail
      refine (coCircuit_any A l.length c l _ (ha.below hb1 (Nat.le_refl _)) hcap hsh hgd).mono ?_
      rintro e w2 ⟨Ag, cg, Oa, oc, rfl, hC, hb2⟩
      have hfg := fldG (sumI (insL l 0)) (sumI (insL l 1)) Ag Oa (cc l).g.length cg (cc l).os.length oc
      have hB2 := hb1.trans (hb2.mono hb1.size)
      go_wp2_with fail
      refine (l1In_any k 0 (((cc l).g.length : Int) - 1) true hin _).mono ?_
      rintro e w3 ⟨rfl, rfl⟩
      go_wp2_with fail
      refine (coMake_any A l.length c l _ (ha.below hB2 (Nat.le_refl _)) hcap hsh hgd).mono ?_
      rintro e w4 hT
      obtain ⟨B, Ag', cg', Oa', oc', Ea, ec, Wa, wc, bl, rfl, hBx, hBlt, hBlo, hC', hE, hW, hb4⟩ := RetCs.cc_ hT
      have hfd := fld2 B l.length wc ec Wa Ea
      have hB4 := hB2.trans (hb4.mono hB2.size)
      have hEr := hE.reads
      have hes := hE.len
      clear hT hE hW hC' hC hBx hb1 hb2 hb4 hB2 ha hsh hin hfg
      go_wp2
      go_loop [7] (fun x => ∃ i : Nat, i < l.length ∧ x = .int .i64 i ∧ Hid (((cc l).es.take i).any (fun e => decide (k < e)) = false)) (fun x => l.length - (intOf x).toNat)
      case atStart => exact ⟨0, hpos, rfl, Lib.hid rfl⟩
      case round =>
        obtain ⟨i, hi, rfl, hno⟩ := hrel
        obtain ⟨b, o, rfl, hbB, c1⟩ := hEr.at_ hi
        have hlast := hei.out.last i
        obtain ⟨E, hE⟩ : ∃ E, Hid (gi (cc l).es i = E) := ⟨_, Lib.hid rfl⟩
        rw [hE.out] at c1 hlast
        by_cases hlt : E ≤ k
        · have hnx : Hid (((cc l).es.take (i + 1)).any (fun e => decide (k < e)) = false) := Lib.hid (take_no (by omega) hno.out (by rw [hE.out]; exact hlt))
          have hi1 : i + 1 < l.length := by
            refine Nat.lt_of_le_of_ne hi fun h => ?_
            have := hlast h
            omega
          clear hlast
          go_wp2
          go_roundw
          case rel => exact ⟨i + 1, hi1, by go_num, hnx⟩
          case measure => simp [intOf]; omega
        · have hres : Hid (idxP (fun e => decide (k < e)) (cc l).es = i) := Lib.hid (idxP_some (by omega) hno.out (by rw [hE.out]; simp; omega))
          rw [hres.out] at HR
          clear hlast
          go_wp2
          go_ret2
          exact ⟨by rw [HR.out]; rfl, hB4⟩
def RdS (w : World) (lo hi : Nat) (v : Value) (n : Nat) (xs : List Int) : Prop := ∃ A c, v = .slice A n c ∧ RI w A n xs ∧ ∀ q o, A = some ⟨q, o, none⟩ → lo ≤ q ∧ q < hi
theorem RdS.reads {w : World} {lo hi n c : Nat} {A : Option Addr} {xs : List Int} (h : RdS w lo hi (.slice A n c) n xs) : RI w A n xs := by
  obtain ⟨A', c', hv, h1, _⟩ := h
  simp only [Value.slice.injEq, true_and] at hv
  obtain ⟨rfl, rfl⟩ := hv
  exact h1
theorem RdS.below {w w' : World} {lo hi n B : Nat} {v : Value} {xs : List Int} (h : RdS w lo hi v n xs) (k : Below B w w') (hB : w.heap.size ≤ B ∨ hi ≤ B) : RdS w' lo hi v n xs := by
  obtain ⟨A, c, hv, h1, h2⟩ := h
  refine ⟨A, c, hv, h1.alt (Alt.of_below (S := fun i => B ≤ i) k (fun _ _ h => h)) (fun hn q o hq hc => ?_), h2⟩
  obtain ⟨b, o', hA, hlt, _⟩ := h1.2 hn
  have h3 := h2 q o hq
  rw [hA] at hq
  simp only [Option.some.injEq, Addr.mk.injEq, and_true] at hq
  omega
theorem RdS.chg {w w' : World} {lo hi lo' hi' n : Nat} {v : Value} {xs : List Int} (h : RdS w lo hi v n xs) (k : Chg lo' hi' w w') (hd : hi ≤ lo' ∨ hi' ≤ lo) : RdS w' lo hi v n xs := by
  obtain ⟨A, c, hv, h1, h2⟩ := h
  exact ⟨A, c, hv, h1.chg (B := 0) k (fun b o hb => by have := h2 b o hb; omega), h2⟩
def RetOR (w : World) (o : Option (List Int)) (e : Ending) (w' : World) : Prop :=
  ∃ A' c', e = .returned (.tuple #[.slice A' (o.getD []).length c', .bool o.isSome]) ∧ RdS w' w.heap.size w'.heap.size (.slice A' (o.getD []).length c') (o.getD []).length (o.getD []) ∧ Below w.heap.size w w'
theorem RetOR.none_ {w : World} {o : Option (List Int)} {e : Ending} {w' : World} (hb : Below w.heap.size w w') (ho : o = none) (he : e = .returned (.tuple #[.slice none 0 0, .bool false])) : RetOR w o e w' := by
  subst ho; exact ⟨none, 0, he, ⟨none, 0, rfl, ⟨rfl, fun h => absurd h (by simp)⟩, fun q o h => by cases h⟩, hb⟩
theorem RetOR.some_ {w : World} {o : Option (List Int)} {zs : List Int} {n : Nat} {A' : Option Addr} {c' : Nat} {e : Ending} {w' : World} (hb : Below w.heap.size w w') (ho : o = some zs) (hn : zs.length = n) (he : e = .returned (.tuple #[.slice A' n c', .bool true]))
    (hw : RdS w' w.heap.size w'.heap.size (.slice A' n c') n zs) : RetOR w o e w' := by
  subst ho; subst hn; exact ⟨A', c', he, hw, hb⟩
theorem wiF_len (l : List Ln) (nm : Str) : ((wiF l nm).getD []).length ≤ 10 := by
  unfold wiF
  split
  · rename_i h
    have hg := (coB_good h.1).1
    have hw := ((cS_inv (sumI (insL l 0)) (sumI (insL l 1)) hg.2.1 l.length (Nat.le_refl _)).wid (iFind l nm).toNat (by have := iFind_bd l nm; omega)).1
    have hb := wids_bd l
    have h2 := gi_bd hb (by omega) (iFind l nm).toNat
    simp only [Option.getD_some]
    show (gl (cS l (sumI (insL l 0)) (sumI (insL l 1)) l.length).ws (iFind l nm).toNat).length ≤ 10
    omega
  · simp
set_option maxRecDepth 100000 in
set_option maxHeartbeats 1600000 in
theorem spec_WiresOf_any (A : Option Addr) (n c : Nat) (l : List Ln) (nm : Str) (w : World) (ha : RLn w A n l) (hn : n ≤ 2097152) (hcap : n ≤ c) (hsh : ∀ x ∈ l, shortL x) :
    Calls Tryz.prog 17 #[.slice A n c, .string (bs nm)] w (RetOR w (wiF l nm)) := by
  cases hg : coB l with
  | false =>
    have HR : Hid (wiF l nm = none) := Lib.hid (if_neg (fun h => by rw [hg] at h; cases h.1))
    have H0 := Lib.hid hg
    clear hg
    go_enter Tryz.func17, Tryz.ntmps17
    go_wp2_with fail
    refine (coGood_any A n c l _ ha hn hcap hsh).mono ?_
    rintro e w1 ⟨rfl, hb1⟩
    rw [H0.out]
    go_wp2
    go_ret2
    exact RetOR.none_ hb1 HR.out rfl
  | true =>
    have H0 := Lib.hid hg
    have hgd := (coB_good hg).1
    have hl := ha.len
    subst hl
    have hn30 := hgd.1
    have hfb := iFind_bd l nm
    have hsf := Lib.hid (goodP_find hgd nm)
    clear hg
    by_cases hf : 0 ≤ iFind l nm
    · have HR : Hid (wiF l nm = some (gl (cc l).ws (iFind l nm).toNat)) := Lib.hid (if_pos ⟨H0.out, hf⟩)
      obtain ⟨F, hF⟩ := Int.eq_ofNat_of_zero_le hf
      rw [hF] at HR hfb hsf
      simp only [Int.toNat_natCast] at HR
      clear hF hf
      go_enter Tryz.func17, Tryz.ntmps17
      go_wp2_with fail
      refine (coGood_any A l.length c l _ ha hn hcap hsh).mono ?_
      rintro e w1 ⟨rfl, hb1⟩
      rw [H0.out]
      go_wp2_with fail
      refine (laFind_any A l.length c l nm _ (ha.below hb1 (Nat.le_refl _)) hn).mono ?_
      rintro e w2 ⟨rfl, hb2⟩
      rw [hsf.out]
      have hB2 := hb1.trans (hb2.mono hb1.size)
      go_wp2_with fail
      refine (coMake_any A l.length c l _ (ha.below hB2 (Nat.le_refl _)) hcap hsh hgd).mono ?_
      rintro e w4 hT
      obtain ⟨B, Ag', cg', Oa', oc', Ea, ec, Wa, wc, bl, rfl, hBx, hBlt, hBlo, hC', hE, hW, hb4⟩ := RetCs.cc_ hT
      have hfd := fld1 B l.length wc ec Wa Ea
      have hB4 := hB2.trans (hb4.mono hB2.size)
      clear hT hE hC' hBx
      go_wp2_with fail
      refine (laFind_any A l.length c l nm _ (ha.below hB4 (Nat.le_refl _)) hn).mono ?_
      rintro e w5 ⟨rfl, hb5⟩
      rw [hsf.out]
      have hW5 := hW.below_ hb5
      have hB5 := hB4.trans (hb5.mono hB4.size)
      have hz2 := hB2.size
      obtain ⟨g, P, d, hWa, hcell, hri, _, hlow⟩ := hW5.at_ (j := F) (by omega)
      subst hWa
      clear hW hW5 hb1 hb2 hb4 hb5 hB2 hB4 ha hsh
      go_wp2
      go_ret2
      exact RetOR.some_ hB5 HR.out rfl rfl ⟨P, d, rfl, hri, fun q o hq => ⟨by have := hlow q o hq; omega, (hlow q o hq).2⟩⟩
    · have HR : Hid (wiF l nm = none) := Lib.hid (if_neg (fun h => hf h.2))
      have hneg : iFind l nm = -1 := by omega
      rw [hneg] at hsf
      clear hneg hf
      go_enter Tryz.func17, Tryz.ntmps17
      go_wp2_with fail
      refine (coGood_any A l.length c l _ ha hn hcap hsh).mono ?_
      rintro e w1 ⟨rfl, hb1⟩
      rw [H0.out]
      go_wp2_with fail
      refine (laFind_any A l.length c l nm _ (ha.below hb1 (Nat.le_refl _)) hn).mono ?_
      rintro e w2 ⟨rfl, hb2⟩
      rw [hsf.out]
      go_wp2
      go_ret2
      exact RetOR.none_ (hb1.trans (hb2.mono hb1.size)) HR.out rfl
end Go.Proofs.YtjjphaiomaiilaaGreat
