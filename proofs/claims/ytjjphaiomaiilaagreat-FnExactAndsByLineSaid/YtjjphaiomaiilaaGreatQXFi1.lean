/- The contracts of LineOfGate, WiresOf and AndsByLine. Texts below 2^21 bytes. -/
import Derived.Test.YtjjphaiomaiilaaGreatQA
namespace Go.Proofs.YtjjphaiomaiilaaGreat
open Go.RowKit
set_option linter.unusedVariables false
set_option linter.unusedSimpArgs false
theorem Wi.at_ {w : World} {lo n c j : Nat} {ow : Bool} {bl : List (Option Nat)} {A : Option Addr} {xss : List (List Int)} (h : Wi w lo ow bl A c n xss) (hj : j < n) :
    ∃ g P d, A = some ⟨g, 0, none⟩ ∧ w.cell? ⟨g, j, none⟩ = some (.slice P (gl xss j).length d) ∧ RI w P (gl xss j).length (gl xss j) ∧ (ow = true → Own w lo w.heap.size (.slice P (gl xss j).length d) (gl xss j).length (gl xss j)) ∧ ∀ q o, P = some ⟨q, o, none⟩ → lo ≤ q ∧ q < w.heap.size := by
  obtain ⟨vals, h1, h2, h3⟩ := h
  obtain ⟨g, cap, hv, hgl, hgs⟩ := h1.form (by omega)
  simp only [Value.slice.injEq, true_and] at hv
  obtain ⟨rfl, rfl⟩ := hv
  obtain ⟨P, d, h4, h5, h6, h7, h8⟩ := h3 j hj
  exact ⟨g, P, d, rfl, by rw [h1.cellAt j (by omega), h4], h5, h7, fun q o hq => ⟨h8 q o hq, (h6 q o hq).2⟩⟩
def lgF (l : List Ln) (k : Int) : Option Int := if coB l = true ∧ inB 0 (((cc l).g.length : Int) - 1) k = true then some (idxP (fun e => decide (k < e)) (cc l).es) else none
theorem LineOfGate1_any (k e : Int) (b : Nat) (w : World) (hc : w.cell? ⟨b, 0, none⟩ = some (.int .i64 k)) :
    Calls Tryz.prog 50 #[.int .i64 e, .pointer (some ⟨b, 0, none⟩)] w fun e' w' => e' = .returned (.bool (decide (k < e))) ∧ Below w.heap.size w w' := by
  have hb := World.block_lt_of_cell? w _ hc
  by_cases h : k < e
  · have HR : Hid (decide (k < e) = true) := Lib.hid (by simp [h])
    go_enter Tryz.func50, Tryz.ntmps50
    go_wp2
    go_ret
    exact ⟨by first | rfl | (rw [HR.out]; rfl), by first | exact Below.refl _ _ | exact (Below.refl _ _).alloc (Nat.le_refl _) _⟩
  · have HR : Hid (decide (k < e) = false) := Lib.hid (by simp [h])
    go_enter Tryz.func50, Tryz.ntmps50
    go_wp2
    go_ret
    exact ⟨by first | rfl | (rw [HR.out]; rfl), by first | exact Below.refl _ _ | exact (Below.refl _ _).alloc (Nat.le_refl _) _⟩
set_option maxRecDepth 100000 in
set_option maxHeartbeats 1600000 in
theorem LineOfGate_any (A : Option Addr) (n c : Nat) (l : List Ln) (k : Int) (w : World) (ha : RLn w A n l) (hn : n ≤ 2097152) (hcap : n ≤ c) (hsh : ∀ x ∈ l, shortL x) :
    Calls Tryz.prog 15 #[.slice A n c, .int .i64 k] w fun e w' => e = .returned (.tuple #[.int .i64 ((lgF l k).getD 0), .bool (lgF l k).isSome]) ∧ Below w.heap.size w w' := by
  have al0 : Below w.heap.size w (w.alloc (.cells #[.int .i64 k] 3)) := (Below.refl _ _).alloc (Nat.le_refl _) _
  have hc0 : (w.alloc (.cells #[.int .i64 k] 3)).cell? ⟨w.heap.size, 0, none⟩ = some (.int .i64 k) := box_cell _ _ 0 _ rfl
  cases hg : coB l with
  | false =>
    have HR : Hid (lgF l k = none) := Lib.hid (if_neg (fun h => by rw [hg] at h; cases h.1))
    go_enter Tryz.func15, Tryz.ntmps15
    go_wp2_with fail
    refine (compileValid_no A n c l _ (ha.below al0 (Nat.le_refl _)) hn hcap hsh hg).mono ?_
    rintro e w1 ⟨rfl, hb1⟩
    have hB := al0.trans (hb1.mono al0.size)
    have hB2 := hB.alloc hB.size (.cells #[.int .i64 0, .int .i64 0, .slice none 0 0, .slice none 0 0, .slice none 0 0, .slice none 0 0] 71)
    clear hg
    go_wp2
    go_ret2
    exact ⟨by rw [HR.out]; rfl, hB2⟩
  | true =>
    obtain ⟨hgd, hcb⟩ := coB_good hg
    have hng := (circB_parts hcb).2.2.1
    have hl := ha.len
    subst hl
    have hn30 := hgd.1
    have hgh := Lib.hid hg
    go_enter Tryz.func15, Tryz.ntmps15
    go_wp2_with fail
    refine (compileValid_ok A l.length c l _ (ha.below al0 (Nat.le_refl _)) hn hcap hsh hg).mono ?_
    rintro e w1 hT
    obtain ⟨Ag, cg, Oa, oc, Ea, ec, Wa, wc, bl, rfl, hC, hE, hW, hb1⟩ := hT
    have al1 : Below w1.heap.size w1 (w1.alloc (.cells #[.int .i64 (sumI (insL l 0)), .int .i64 (sumI (insL l 1)), .slice Ag (cc l).g.length cg, .slice Oa (cc l).os.length oc, .slice Wa l.length wc, .slice Ea l.length ec] 71)) := (Below.refl _ _).alloc (Nat.le_refl _) _
    have hc1 := cell_on (hb1.trans (al1.mono hb1.size)) hc0 (Nat.le_refl _)
    have hB := al0.trans ((hb1.trans (al1.mono hb1.size)).mono al0.size)
    have hE1 := hE.reads.below al1 (Nat.le_refl _)
    have hx : Bx6 (w1.alloc (.cells #[.int .i64 (sumI (insL l 0)), .int .i64 (sumI (insL l 1)), .slice Ag (cc l).g.length cg, .slice Oa (cc l).os.length oc, .slice Wa l.length wc, .slice Ea l.length ec] 71)) w1.heap.size _ _ _ _ _ _ := Bx6.new w1 (.int .i64 (sumI (insL l 0))) (.int .i64 (sumI (insL l 1))) (.slice Ag (cc l).g.length cg) (.slice Oa (cc l).os.length oc) (.slice Wa l.length wc) (.slice Ea l.length ec) 71
    obtain ⟨k0, k1, k2, k3, k4, k5⟩ := hx
    have hz1 : w.heap.size < (w1.alloc (.cells #[.int .i64 (sumI (insL l 0)), .int .i64 (sumI (insL l 1)), .slice Ag (cc l).g.length cg, .slice Oa (cc l).os.length oc, .slice Wa l.length wc, .slice Ea l.length ec] 71)).heap.size := by have h1 := hb1.size; have h2 := al0.size; simp at h1 ⊢; omega
    have hwr : IntKind.i64.wrap (((cc l).g.length : Int) - 1) = ((cc l).g.length : Int) - 1 := IntWalk.i64_in _ (by omega)
    clear hC hE hW hg hcb ha hsh
    cases hin : inB 0 (((cc l).g.length : Int) - 1) k with
    | false =>
      have HR : Hid (lgF l k = none) := Lib.hid (if_neg (fun h => by rw [hin] at h; cases h.2))
      go_wp2_with fail
      refine (within_any k 0 (((cc l).g.length : Int) - 1) false hin _).mono ?_
      rintro e w2 ⟨rfl, rfl⟩
      go_wp2
      go_ret2
      exact ⟨by rw [HR.out]; rfl, hB⟩
    | true =>
      have HR : Hid (lgF l k = some (idxP (fun e => decide (k < e)) (cc l).es)) := Lib.hid (if_pos ⟨hgh.out, hin⟩)
      go_wp2_with fail
      refine (within_any k 0 (((cc l).g.length : Int) - 1) true hin _).mono ?_
      rintro e w2 ⟨rfl, rfl⟩
      go_wp2_with fail
      refine (IndexFunc_any 50 Tryz.call50 #[.pointer (some ⟨w.heap.size, 0, none⟩)] (fun e => decide (k < e)) Ea l.length ec (cc l).es _ hE1 (by omega) (Lib.hid fun x hx w2 hb2 => LineOfGate1_any k x w.heap.size w2 ((hb2.cell (p := ⟨w.heap.size, 0, none⟩) hz1).trans hc1))).mono ?_
      rintro e w3 ⟨rfl, hb3⟩
      go_wp2
      go_ret2
      exact ⟨by rw [HR.out]; rfl, hB.trans (hb3.mono hB.size)⟩
def wiF (l : List Ln) (nm : Str) : Option (List Int) := if coB l = true ∧ 0 ≤ iFind l nm then some (gl (cc l).ws (iFind l nm).toNat) else none
set_option maxRecDepth 100000 in
set_option maxHeartbeats 1600000 in
theorem WiresOf_any (A : Option Addr) (n c : Nat) (l : List Ln) (nm : Str) (w : World) (ha : RLn w A n l) (hn : n ≤ 2097152) (hcap : n ≤ c) (hsh : ∀ x ∈ l, shortL x) :
    Calls Tryz.prog 18 #[.slice A n c, .string (bs nm)] w (RetO w (wiF l nm)) := by
  cases hg : coB l with
  | false =>
    have HR : Hid (wiF l nm = none) := Lib.hid (if_neg (fun h => by rw [hg] at h; cases h.1))
    go_enter Tryz.func18, Tryz.ntmps18
    go_wp2_with fail
    refine (compileValid_no A n c l _ ha hn hcap hsh hg).mono ?_
    rintro e w1 ⟨rfl, hb1⟩
    have hB := hb1.alloc hb1.size (.cells #[.int .i64 0, .int .i64 0, .slice none 0 0, .slice none 0 0, .slice none 0 0, .slice none 0 0] 71)
    go_wp2_with fail
    refine (lineOf_any A n c l nm _ (ha.below hB (Nat.le_refl _)) hn).mono ?_
    rintro e w2 ⟨rfl, hb2⟩
    clear hg
    go_wp2
    go_ret2
    exact RetO.none_ (hB.trans (hb2.mono hB.size)) HR.out rfl
  | true =>
    obtain ⟨hgd, hcb⟩ := coB_good hg
    have hl := ha.len
    subst hl
    have hn30 := hgd.1
    have hgh := Lib.hid hg
    go_enter Tryz.func18, Tryz.ntmps18
    go_wp2_with fail
    refine (compileValid_ok A l.length c l _ ha hn hcap hsh hg).mono ?_
    rintro e w1 hT
    obtain ⟨Ag, cg, Oa, oc, Ea, ec, Wa, wc, bl, rfl, hC, hE, hW, hb1⟩ := hT
    have al1 : Below w1.heap.size w1 (w1.alloc (.cells #[.int .i64 (sumI (insL l 0)), .int .i64 (sumI (insL l 1)), .slice Ag (cc l).g.length cg, .slice Oa (cc l).os.length oc, .slice Wa l.length wc, .slice Ea l.length ec] 71)) := (Below.refl _ _).alloc (Nat.le_refl _) _
    have hx : Bx6 (w1.alloc (.cells #[.int .i64 (sumI (insL l 0)), .int .i64 (sumI (insL l 1)), .slice Ag (cc l).g.length cg, .slice Oa (cc l).os.length oc, .slice Wa l.length wc, .slice Ea l.length ec] 71)) w1.heap.size _ _ _ _ _ _ := Bx6.new w1 (.int .i64 (sumI (insL l 0))) (.int .i64 (sumI (insL l 1))) (.slice Ag (cc l).g.length cg) (.slice Oa (cc l).os.length oc) (.slice Wa l.length wc) (.slice Ea l.length ec) 71
    have hB := hb1.trans (al1.mono hb1.size)
    go_wp2_with fail
    refine (lineOf_any A l.length c l nm _ (ha.below hB (Nat.le_refl _)) hn).mono ?_
    rintro e w2 ⟨rfl, hb2⟩
    have hx2 := hx.below hb2
    obtain ⟨k0, k1, k2, k3, k4, k5⟩ := hx2
    have hW2 := hW.below_ (al1.trans (hb2.mono al1.size))
    have hB2 := hB.trans (hb2.mono hB.size)
    have hfb := iFind_bd l nm
    clear hC hE hW hx ha hsh
    by_cases hf : 0 ≤ iFind l nm
    · have HR : Hid (wiF l nm = some (gl (cc l).ws (iFind l nm).toNat)) := Lib.hid (if_pos ⟨hg, hf⟩)
      obtain ⟨F, hF⟩ := Int.eq_ofNat_of_zero_le hf
      rw [hF] at HR hfb ⊢
      simp only [Int.toNat_natCast] at HR
      clear hg hcb hF hf
      obtain ⟨g, P, d, hWa, hcell, _, hown, _⟩ := hW2.at_ (j := F) (by omega)
      subst hWa
      have ho := hown rfl
      go_wp2
      go_ret2
      exact RetO.some_ hB2 HR.out rfl rfl ho
    · have HR : Hid (wiF l nm = none) := Lib.hid (if_neg (fun h => hf h.2))
      clear hg hcb
      go_wp2
      go_ret2
      exact RetO.none_ hB2 HR.out rfl
end Go.Proofs.YtjjphaiomaiilaaGreat
