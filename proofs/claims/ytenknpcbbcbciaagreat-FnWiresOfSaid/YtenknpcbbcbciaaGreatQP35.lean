/- The contracts of compileValid and of CompileProgram. Texts below 2^21 bytes. The contracts of LineOfGate, WiresOf and AndsByLine. Texts below 2^21 bytes. -/
import Derived.Test.YtenknpcbbcbciaaGreatQP34
import Derived.Test.YtenknpcbbcbciaaGreatQP32
import Derived.Test.YtenknpcbbcbciaaGreatQP07
namespace Go.Proofs.YtenknpcbbcbciaaGreat
open Go.RowKit
set_option linter.unusedVariables false
set_option linter.unusedSimpArgs false
def Bx6 (w : World) (b : Nat) (v0 v1 v2 v3 v4 v5 : Value) : Prop :=
  w.cell? ⟨b, 0, none⟩ = some v0 ∧ w.cell? ⟨b, 1, none⟩ = some v1 ∧ w.cell? ⟨b, 2, none⟩ = some v2 ∧ w.cell? ⟨b, 3, none⟩ = some v3 ∧ w.cell? ⟨b, 4, none⟩ = some v4 ∧ w.cell? ⟨b, 5, none⟩ = some v5
section
variable {w w' : World} {b : Nat} {v0 v1 v2 v3 v4 v5 : Value}
theorem Bx6.new (w : World) (v0 v1 v2 v3 v4 v5 : Value) (T : TypeId) : Bx6 (w.alloc (.cells #[v0, v1, v2, v3, v4, v5] T)) w.heap.size v0 v1 v2 v3 v4 v5 :=
  ⟨box_cell _ _ 0 _ rfl, box_cell _ _ 1 _ rfl, box_cell _ _ 2 _ rfl, box_cell _ _ 3 _ rfl, box_cell _ _ 4 _ rfl, box_cell _ _ 5 _ rfl⟩
theorem Bx6.below (h : Bx6 w b v0 v1 v2 v3 v4 v5) (k : Below w.heap.size w w') : Bx6 w' b v0 v1 v2 v3 v4 v5 :=
  ⟨cell_bel h.1 k, cell_bel h.2.1 k, cell_bel h.2.2.1 k, cell_bel h.2.2.2.1 k, cell_bel h.2.2.2.2.1 k, cell_bel h.2.2.2.2.2 k⟩
def st6 (w : World) (b : Nat) (v0 v1 v2 v3 v4 v5 : Value) : World :=
  (((((w.setCell ⟨b, 0, none⟩ v0).setCell ⟨b, 1, none⟩ v1).setCell ⟨b, 2, none⟩ v2).setCell ⟨b, 3, none⟩ v3).setCell ⟨b, 4, none⟩ v4).setCell ⟨b, 5, none⟩ v5
theorem Bx6.st {u0 u1 u2 u3 u4 u5 : Value} (h : Bx6 w b u0 u1 u2 u3 u4 u5) (v0 v1 v2 v3 v4 v5 : Value) : Bx6 (st6 w b v0 v1 v2 v3 v4 v5) b v0 v1 v2 v3 v4 v5 :=
  set6_cells h.1 h.2.1 h.2.2.1 h.2.2.2.1 h.2.2.2.2.1 h.2.2.2.2.2 v0 v1 v2 v3 v4 v5
theorem st6_alt (w : World) (b : Nat) (v0 v1 v2 v3 v4 v5 : Value) : Alt (fun i => i = b) w (st6 w b v0 v1 v2 v3 v4 v5) :=
  ((((((Alt.refl_ (fun i => i = b) w).set_ ⟨b, 0, none⟩ v0 (fun _ => rfl)).set_ ⟨b, 1, none⟩ v1 (fun _ => rfl)).set_ ⟨b, 2, none⟩ v2 (fun _ => rfl)).set_ ⟨b, 3, none⟩ v3 (fun _ => rfl)).set_ ⟨b, 4, none⟩ v4 (fun _ => rfl)).set_ ⟨b, 5, none⟩ v5 (fun _ => rfl)
theorem Wi.below_ {lo n c : Nat} {ow : Bool} {bl : List (Option Nat)} {A : Option Addr} {xss : List (List Int)} (h : Wi w lo ow bl A c n xss) (k : Below w.heap.size w w') : Wi w' lo ow bl A c n xss := by
  obtain ⟨vals, h1, h2, h3⟩ := h
  have ka : Alt (fun i => w.heap.size ≤ i) w w' := Alt.of_below k fun _ _ h => h
  refine ⟨vals, ownsRow_altV h1 ka (fun g hg hc => by have := (h1.lt g hg).2; omega), h2, fun j hj => ?_⟩
  obtain ⟨P, d, h4, h5, h6, h7, h8⟩ := h3 j hj
  exact ⟨P, d, h4, h5.below k (Nat.le_refl _), fun q o hq => ⟨(h6 q o hq).1, Nat.lt_of_lt_of_le (h6 q o hq).2 k.size⟩, fun ho => own_list ka (h7 ho) (fun q o hP hc => by have := (h6 q o hP).2; omega), h8⟩
theorem Wi.alt1 {lo n c b0 : Nat} {ow : Bool} {bl : List (Option Nat)} {A : Option Addr} {xss : List (List Int)} (h : Wi w lo ow bl A c n xss) (k : Alt (fun i => i = b0) w w') (hA : b0 < lo) : Wi w' lo ow bl A c n xss := by
  obtain ⟨vals, h1, h2, h3⟩ := h
  refine ⟨vals, ownsRow_altV h1 k (fun g hg hc => by have := (h1.lt g hg).1; omega), h2, fun j hj => ?_⟩
  obtain ⟨P, d, h4, h5, h6, h7, h8⟩ := h3 j hj
  have hS : ∀ q o, P = some ⟨q, o, none⟩ → ¬ (q = b0) := fun q o hP hc => by have := h8 q o hP; omega
  exact ⟨P, d, h4, h5.alt k (fun _ q o hP => hS q o hP), fun q o hq => ⟨(h6 q o hq).1, Nat.lt_of_lt_of_le (h6 q o hq).2 k.size⟩, fun ho => own_list k (h7 ho) hS, h8⟩
end
def RetCv (w : World) (l : List Ln) (e : Ending) (w' : World) : Prop :=
  ∃ Ag cg Oa oc Ea ec Wa wc bl, e = .returned (.tuple #[.agg #[.int .i64 (sumI (insL l 0)), .int .i64 (sumI (insL l 1)), .slice Ag (cc l).g.length cg, .slice Oa (cc l).os.length oc, .slice Wa l.length wc, .slice Ea l.length ec], .bool true]) ∧ OwnC w' w.heap.size w'.heap.size Ag (cc l).g.length cg Oa (cc l).os.length oc (cc l).g (cc l).os ∧
    Own w' w.heap.size w'.heap.size (.slice Ea l.length ec) l.length (cc l).es ∧ Wi w' w.heap.size true bl Wa wc l.length (cc l).ws ∧ Below w.heap.size w w'
theorem RetCp.cc_ {w w' : World} {l : List Ln} {e : Ending} (h : RetCp w l e w') :
    ∃ Ag cg Oa oc Ea ec Wa wc bl, e = .returned (.agg #[.int .i64 (sumI (insL l 0)), .int .i64 (sumI (insL l 1)), .slice Ag (cc l).g.length cg, .slice Oa (cc l).os.length oc, .slice Wa l.length wc, .slice Ea l.length ec]) ∧ OwnC w' w.heap.size w'.heap.size Ag (cc l).g.length cg Oa (cc l).os.length oc (cc l).g (cc l).os ∧
    Own w' w.heap.size w'.heap.size (.slice Ea l.length ec) l.length (cc l).es ∧ Wi w' w.heap.size true bl Wa wc l.length (cc l).ws ∧ Below w.heap.size w w' := h
theorem cc_small {l : List Ln} (h : goodP l) : (cc l).g.length ≤ 2097152 ∧ (cc l).os.length ≤ 2097152 := by
  have hi := cS_inv (sumI (insL l 0)) (sumI (insL l 1)) h.2.1 l.length (Nat.le_refl _)
  have h1 := hi.g
  have h2 := hi.os
  have h3 := h.1
  show (cS l (sumI (insL l 0)) (sumI (insL l 1)) l.length).g.length ≤ 2097152 ∧ (cS l (sumI (insL l 0)) (sumI (insL l 1)) l.length).os.length ≤ 2097152
  omega
set_option maxRecDepth 100000 in
set_option maxHeartbeats 4000000 in
theorem compileValid_ok (A : Option Addr) (n c : Nat) (l : List Ln) (w : World) (ha : RLn w A n l) (hn : n ≤ 2097152) (hcap : n ≤ c) (hsh : ∀ x ∈ l, shortL x) (hg : coB l = true) :
    Calls Tryz.prog 42 #[.slice A n c] w (RetCv w l) := by
  obtain ⟨hgd, hcb⟩ := coB_good hg
  obtain ⟨hng, hno⟩ := cc_small hgd
  have HP := Lib.hid hcb
  have HG : Hid (decide (goodP l) = true) := Lib.hid (decide_eq_true hgd)
  have al0 : Below w.heap.size w (w.alloc (.cells #[.int .i64 0, .int .i64 0, .slice none 0 0, .slice none 0 0, .slice none 0 0, .slice none 0 0] 63)) := (Below.refl _ _).alloc (Nat.le_refl _) _
  have hz0 : Bx6 (w.alloc (.cells #[.int .i64 0, .int .i64 0, .slice none 0 0, .slice none 0 0, .slice none 0 0, .slice none 0 0] 63)) w.heap.size _ _ _ _ _ _ := Bx6.new w (.int .i64 0) (.int .i64 0) (.slice none 0 0) (.slice none 0 0) (.slice none 0 0) (.slice none 0 0) 63
  have fz0 : Fz (w.alloc (.cells #[.int .i64 0, .int .i64 0, .slice none 0 0, .slice none 0 0, .slice none 0 0, .slice none 0 0] 63)) w.heap.size := Fz.new w #[.int .i64 0, .int .i64 0, .slice none 0 0, .slice none 0 0, .slice none 0 0, .slice none 0 0] 63
  clear hg hcb
  go_enter Tryz.func42, Tryz.ntmps42
  go_wp2_with fail
  refine (IsProgram_any A n c l _ (ha.below al0 (Nat.le_refl _)) hn hcap hsh).mono ?_
  rintro e w1 ⟨rfl, hb1⟩
  rw [HG.out]
  have hB1 := al0.trans (hb1.mono al0.size)
  go_wp2_with fail
  refine (compile_any A n c l _ (ha.below hB1 (Nat.le_refl _)) hcap hsh hgd).mono ?_
  rintro e w2 hT
  obtain ⟨Ag, cg, Oa, oc, Ea, ec, Wa, wc, bl, rfl, hC, hE, hW, hb2⟩ := RetCp.cc_ hT
  have al2 : Below w2.heap.size w2 (w2.alloc (.cells #[.int .i64 (sumI (insL l 0)), .int .i64 (sumI (insL l 1)), .slice Ag (cc l).g.length cg, .slice Oa (cc l).os.length oc, .slice Wa l.length wc, .slice Ea l.length ec] 63)) := (Below.refl _ _).alloc (Nat.le_refl _) _
  have hbx : Bx6 (w2.alloc (.cells #[.int .i64 (sumI (insL l 0)), .int .i64 (sumI (insL l 1)), .slice Ag (cc l).g.length cg, .slice Oa (cc l).os.length oc, .slice Wa l.length wc, .slice Ea l.length ec] 63)) w2.heap.size _ _ _ _ _ _ := Bx6.new w2 (.int .i64 (sumI (insL l 0))) (.int .i64 (sumI (insL l 1))) (.slice Ag (cc l).g.length cg) (.slice Oa (cc l).os.length oc) (.slice Wa l.length wc) (.slice Ea l.length ec) 63
  have hq := hC.reads
  clear hT
  go_wp2_with fail
  refine (IsCircuit_any (sumI (insL l 0)) (sumI (insL l 1)) Ag (cc l).g.length cg Oa (cc l).os.length oc (cc l).g (cc l).os _ (hq.1.below al2 (Nat.le_refl _)) (hq.2.below al2 (Nat.le_refl _)) hng hno).mono ?_
  rintro e w3 ⟨rfl, hb3⟩
  rw [HP.out]
  have al23 := al2.trans (hb3.mono al2.size)
  have hz2 := hb2.size
  have hz3 := al23.size
  have BZ : Below (w.alloc (.cells #[.int .i64 0, .int .i64 0, .slice none 0 0, .slice none 0 0, .slice none 0 0, .slice none 0 0] 63)).heap.size (w.alloc (.cells #[.int .i64 0, .int .i64 0, .slice none 0 0, .slice none 0 0, .slice none 0 0, .slice none 0 0] 63)) w3 := (hb1.trans (hb2.mono hb1.size)).trans (al23.mono (hb1.trans (hb2.mono hb1.size)).size)
  have hx3 := hz0.below BZ
  have fz3 := fz0.below BZ (by simp)
  have hbx3 := hbx.below hb3
  have hzz : w.heap.size < w1.heap.size := by have := hb1.size; simp at this; omega
  have hC3 := hC.below al23 (.inl (Nat.le_refl _))
  have hE3 := hE.below al23 (.inl (Nat.le_refl _))
  have hW3 := hW.below_ al23
  have hB3 : Below w.heap.size w w3 := hB1.trans ((hb2.trans (al23.mono hb2.size)).mono hB1.size)
  have fin : Hid (∀ wf, Alt (fun i => i = w.heap.size) w3 wf → RetCv w l (.returned (.tuple #[.agg #[.int .i64 (sumI (insL l 0)), .int .i64 (sumI (insL l 1)), .slice Ag (cc l).g.length cg, .slice Oa (cc l).os.length oc, .slice Wa l.length wc, .slice Ea l.length ec], .bool true])) wf) := Lib.hid (fun wf ka => by
    refine ⟨Ag, cg, Oa, oc, Ea, ec, Wa, wc, bl, rfl, ⟨?_, ?_, hC3.2.2⟩, ?_, ?_, ?_⟩
    · exact ((hC3.1.alt ka (fun g hg hc => by have := hC3.1.lt g hg; omega)).now).lo_ (by omega)
    · exact ((hC3.2.1.alt ka (fun g hg hc => by have := hC3.2.1.lt g hg; omega)).now).lo_ (by omega)
    · exact ((hE3.alt ka (fun g hg hc => by have := hE3.lt g hg; omega)).now).lo_ (by omega)
    · exact (hW3.alt1 ka hzz).lo_ (by omega)
    · exact hB3.trans (ka.below_ (by have := hB3.size; omega) (fun i hi hc => by have hc' : i = w.heap.size := hc; omega)))
  have V := Lib.hid (hx3.st (.int .i64 (sumI (insL l 0))) (.int .i64 (sumI (insL l 1))) (.slice Ag (cc l).g.length cg) (.slice Oa (cc l).os.length oc) (.slice Wa l.length wc) (.slice Ea l.length ec))
  have f0 := fz3 0; have f1 := fz3 1; have f2 := fz3 2; have f3 := fz3 3; have f4 := fz3 4; have f5 := fz3 5
  obtain ⟨r0, r1, r2, r3, r4, r5⟩ := hx3
  obtain ⟨k0, k1, k2, k3, k4, k5⟩ := hbx3
  clear hC hE hW hC3 hE3 hW3 hB3 hB1 hb1 hb2 hb3 al2 al23 BZ hz0 fz0 fz3 hbx hq al0 ha hsh hgd
  go_wp2
  obtain ⟨t0, t1, t2, t3, t4, t5⟩ := V.out
  simp only [st6] at t0 t1 t2 t3 t4 t5
  refine bodyPost_ret (v := .tuple #[.agg #[.int .i64 (sumI (insL l 0)), .int .i64 (sumI (insL l 1)), .slice Ag (cc l).g.length cg, .slice Oa (cc l).os.length oc, .slice Wa l.length wc, .slice Ea l.length ec], .bool true]) (by simp [results, Tryz.results42, go_sem, t0, t1, t2, t3, t4, t5]) rfl ?_
  exact fin.out _ (st6_alt w3 w.heap.size _ _ _ _ _ _)
set_option maxRecDepth 100000 in
set_option maxHeartbeats 4000000 in
theorem compileValid_no (A : Option Addr) (n c : Nat) (l : List Ln) (w : World) (ha : RLn w A n l) (hn : n ≤ 2097152) (hcap : n ≤ c) (hsh : ∀ x ∈ l, shortL x) (hg : coB l = false) :
    Calls Tryz.prog 42 #[.slice A n c] w fun e w' => e = .returned (.tuple #[.agg #[.int .i64 0, .int .i64 0, .slice none 0 0, .slice none 0 0, .slice none 0 0, .slice none 0 0], .bool false]) ∧ Below w.heap.size w w' := by
  have al0 : Below w.heap.size w (w.alloc (.cells #[.int .i64 0, .int .i64 0, .slice none 0 0, .slice none 0 0, .slice none 0 0, .slice none 0 0] 63)) := (Below.refl _ _).alloc (Nat.le_refl _) _
  have hz0 : Bx6 (w.alloc (.cells #[.int .i64 0, .int .i64 0, .slice none 0 0, .slice none 0 0, .slice none 0 0, .slice none 0 0] 63)) w.heap.size _ _ _ _ _ _ := Bx6.new w (.int .i64 0) (.int .i64 0) (.slice none 0 0) (.slice none 0 0) (.slice none 0 0) (.slice none 0 0) 63
  have fz0 : Fz (w.alloc (.cells #[.int .i64 0, .int .i64 0, .slice none 0 0, .slice none 0 0, .slice none 0 0, .slice none 0 0] 63)) w.heap.size := Fz.new w #[.int .i64 0, .int .i64 0, .slice none 0 0, .slice none 0 0, .slice none 0 0, .slice none 0 0] 63
  have fin : Hid (∀ w3, Below w.heap.size w w3 → Below w.heap.size w (st6 w3 w.heap.size (.int .i64 0) (.int .i64 0) (.slice none 0 0) (.slice none 0 0) (.slice none 0 0) (.slice none 0 0))) := Lib.hid (fun w3 hB => hB.trans ((st6_alt w3 w.heap.size _ _ _ _ _ _).below_ (by have := hB.size; omega) (fun i hi hc => by have hc' : i = w.heap.size := hc; omega)))
  by_cases hgd : goodP l
  · have hcb : circB (sumI (insL l 0)) (sumI (insL l 1)) (cc l).g (cc l).os = false := by
      unfold coB at hg; rw [decide_eq_true hgd, Bool.true_and] at hg; exact hg
    obtain ⟨hng, hno⟩ := cc_small hgd
    have HP := Lib.hid hcb
    have HG : Hid (decide (goodP l) = true) := Lib.hid (decide_eq_true hgd)
    clear hg hcb
    go_enter Tryz.func42, Tryz.ntmps42
    go_wp2_with fail
    refine (IsProgram_any A n c l _ (ha.below al0 (Nat.le_refl _)) hn hcap hsh).mono ?_
    rintro e w1 ⟨rfl, hb1⟩
    rw [HG.out]
    have hB1 := al0.trans (hb1.mono al0.size)
    go_wp2_with fail
    refine (compile_any A n c l _ (ha.below hB1 (Nat.le_refl _)) hcap hsh hgd).mono ?_
    rintro e w2 hT
    obtain ⟨Ag, cg, Oa, oc, Ea, ec, Wa, wc, bl, rfl, hC, hE, hW, hb2⟩ := RetCp.cc_ hT
    have al2 : Below w2.heap.size w2 (w2.alloc (.cells #[.int .i64 (sumI (insL l 0)), .int .i64 (sumI (insL l 1)), .slice Ag (cc l).g.length cg, .slice Oa (cc l).os.length oc, .slice Wa l.length wc, .slice Ea l.length ec] 63)) := (Below.refl _ _).alloc (Nat.le_refl _) _
    have hq := hC.reads
    clear hT
    go_wp2_with fail
    refine (IsCircuit_any (sumI (insL l 0)) (sumI (insL l 1)) Ag (cc l).g.length cg Oa (cc l).os.length oc (cc l).g (cc l).os _ (hq.1.below al2 (Nat.le_refl _)) (hq.2.below al2 (Nat.le_refl _)) hng hno).mono ?_
    rintro e w3 ⟨rfl, hb3⟩
    rw [HP.out]
    have al23 := al2.trans (hb3.mono al2.size)
    have BZ : Below (w.alloc (.cells #[.int .i64 0, .int .i64 0, .slice none 0 0, .slice none 0 0, .slice none 0 0, .slice none 0 0] 63)).heap.size (w.alloc (.cells #[.int .i64 0, .int .i64 0, .slice none 0 0, .slice none 0 0, .slice none 0 0, .slice none 0 0] 63)) w3 := (hb1.trans (hb2.mono hb1.size)).trans (al23.mono (hb1.trans (hb2.mono hb1.size)).size)
    have hx3 := hz0.below BZ
    have fz3 := fz0.below BZ (by simp)
    have hB3 : Below w.heap.size w w3 := hB1.trans ((hb2.trans (al23.mono hb2.size)).mono hB1.size)
    have hfin := Lib.hid (fin.out w3 hB3)
    have V := Lib.hid (hx3.st (.int .i64 0) (.int .i64 0) (.slice none 0 0) (.slice none 0 0) (.slice none 0 0) (.slice none 0 0))
    have f0 := fz3 0; have f1 := fz3 1; have f2 := fz3 2; have f3 := fz3 3; have f4 := fz3 4; have f5 := fz3 5
    obtain ⟨r0, r1, r2, r3, r4, r5⟩ := hx3
    clear hC hE hW hB3 hB1 hb1 hb2 hb3 al2 al23 BZ hz0 fz0 fz3 hq al0 ha hsh hgd fin
    go_wp2
    obtain ⟨t0, t1, t2, t3, t4, t5⟩ := V.out
    simp only [st6] at t0 t1 t2 t3 t4 t5
    refine bodyPost_ret (v := .tuple #[.agg #[.int .i64 0, .int .i64 0, .slice none 0 0, .slice none 0 0, .slice none 0 0, .slice none 0 0], .bool false]) (by simp [results, Tryz.results42, go_sem, t0, t1, t2, t3, t4, t5]) rfl ?_
    exact ⟨rfl, hfin.out⟩
  · have HG : Hid (decide (goodP l) = false) := Lib.hid (decide_eq_false hgd)
    clear hg hgd
    go_enter Tryz.func42, Tryz.ntmps42
    go_wp2_with fail
    refine (IsProgram_any A n c l _ (ha.below al0 (Nat.le_refl _)) hn hcap hsh).mono ?_
    rintro e w1 ⟨rfl, hb1⟩
    rw [HG.out]
    have hB1 := al0.trans (hb1.mono al0.size)
    have hx3 := hz0.below hb1
    have fz3 := fz0.below hb1 (by simp)
    have hfin := Lib.hid (fin.out w1 hB1)
    have V := Lib.hid (hx3.st (.int .i64 0) (.int .i64 0) (.slice none 0 0) (.slice none 0 0) (.slice none 0 0) (.slice none 0 0))
    have f0 := fz3 0; have f1 := fz3 1; have f2 := fz3 2; have f3 := fz3 3; have f4 := fz3 4; have f5 := fz3 5
    obtain ⟨r0, r1, r2, r3, r4, r5⟩ := hx3
    clear hB1 hb1 hz0 fz0 fz3 al0 ha hsh fin
    go_wp2
    obtain ⟨t0, t1, t2, t3, t4, t5⟩ := V.out
    simp only [st6] at t0 t1 t2 t3 t4 t5
    refine bodyPost_ret (v := .tuple #[.agg #[.int .i64 0, .int .i64 0, .slice none 0 0, .slice none 0 0, .slice none 0 0, .slice none 0 0], .bool false]) (by simp [results, Tryz.results42, go_sem, t0, t1, t2, t3, t4, t5]) rfl ?_
    exact ⟨rfl, hfin.out⟩
def compF (l : List Ln) : Option Ci := if coB l = true then some ⟨sumI (insL l 0), sumI (insL l 1), (cc l).g, (cc l).os⟩ else none
set_option maxRecDepth 100000 in
set_option maxHeartbeats 4000000 in
theorem CompileProgram_any (A : Option Addr) (n c : Nat) (l : List Ln) (w : World) (ha : RLn w A n l) (hn : n ≤ 2097152) (hcap : n ≤ c) (hsh : ∀ x ∈ l, shortL x) :
    Calls Tryz.prog 16 #[.slice A n c] w (RetC w (compF l)) := by
  have al0 : Below w.heap.size w (w.alloc (.cells #[.int .i64 0, .int .i64 0, .slice none 0 0, .slice none 0 0] 38)) := (Below.refl _ _).alloc (Nat.le_refl _) _
  have hz0 : BxC (w.alloc (.cells #[.int .i64 0, .int .i64 0, .slice none 0 0, .slice none 0 0] 38)) w.heap.size 0 0 none 0 0 none 0 0 := BxC.new _ _
  have fz0 : Fz (w.alloc (.cells #[.int .i64 0, .int .i64 0, .slice none 0 0, .slice none 0 0] 38)) w.heap.size := Fz.new w #[.int .i64 0, .int .i64 0, .slice none 0 0, .slice none 0 0] 38
  have hs0 : (w.alloc (.cells #[.int .i64 0, .int .i64 0, .slice none 0 0, .slice none 0 0] 38)).heap.size = w.heap.size + 1 := by simp
  cases hg : coB l with
  | true =>
    have HR : Hid (compF l = some ⟨sumI (insL l 0), sumI (insL l 1), (cc l).g, (cc l).os⟩) := Lib.hid (if_pos hg)
    go_enter Tryz.func16, Tryz.ntmps16
    go_wp2_with fail
    refine (compileValid_ok A n c l _ (ha.below al0 (Nat.le_refl _)) hn hcap hsh hg).mono ?_
    rintro e w1 hT
    obtain ⟨Ag, cg, Oa, oc, Ea, ec, Wa, wc, bl, rfl, hC, hE, hW, hb1⟩ := hT
    have al1 : Below w1.heap.size w1 (w1.alloc (.cells #[.int .i64 (sumI (insL l 0)), .int .i64 (sumI (insL l 1)), .slice Ag (cc l).g.length cg, .slice Oa (cc l).os.length oc, .slice Wa l.length wc, .slice Ea l.length ec] 63)) := (Below.refl _ _).alloc (Nat.le_refl _) _
    have hB1 := hb1.trans (al1.mono hb1.size)
    have hz1 := hz0.below hB1
    have fz1 := fz0.below hB1 (by rw [hs0]; omega)
    have hC1 := hC.below al1 (.inl (Nat.le_refl _))
    have hBt := al0.trans (hB1.mono al0.size)
    have hq := hz1; obtain ⟨r0, r1, r2, r3⟩ := hq
    have g0 := fz1 0; have g1 := fz1 1; have g2 := fz1 2; have g3 := fz1 3
    have hsz := hb1.size
    rw [hs0] at hsz hC1
    have hC2 := fun (x y : Int) (Ag : Option Addr) (ng cg : Nat) (Ao : Option Addr) (no co : Nat) => OwnC.lo_ (lo' := w.heap.size) ((hC1.set4 (b := w.heap.size) (.inl (by omega)) x y Ag ng cg Ao no co).now) (by omega)
    clear hE hW fz1 fz0 hC hg
    go_wp2
    have hq9 := BxC.set4 (hz1) (sumI (insL l 0)) (sumI (insL l 1)) Ag (cc l).g.length cg Oa (cc l).os.length oc
    obtain ⟨q0, q1, q2, q3⟩ := hq9
    refine bodyPost_ret (v := .tuple #[.agg #[.int .i64 (sumI (insL l 0)), .int .i64 (sumI (insL l 1)), .slice Ag (cc l).g.length cg, .slice Oa (cc l).os.length oc], .bool true]) (by simp [results, Tryz.results16, go_sem, q0, q1, q2, q3]) rfl ?_
    exact RetC.some_ (below_set4 hBt (Nat.le_refl _) _ _ _ _ _ _ _ _) HR.out rfl rfl rfl (hC2 _ _ _ _ _ _ _ _)
  | false =>
    have HR : Hid (compF l = none) := Lib.hid (if_neg (by rw [hg]; decide))
    go_enter Tryz.func16, Tryz.ntmps16
    go_wp2_with fail
    refine (compileValid_no A n c l _ (ha.below al0 (Nat.le_refl _)) hn hcap hsh hg).mono ?_
    rintro e w1 ⟨rfl, hb1⟩
    have al1 : Below w1.heap.size w1 (w1.alloc (.cells #[.int .i64 0, .int .i64 0, .slice none 0 0, .slice none 0 0, .slice none 0 0, .slice none 0 0] 63)) := (Below.refl _ _).alloc (Nat.le_refl _) _
    have hB1 := hb1.trans (al1.mono hb1.size)
    have hz1 := hz0.below hB1
    have fz1 := fz0.below hB1 (by rw [hs0]; omega)
    have hBt := al0.trans (hB1.mono al0.size)
    have hq := hz1; obtain ⟨r0, r1, r2, r3⟩ := hq
    have g0 := fz1 0; have g1 := fz1 1; have g2 := fz1 2; have g3 := fz1 3
    clear fz1 fz0 hg
    go_wp2
    have hq9 := BxC.set4 (hz1) 0 0 none 0 0 none 0 0
    obtain ⟨q0, q1, q2, q3⟩ := hq9
    refine bodyPost_ret (v := .tuple #[.agg #[.int .i64 0, .int .i64 0, .slice none 0 0, .slice none 0 0], .bool false]) (by simp [results, Tryz.results16, go_sem, q0, q1, q2, q3]) rfl ?_
    exact RetC.none_ (below_set4 hBt (Nat.le_refl _) _ _ _ _ _ _ _ _) HR.out rfl
theorem Wi.at_ {w : World} {lo n c j : Nat} {ow : Bool} {bl : List (Option Nat)} {A : Option Addr} {xss : List (List Int)} (h : Wi w lo ow bl A c n xss) (hj : j < n) :
    ∃ g P d, A = some ⟨g, 0, none⟩ ∧ w.cell? ⟨g, j, none⟩ = some (.slice P (gl xss j).length d) ∧ RI w P (gl xss j).length (gl xss j) ∧ (ow = true → Own w lo w.heap.size (.slice P (gl xss j).length d) (gl xss j).length (gl xss j)) ∧ ∀ q o, P = some ⟨q, o, none⟩ → lo ≤ q ∧ q < w.heap.size := by
  obtain ⟨vals, h1, h2, h3⟩ := h
  obtain ⟨g, cap, hv, hgl, hgs⟩ := h1.form (by omega)
  simp only [Value.slice.injEq, true_and] at hv
  obtain ⟨rfl, rfl⟩ := hv
  obtain ⟨P, d, h4, h5, h6, h7, h8⟩ := h3 j hj
  exact ⟨g, P, d, rfl, by rw [h1.cellAt j (by omega), h4], h5, h7, fun q o hq => ⟨h8 q o hq, (h6 q o hq).2⟩⟩
def lgF (l : List Ln) (k : Int) : Option Int := if coB l = true ∧ inB 0 (((cc l).g.length : Int) - 1) k = true then some (idxP (fun e => decide (k < e)) (cc l).es) else none
theorem LineOfGate1_any (k e : Int) (b : Nat) (w : World) (hc : w.cell? ⟨b, 0, none⟩ = some (.int .i64 k)) :
    Calls Tryz.prog 90 #[.int .i64 e, .pointer (some ⟨b, 0, none⟩)] w fun e' w' => e' = .returned (.bool (decide (k < e))) ∧ Below w.heap.size w w' := by
  have hb := World.block_lt_of_cell? w _ hc
  by_cases h : k < e
  · have HR : Hid (decide (k < e) = true) := Lib.hid (by simp [h])
    go_enter Tryz.func90, Tryz.ntmps90
    go_wp2
    go_ret
    exact ⟨by first | rfl | (rw [HR.out]; rfl), by first | exact Below.refl _ _ | exact (Below.refl _ _).alloc (Nat.le_refl _) _⟩
  · have HR : Hid (decide (k < e) = false) := Lib.hid (by simp [h])
    go_enter Tryz.func90, Tryz.ntmps90
    go_wp2
    go_ret
    exact ⟨by first | rfl | (rw [HR.out]; rfl), by first | exact Below.refl _ _ | exact (Below.refl _ _).alloc (Nat.le_refl _) _⟩
set_option maxRecDepth 100000 in
set_option maxHeartbeats 1600000 in
theorem LineOfGate_any (A : Option Addr) (n c : Nat) (l : List Ln) (k : Int) (w : World) (ha : RLn w A n l) (hn : n ≤ 2097152) (hcap : n ≤ c) (hsh : ∀ x ∈ l, shortL x) :
    Calls Tryz.prog 34 #[.slice A n c, .int .i64 k] w fun e w' => e = .returned (.tuple #[.int .i64 ((lgF l k).getD 0), .bool (lgF l k).isSome]) ∧ Below w.heap.size w w' := by
  have al0 : Below w.heap.size w (w.alloc (.cells #[.int .i64 k] 3)) := (Below.refl _ _).alloc (Nat.le_refl _) _
  have hc0 : (w.alloc (.cells #[.int .i64 k] 3)).cell? ⟨w.heap.size, 0, none⟩ = some (.int .i64 k) := box_cell _ _ 0 _ rfl
  cases hg : coB l with
  | false =>
    have HR : Hid (lgF l k = none) := Lib.hid (if_neg (fun h => by rw [hg] at h; cases h.1))
    go_enter Tryz.func34, Tryz.ntmps34
    go_wp2_with fail
    refine (compileValid_no A n c l _ (ha.below al0 (Nat.le_refl _)) hn hcap hsh hg).mono ?_
    rintro e w1 ⟨rfl, hb1⟩
    have hB := al0.trans (hb1.mono al0.size)
    have hB2 := hB.alloc hB.size (.cells #[.int .i64 0, .int .i64 0, .slice none 0 0, .slice none 0 0, .slice none 0 0, .slice none 0 0] 63)
    clear hg
    go_wp2
    go_ret2
    exact ⟨by rw [HR.out]; rfl, hB2⟩
  | true =>
    obtain ⟨hgd, hcb⟩ := coB_good hg
    have hng := (circB_parts hcb).2.2.1
    have hl := ha.len
    subst hl
    have hn30 := hgd.1
    have hgh := Lib.hid hg
    go_enter Tryz.func34, Tryz.ntmps34
    go_wp2_with fail
    refine (compileValid_ok A l.length c l _ (ha.below al0 (Nat.le_refl _)) hn hcap hsh hg).mono ?_
    rintro e w1 hT
    obtain ⟨Ag, cg, Oa, oc, Ea, ec, Wa, wc, bl, rfl, hC, hE, hW, hb1⟩ := hT
    have al1 : Below w1.heap.size w1 (w1.alloc (.cells #[.int .i64 (sumI (insL l 0)), .int .i64 (sumI (insL l 1)), .slice Ag (cc l).g.length cg, .slice Oa (cc l).os.length oc, .slice Wa l.length wc, .slice Ea l.length ec] 63)) := (Below.refl _ _).alloc (Nat.le_refl _) _
    have hc1 := cell_on (hb1.trans (al1.mono hb1.size)) hc0 (Nat.le_refl _)
    have hB := al0.trans ((hb1.trans (al1.mono hb1.size)).mono al0.size)
    have hE1 := hE.reads.below al1 (Nat.le_refl _)
    have hx : Bx6 (w1.alloc (.cells #[.int .i64 (sumI (insL l 0)), .int .i64 (sumI (insL l 1)), .slice Ag (cc l).g.length cg, .slice Oa (cc l).os.length oc, .slice Wa l.length wc, .slice Ea l.length ec] 63)) w1.heap.size _ _ _ _ _ _ := Bx6.new w1 (.int .i64 (sumI (insL l 0))) (.int .i64 (sumI (insL l 1))) (.slice Ag (cc l).g.length cg) (.slice Oa (cc l).os.length oc) (.slice Wa l.length wc) (.slice Ea l.length ec) 63
    obtain ⟨k0, k1, k2, k3, k4, k5⟩ := hx
    have hz1 : w.heap.size < (w1.alloc (.cells #[.int .i64 (sumI (insL l 0)), .int .i64 (sumI (insL l 1)), .slice Ag (cc l).g.length cg, .slice Oa (cc l).os.length oc, .slice Wa l.length wc, .slice Ea l.length ec] 63)).heap.size := by have h1 := hb1.size; have h2 := al0.size; simp at h1 ⊢; omega
    have hwr : IntKind.i64.wrap (((cc l).g.length : Int) - 1) = ((cc l).g.length : Int) - 1 := IntWalk.i64_in _ (by omega)
    clear hC hE hW hg hcb ha hsh
    cases hin : inB 0 (((cc l).g.length : Int) - 1) k with
    | false =>
      have HR : Hid (lgF l k = none) := Lib.hid (if_neg (fun h => by rw [hin] at h; cases h.2))
      go_wp2_with fail
      refine (within_any k 0 (((cc l).g.length : Int) - 1) false hin _).mono ?_
      rintro e w2 ⟨rfl, rfl⟩
      go_wp2
      go_ret2
      exact ⟨by rw [HR.out]; rfl, hB⟩
    | true =>
      have HR : Hid (lgF l k = some (idxP (fun e => decide (k < e)) (cc l).es)) := Lib.hid (if_pos ⟨hgh.out, hin⟩)
      go_wp2_with fail
      refine (within_any k 0 (((cc l).g.length : Int) - 1) true hin _).mono ?_
      rintro e w2 ⟨rfl, rfl⟩
      go_wp2_with fail
      refine (IndexFunc_any 90 Tryz.call90 #[.pointer (some ⟨w.heap.size, 0, none⟩)] (fun e => decide (k < e)) Ea l.length ec (cc l).es _ hE1 (by omega) (Lib.hid fun x hx w2 hb2 => LineOfGate1_any k x w.heap.size w2 ((hb2.cell (p := ⟨w.heap.size, 0, none⟩) hz1).trans hc1))).mono ?_
      rintro e w3 ⟨rfl, hb3⟩
      go_wp2
      go_ret2
      exact ⟨by rw [HR.out]; rfl, hB.trans (hb3.mono hB.size)⟩
def wiF (l : List Ln) (nm : Str) : Option (List Int) := if coB l = true ∧ 0 ≤ iFind l nm then some (gl (cc l).ws (iFind l nm).toNat) else none
set_option maxRecDepth 100000 in
set_option maxHeartbeats 1600000 in
theorem WiresOf_any (A : Option Addr) (n c : Nat) (l : List Ln) (nm : Str) (w : World) (ha : RLn w A n l) (hn : n ≤ 2097152) (hcap : n ≤ c) (hsh : ∀ x ∈ l, shortL x) :
    Calls Tryz.prog 31 #[.slice A n c, .string (bs nm)] w (RetO w (wiF l nm)) := by
  cases hg : coB l with
  | false =>
    have HR : Hid (wiF l nm = none) := Lib.hid (if_neg (fun h => by rw [hg] at h; cases h.1))
    go_enter Tryz.func31, Tryz.ntmps31
    go_wp2_with fail
    refine (compileValid_no A n c l _ ha hn hcap hsh hg).mono ?_
    rintro e w1 ⟨rfl, hb1⟩
    have hB := hb1.alloc hb1.size (.cells #[.int .i64 0, .int .i64 0, .slice none 0 0, .slice none 0 0, .slice none 0 0, .slice none 0 0] 63)
    go_wp2_with fail
    refine (lineOf_any A n c l nm _ (ha.below hB (Nat.le_refl _)) hn).mono ?_
    rintro e w2 ⟨rfl, hb2⟩
    clear hg
    go_wp2
    go_ret2
    exact RetO.none_ (hB.trans (hb2.mono hB.size)) HR.out rfl
  | true =>
    obtain ⟨hgd, hcb⟩ := coB_good hg
    have hl := ha.len
    subst hl
    have hn30 := hgd.1
    have hgh := Lib.hid hg
    go_enter Tryz.func31, Tryz.ntmps31
    go_wp2_with fail
    refine (compileValid_ok A l.length c l _ ha hn hcap hsh hg).mono ?_
    rintro e w1 hT
    obtain ⟨Ag, cg, Oa, oc, Ea, ec, Wa, wc, bl, rfl, hC, hE, hW, hb1⟩ := hT
    have al1 : Below w1.heap.size w1 (w1.alloc (.cells #[.int .i64 (sumI (insL l 0)), .int .i64 (sumI (insL l 1)), .slice Ag (cc l).g.length cg, .slice Oa (cc l).os.length oc, .slice Wa l.length wc, .slice Ea l.length ec] 63)) := (Below.refl _ _).alloc (Nat.le_refl _) _
    have hx : Bx6 (w1.alloc (.cells #[.int .i64 (sumI (insL l 0)), .int .i64 (sumI (insL l 1)), .slice Ag (cc l).g.length cg, .slice Oa (cc l).os.length oc, .slice Wa l.length wc, .slice Ea l.length ec] 63)) w1.heap.size _ _ _ _ _ _ := Bx6.new w1 (.int .i64 (sumI (insL l 0))) (.int .i64 (sumI (insL l 1))) (.slice Ag (cc l).g.length cg) (.slice Oa (cc l).os.length oc) (.slice Wa l.length wc) (.slice Ea l.length ec) 63
    have hB := hb1.trans (al1.mono hb1.size)
    go_wp2_with fail
    refine (lineOf_any A l.length c l nm _ (ha.below hB (Nat.le_refl _)) hn).mono ?_
    rintro e w2 ⟨rfl, hb2⟩
    have hx2 := hx.below hb2
    obtain ⟨k0, k1, k2, k3, k4, k5⟩ := hx2
    have hW2 := hW.below_ (al1.trans (hb2.mono al1.size))
    have hB2 := hB.trans (hb2.mono hB.size)
    have hfb := iFind_bd l nm
    clear hC hE hW hx ha hsh
    by_cases hf : 0 ≤ iFind l nm
    · have HR : Hid (wiF l nm = some (gl (cc l).ws (iFind l nm).toNat)) := Lib.hid (if_pos ⟨hg, hf⟩)
      obtain ⟨F, hF⟩ := Int.eq_ofNat_of_zero_le hf
      rw [hF] at HR hfb ⊢
      simp only [Int.toNat_natCast] at HR
      clear hg hcb hF hf
      obtain ⟨g, P, d, hWa, hcell, _, hown, _⟩ := hW2.at_ (j := F) (by omega)
      subst hWa
      have ho := hown rfl
      go_wp2
      go_ret2
      exact RetO.some_ hB2 HR.out rfl rfl ho
    · have HR : Hid (wiF l nm = none) := Lib.hid (if_neg (fun h => hf h.2))
      clear hg hcb
      go_wp2
      go_ret2
      exact RetO.none_ hB2 HR.out rfl
end Go.Proofs.YtenknpcbbcbciaaGreat
