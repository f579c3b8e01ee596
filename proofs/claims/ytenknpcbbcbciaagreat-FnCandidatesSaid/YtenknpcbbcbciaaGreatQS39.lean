/- Contracts of the degrees of arithmetic circuits. -/
import Derived.Test.YtenknpcbbcbciaaGreatQS38
import Derived.Test.YtenknpcbbcbciaaGreatQS35
import Derived.Laws.CopyOwn
namespace Go.Proofs.YtenknpcbbcbciaaGreat
open Go.RowKit
set_option linter.unusedVariables false
set_option linter.unusedSimpArgs false
def Bx6 (w : World) (b : Nat) (v0 v1 v2 v3 v4 v5 : Value) : Prop :=
 w.cell? ⟨b, 0, none⟩ = some v0 ∧ w.cell? ⟨b, 1, none⟩ = some v1 ∧ w.cell? ⟨b, 2, none⟩ = some v2 ∧ w.cell? ⟨b, 3, none⟩ = some v3 ∧ w.cell? ⟨b, 4, none⟩ = some v4 ∧ w.cell? ⟨b, 5, none⟩ = some v5
section
variable {w w' : World} {b : Nat} {v0 v1 v2 v3 v4 v5 : Value}
theorem Bx6.new (w : World) (v0 v1 v2 v3 v4 v5 : Value) (T : TypeId) : Bx6 (w.alloc (.cells #[v0, v1, v2, v3, v4, v5] T)) w.heap.size v0 v1 v2 v3 v4 v5 :=
 ⟨Zaf _ _ 0 _ rfl, Zaf _ _ 1 _ rfl, Zaf _ _ 2 _ rfl, Zaf _ _ 3 _ rfl, Zaf _ _ 4 _ rfl, Zaf _ _ 5 _ rfl⟩
theorem Bx6.below (h : Bx6 w b v0 v1 v2 v3 v4 v5) (k : Below w.heap.size w w') : Bx6 w' b v0 v1 v2 v3 v4 v5 :=
 ⟨Zat h.1 k, Zat h.2.1 k, Zat h.2.2.1 k, Zat h.2.2.2.1 k, Zat h.2.2.2.2.1 k, Zat h.2.2.2.2.2 k⟩
def st6 (w : World) (b : Nat) (v0 v1 v2 v3 v4 v5 : Value) : World :=
 (((((w.setCell ⟨b, 0, none⟩ v0).setCell ⟨b, 1, none⟩ v1).setCell ⟨b, 2, none⟩ v2).setCell ⟨b, 3, none⟩ v3).setCell ⟨b, 4, none⟩ v4).setCell ⟨b, 5, none⟩ v5
theorem Bx6.st {u0 u1 u2 u3 u4 u5 : Value} (h : Bx6 w b u0 u1 u2 u3 u4 u5) (v0 v1 v2 v3 v4 v5 : Value) : Bx6 (st6 w b v0 v1 v2 v3 v4 v5) b v0 v1 v2 v3 v4 v5 :=
 set6_cells h.1 h.2.1 h.2.2.1 h.2.2.2.1 h.2.2.2.2.1 h.2.2.2.2.2 v0 v1 v2 v3 v4 v5
theorem st6_alt (w : World) (b : Nat) (v0 v1 v2 v3 v4 v5 : Value) : Alt (fun i => i = b) w (st6 w b v0 v1 v2 v3 v4 v5) :=
 ((((((Alt.refl_ (fun i => i = b) w).set_ ⟨b, 0, none⟩ v0 (fun _ => rfl)).set_ ⟨b, 1, none⟩ v1 (fun _ => rfl)).set_ ⟨b, 2, none⟩ v2 (fun _ => rfl)).set_ ⟨b, 3, none⟩ v3 (fun _ => rfl)).set_ ⟨b, 4, none⟩ v4 (fun _ => rfl)).set_ ⟨b, 5, none⟩ v5 (fun _ => rfl)
theorem Wi.below_ {lo n c : Nat} {ow : Bool} {bl : List (Option Nat)} {A : Option Addr} {xss : List (List Int)} (h : Wi w lo ow bl A c n xss) (k : Below w.heap.size w w') : Wi w' lo ow bl A c n xss := by
 obtain ⟨vals, h1, h2, h3⟩ := h
 have ka : Alt (fun i => w.heap.size ≤ i) w w' := Alt.of_below k fun _ _ h => h
 refine ⟨vals, Zav h1 ka (fun g hg hc => by have := (h1.lt g hg).2; omega), h2, fun j hj => ?_⟩
 obtain ⟨P, d, h4, h5, h6, h7, h8⟩ := h3 j hj
 exact ⟨P, d, h4, h5.below k lR, fun q o hq => ⟨(h6 q o hq).1, Nat.lt_of_lt_of_le (h6 q o hq).2 k.size⟩, fun ho => Zez ka (h7 ho) (fun q o hP hc => by have := (h6 q o hP).2; omega), h8⟩
theorem Wi.alt1 {lo n c b0 : Nat} {ow : Bool} {bl : List (Option Nat)} {A : Option Addr} {xss : List (List Int)} (h : Wi w lo ow bl A c n xss) (k : Alt (fun i => i = b0) w w') (hA : b0 < lo) : Wi w' lo ow bl A c n xss := by
 obtain ⟨vals, h1, h2, h3⟩ := h
 refine ⟨vals, Zav h1 k (fun g hg hc => by have := (h1.lt g hg).1; omega), h2, fun j hj => ?_⟩
 obtain ⟨P, d, h4, h5, h6, h7, h8⟩ := h3 j hj
 have hS : ∀ q o, P = some ⟨q, o, none⟩ → ¬ (q = b0) := fun q o hP hc => by have := h8 q o hP; omega
 exact ⟨P, d, h4, h5.alt k (fun _ q o hP => hS q o hP), fun q o hq => ⟨(h6 q o hq).1, Nat.lt_of_lt_of_le (h6 q o hq).2 k.size⟩, fun ho => Zez k (h7 ho) hS, h8⟩
end
def RetCv (w : World) (l : List Ln) (e : Ending) (w' : World) : Prop :=
 ∃ Ag cg Oa oc Ea ec Wa wc bl, e = .returned (.tuple #[.agg #[.int .i64 (sumI (insL l 0)), .int .i64 (sumI (insL l 1)), .slice Ag (cc l).g.length cg, .slice Oa (cc l).os.length oc, .slice Wa l.length wc, .slice Ea l.length ec], .bool true]) ∧ OwnC w' w.heap.size w'.heap.size Ag (cc l).g.length cg Oa (cc l).os.length oc (cc l).g (cc l).os ∧
  Own w' w.heap.size w'.heap.size (.slice Ea l.length ec) l.length (cc l).es ∧ Wi w' w.heap.size true bl Wa wc l.length (cc l).ws ∧ Below w.heap.size w w'
theorem RetCp.cc_ {w w' : World} {l : List Ln} {e : Ending} (h : RetCp w l e w') :
 ∃ Ag cg Oa oc Ea ec Wa wc bl, e = .returned (.agg #[.int .i64 (sumI (insL l 0)), .int .i64 (sumI (insL l 1)), .slice Ag (cc l).g.length cg, .slice Oa (cc l).os.length oc, .slice Wa l.length wc, .slice Ea l.length ec]) ∧ OwnC w' w.heap.size w'.heap.size Ag (cc l).g.length cg Oa (cc l).os.length oc (cc l).g (cc l).os ∧
 Own w' w.heap.size w'.heap.size (.slice Ea l.length ec) l.length (cc l).es ∧ Wi w' w.heap.size true bl Wa wc l.length (cc l).ws ∧ Below w.heap.size w w' := h
theorem cc_small {l : List Ln} (h : goodP l) : (cc l).g.length ≤ 2097152 ∧ (cc l).os.length ≤ 2097152 := by
 have hi := cS_inv (sumI (insL l 0)) (sumI (insL l 1)) h.2.1 l.length lR
 have h1 := hi.g
 have h2 := hi.os
 have h3 := h.1
 show (cS l (sumI (insL l 0)) (sumI (insL l 1)) l.length).g.length ≤ 2097152 ∧ (cS l (sumI (insL l 0)) (sumI (insL l 1)) l.length).os.length ≤ 2097152
 omega
set_option maxRecDepth 100000 in
set_option maxHeartbeats 4000000 in
theorem Zcv (A : Option Addr) (n c : Nat) (l : List Ln) (w : World) (ha : RLn w A n l) (hn : n ≤ 2097152) (hcap : n ≤ c) (hsh : ∀ x ∈ l, shortL x) (hg : coB l = true) :
 Calls Tryz.prog 42 #[.slice A n c] w (RetCv w l) := by
 obtain ⟨hgd, hcb⟩ := Zdq hg
 obtain ⟨hng, hno⟩ := cc_small hgd
 have HP := zH hcb
 have HG : Hid (decide (goodP l) = true) := zH (decide_eq_true hgd)
 have al0 : Below w.heap.size w (w.alloc (.cells #[.int .i64 0, .int .i64 0, .slice none 0 0, .slice none 0 0, .slice none 0 0, .slice none 0 0] 63)) := bA
 have hz0 : Bx6 (w.alloc (.cells #[.int .i64 0, .int .i64 0, .slice none 0 0, .slice none 0 0, .slice none 0 0, .slice none 0 0] 63)) w.heap.size _ _ _ _ _ _ := Bx6.new w (.int .i64 0) (.int .i64 0) (.slice none 0 0) (.slice none 0 0) (.slice none 0 0) (.slice none 0 0) 63
 have fz0 : Fz (w.alloc (.cells #[.int .i64 0, .int .i64 0, .slice none 0 0, .slice none 0 0, .slice none 0 0, .slice none 0 0] 63)) w.heap.size := Fz.new w #[.int .i64 0, .int .i64 0, .slice none 0 0, .slice none 0 0, .slice none 0 0, .slice none 0 0] 63
 clear hg hcb
 go_enter Tryz.func42, Tryz.ntmps42
 go_wp2_with fail
 refine (Zfk A n c l _ (ha.below al0 lR) hn hcap hsh).mono ?_
 rintro e w1 ⟨rfl, hb1⟩
 rw [HG.out]
 have hB1 := al0.trans (hb1.mono al0.size)
 go_wp2_with fail
 refine (compile_any A n c l _ (ha.below hB1 lR) hcap hsh hgd).mono ?_
 rintro e w2 hT
 obtain ⟨Ag, cg, Oa, oc, Ea, ec, Wa, wc, bl, rfl, hC, hE, hW, hb2⟩ := RetCp.cc_ hT
 have al2 : Below w2.heap.size w2 (w2.alloc (.cells #[.int .i64 (sumI (insL l 0)), .int .i64 (sumI (insL l 1)), .slice Ag (cc l).g.length cg, .slice Oa (cc l).os.length oc, .slice Wa l.length wc, .slice Ea l.length ec] 63)) := bA
 have hbx : Bx6 (w2.alloc (.cells #[.int .i64 (sumI (insL l 0)), .int .i64 (sumI (insL l 1)), .slice Ag (cc l).g.length cg, .slice Oa (cc l).os.length oc, .slice Wa l.length wc, .slice Ea l.length ec] 63)) w2.heap.size _ _ _ _ _ _ := Bx6.new w2 (.int .i64 (sumI (insL l 0))) (.int .i64 (sumI (insL l 1))) (.slice Ag (cc l).g.length cg) (.slice Oa (cc l).os.length oc) (.slice Wa l.length wc) (.slice Ea l.length ec) 63
 have hq := hC.reads
 clear hT
 go_wp2_with fail
 refine (IsCircuit_any (sumI (insL l 0)) (sumI (insL l 1)) Ag (cc l).g.length cg Oa (cc l).os.length oc (cc l).g (cc l).os _ (hq.1.below al2 lR) (hq.2.below al2 lR) hng hno).mono ?_
 rintro e w3 ⟨rfl, hb3⟩
 rw [HP.out]
 have al23 := al2.trans (hb3.mono al2.size)
 have hz2 := hb2.size
 have hz3 := al23.size
 have BZ : Below (w.alloc (.cells #[.int .i64 0, .int .i64 0, .slice none 0 0, .slice none 0 0, .slice none 0 0, .slice none 0 0] 63)).heap.size (w.alloc (.cells #[.int .i64 0, .int .i64 0, .slice none 0 0, .slice none 0 0, .slice none 0 0, .slice none 0 0] 63)) w3 := (hb1.trans (hb2.mono hb1.size)).trans (al23.mono (hb1.trans (hb2.mono hb1.size)).size)
 have hx3 := hz0.below BZ
 have fz3 := fz0.below BZ (by simp)
 have hbx3 := hbx.below hb3
 have hzz : w.heap.size < w1.heap.size := by have := hb1.size; simp at this; omega
 have hC3 := hC.below al23 (.inl lR)
 have hE3 := hE.below al23 (.inl lR)
 have hW3 := hW.below_ al23
 have hB3 : Below w.heap.size w w3 := hB1.trans ((hb2.trans (al23.mono hb2.size)).mono hB1.size)
 have fin : Hid (∀ wf, Alt (fun i => i = w.heap.size) w3 wf → RetCv w l (.returned (.tuple #[.agg #[.int .i64 (sumI (insL l 0)), .int .i64 (sumI (insL l 1)), .slice Ag (cc l).g.length cg, .slice Oa (cc l).os.length oc, .slice Wa l.length wc, .slice Ea l.length ec], .bool true])) wf) := zH (fun wf ka => by
  refine ⟨Ag, cg, Oa, oc, Ea, ec, Wa, wc, bl, rfl, ⟨?_, ?_, hC3.2.2⟩, ?_, ?_, ?_⟩
  ·exact ((hC3.1.alt ka (fun g hg hc => by have := hC3.1.lt g hg; omega)).now).lo_ (by omega)
  ·exact ((hC3.2.1.alt ka (fun g hg hc => by have := hC3.2.1.lt g hg; omega)).now).lo_ (by omega)
  ·exact ((hE3.alt ka (fun g hg hc => by have := hE3.lt g hg; omega)).now).lo_ (by omega)
  ·exact (hW3.alt1 ka hzz).lo_ (by omega)
  ·exact hB3.trans (ka.below_ (by have := hB3.size; omega) (fun i hi hc => by have hc' : i = w.heap.size := hc; omega)))
 have V := zH (hx3.st (.int .i64 (sumI (insL l 0))) (.int .i64 (sumI (insL l 1))) (.slice Ag (cc l).g.length cg) (.slice Oa (cc l).os.length oc) (.slice Wa l.length wc) (.slice Ea l.length ec))
 have f0 := fz3 0; have f1 := fz3 1; have f2 := fz3 2; have f3 := fz3 3; have f4 := fz3 4; have f5 := fz3 5
 obtain ⟨r0, r1, r2, r3, r4, r5⟩ := hx3
 obtain ⟨k0, k1, k2, k3, k4, k5⟩ := hbx3
 clear hC hE hW hC3 hE3 hW3 hB3 hB1 hb1 hb2 hb3 al2 al23 BZ hz0 fz0 fz3 hbx hq al0 ha hsh hgd
 go_wp2
 obtain ⟨t0, t1, t2, t3, t4, t5⟩ := V.out
 simp only [st6] at t0 t1 t2 t3 t4 t5
 refine bodyPost_ret (v := .tuple #[.agg #[.int .i64 (sumI (insL l 0)), .int .i64 (sumI (insL l 1)), .slice Ag (cc l).g.length cg, .slice Oa (cc l).os.length oc, .slice Wa l.length wc, .slice Ea l.length ec], .bool true]) (by simp [results, Tryz.results42, go_sem, t0, t1, t2, t3, t4, t5]) rfl ?_
 exact fin.out _ (st6_alt w3 w.heap.size _ _ _ _ _ _)
set_option maxRecDepth 100000 in
set_option maxHeartbeats 4000000 in
theorem compileValid_no (A : Option Addr) (n c : Nat) (l : List Ln) (w : World) (ha : RLn w A n l) (hn : n ≤ 2097152) (hcap : n ≤ c) (hsh : ∀ x ∈ l, shortL x) (hg : coB l = false) :
 Calls Tryz.prog 42 #[.slice A n c] w fun e w' => e = .returned (.tuple #[.agg #[.int .i64 0, .int .i64 0, .slice none 0 0, .slice none 0 0, .slice none 0 0, .slice none 0 0], .bool false]) ∧ Below w.heap.size w w' := by
 have al0 : Below w.heap.size w (w.alloc (.cells #[.int .i64 0, .int .i64 0, .slice none 0 0, .slice none 0 0, .slice none 0 0, .slice none 0 0] 63)) := bA
 have hz0 : Bx6 (w.alloc (.cells #[.int .i64 0, .int .i64 0, .slice none 0 0, .slice none 0 0, .slice none 0 0, .slice none 0 0] 63)) w.heap.size _ _ _ _ _ _ := Bx6.new w (.int .i64 0) (.int .i64 0) (.slice none 0 0) (.slice none 0 0) (.slice none 0 0) (.slice none 0 0) 63
 have fz0 : Fz (w.alloc (.cells #[.int .i64 0, .int .i64 0, .slice none 0 0, .slice none 0 0, .slice none 0 0, .slice none 0 0] 63)) w.heap.size := Fz.new w #[.int .i64 0, .int .i64 0, .slice none 0 0, .slice none 0 0, .slice none 0 0, .slice none 0 0] 63
 have fin : Hid (∀ w3, Below w.heap.size w w3 → Below w.heap.size w (st6 w3 w.heap.size (.int .i64 0) (.int .i64 0) (.slice none 0 0) (.slice none 0 0) (.slice none 0 0) (.slice none 0 0))) := zH (fun w3 hB => hB.trans ((st6_alt w3 w.heap.size _ _ _ _ _ _).below_ (by have := hB.size; omega) (fun i hi hc => by have hc' : i = w.heap.size := hc; omega)))
 by_cases hgd : goodP l
 ·have hcb : circB (sumI (insL l 0)) (sumI (insL l 1)) (cc l).g (cc l).os = false := by
   unfold coB at hg; rw [decide_eq_true hgd, Bool.true_and] at hg; exact hg
  obtain ⟨hng, hno⟩ := cc_small hgd
  have HP := zH hcb
  have HG : Hid (decide (goodP l) = true) := zH (decide_eq_true hgd)
  clear hg hcb
  go_enter Tryz.func42, Tryz.ntmps42
  go_wp2_with fail
  refine (Zfk A n c l _ (ha.below al0 lR) hn hcap hsh).mono ?_
  rintro e w1 ⟨rfl, hb1⟩
  rw [HG.out]
  have hB1 := al0.trans (hb1.mono al0.size)
  go_wp2_with fail
  refine (compile_any A n c l _ (ha.below hB1 lR) hcap hsh hgd).mono ?_
  rintro e w2 hT
  obtain ⟨Ag, cg, Oa, oc, Ea, ec, Wa, wc, bl, rfl, hC, hE, hW, hb2⟩ := RetCp.cc_ hT
  have al2 : Below w2.heap.size w2 (w2.alloc (.cells #[.int .i64 (sumI (insL l 0)), .int .i64 (sumI (insL l 1)), .slice Ag (cc l).g.length cg, .slice Oa (cc l).os.length oc, .slice Wa l.length wc, .slice Ea l.length ec] 63)) := bA
  have hq := hC.reads
  clear hT
  go_wp2_with fail
  refine (IsCircuit_any (sumI (insL l 0)) (sumI (insL l 1)) Ag (cc l).g.length cg Oa (cc l).os.length oc (cc l).g (cc l).os _ (hq.1.below al2 lR) (hq.2.below al2 lR) hng hno).mono ?_
  rintro e w3 ⟨rfl, hb3⟩
  rw [HP.out]
  have al23 := al2.trans (hb3.mono al2.size)
  have BZ : Below (w.alloc (.cells #[.int .i64 0, .int .i64 0, .slice none 0 0, .slice none 0 0, .slice none 0 0, .slice none 0 0] 63)).heap.size (w.alloc (.cells #[.int .i64 0, .int .i64 0, .slice none 0 0, .slice none 0 0, .slice none 0 0, .slice none 0 0] 63)) w3 := (hb1.trans (hb2.mono hb1.size)).trans (al23.mono (hb1.trans (hb2.mono hb1.size)).size)
  have hx3 := hz0.below BZ
  have fz3 := fz0.below BZ (by simp)
  have hB3 : Below w.heap.size w w3 := hB1.trans ((hb2.trans (al23.mono hb2.size)).mono hB1.size)
  have hfin := zH (fin.out w3 hB3)
  have V := zH (hx3.st (.int .i64 0) (.int .i64 0) (.slice none 0 0) (.slice none 0 0) (.slice none 0 0) (.slice none 0 0))
  have f0 := fz3 0; have f1 := fz3 1; have f2 := fz3 2; have f3 := fz3 3; have f4 := fz3 4; have f5 := fz3 5
  obtain ⟨r0, r1, r2, r3, r4, r5⟩ := hx3
  clear hC hE hW hB3 hB1 hb1 hb2 hb3 al2 al23 BZ hz0 fz0 fz3 hq al0 ha hsh hgd fin
  go_wp2
  obtain ⟨t0, t1, t2, t3, t4, t5⟩ := V.out
  simp only [st6] at t0 t1 t2 t3 t4 t5
  refine bodyPost_ret (v := .tuple #[.agg #[.int .i64 0, .int .i64 0, .slice none 0 0, .slice none 0 0, .slice none 0 0, .slice none 0 0], .bool false]) (by simp [results, Tryz.results42, go_sem, t0, t1, t2, t3, t4, t5]) rfl ?_
  exact ⟨rfl, hfin.out⟩
 ·have HG : Hid (decide (goodP l) = false) := zH (decide_eq_false hgd)
  clear hg hgd
  go_enter Tryz.func42, Tryz.ntmps42
  go_wp2_with fail
  refine (Zfk A n c l _ (ha.below al0 lR) hn hcap hsh).mono ?_
  rintro e w1 ⟨rfl, hb1⟩
  rw [HG.out]
  have hB1 := al0.trans (hb1.mono al0.size)
  have hx3 := hz0.below hb1
  have fz3 := fz0.below hb1 (by simp)
  have hfin := zH (fin.out w1 hB1)
  have V := zH (hx3.st (.int .i64 0) (.int .i64 0) (.slice none 0 0) (.slice none 0 0) (.slice none 0 0) (.slice none 0 0))
  have f0 := fz3 0; have f1 := fz3 1; have f2 := fz3 2; have f3 := fz3 3; have f4 := fz3 4; have f5 := fz3 5
  obtain ⟨r0, r1, r2, r3, r4, r5⟩ := hx3
  clear hB1 hb1 hz0 fz0 fz3 al0 ha hsh fin
  go_wp2
  obtain ⟨t0, t1, t2, t3, t4, t5⟩ := V.out
  simp only [st6] at t0 t1 t2 t3 t4 t5
  refine bodyPost_ret (v := .tuple #[.agg #[.int .i64 0, .int .i64 0, .slice none 0 0, .slice none 0 0, .slice none 0 0, .slice none 0 0], .bool false]) (by simp [results, Tryz.results42, go_sem, t0, t1, t2, t3, t4, t5]) rfl ?_
  exact ⟨rfl, hfin.out⟩
theorem OwnG.cap {w : World} {lo hi n c : Nat} {A : Option Addr} {gs : List G3} (h : OwnG w lo hi (.slice A n c) n gs) : n ≤ c := by
 rcases h.1.2 with ⟨hv, h0⟩ | ⟨g, cap, cur, hv, _, _, hc, _⟩
 ·omega
 ·simp only [Value.slice.injEq, true_and] at hv
  omega
theorem Own.cap {w : World} {lo hi n c : Nat} {A : Option Addr} {xs : List Int} (h : Own w lo hi (.slice A n c) n xs) : n ≤ c := by
 rcases h.1.2 with ⟨hv, h0⟩ | ⟨g, cap, cur, hv, _, _, hc, _⟩
 ·omega
 ·simp only [Value.slice.injEq, true_and] at hv
  omega
attribute [local go_sem] sepAt sepUpon pureAt pureUpon
theorem qSum_any (A : Option Addr) (n c : Nat) (xs : List Int) (w : World) (ha : RI w A n xs) (hn : n ≤ 2097152) (hb : ∀ k, k ≤ n → 0 ≤ sumI (xs.take k) ∧ sumI (xs.take k) ≤ 1000000) :
 Calls Tryz.prog 29 #[.slice A n c] w fun e w' => e = .returned (.int .i64 (sumI xs)) ∧ w = w' := by
 have hl := ha.1
 go_enter Tryz.func29, Tryz.ntmps29
 go_wp2
 go_loopw [3, 8] (fun v i wr => ∃ k : Nat, k ≤ n ∧ i = .int .i64 k ∧ v = .int .i64 (sumI (xs.take k)) ∧ wr = w) (fun _ i _ => n - (intOf i).toNat)
 case atStart => exact ⟨0, Nat.zero_le _, rfl, rfl, rfl⟩
 case round =>
  obtain ⟨k, hk, rfl, rfl, rfl⟩ := hrel
  by_cases hlt : k < n
  ·obtain ⟨b, o, rfl, hbB, e1⟩ := ha.at_ hlt
   have hs : Hid (sumI (xs.take (k + 1)) = sumI (xs.take k) + gi xs k) := zH (by rw [Zbj (by omega), Zea])
   have h1 := hb k hk
   have h2 := hb (k + 1) hlt
   rw [hs.out] at h2
   clear hb
   generalize sumI (xs.take k) = S at *
   generalize gi xs k = X at *
   have hw : IntKind.i64.wrap (S + X) = S + X := by rw [IntKind.wrap_i64] <;> omega
   go_wp2
   go_roundw
   case rel => exact ⟨k + 1, by omega, by go_num, by rw [hs.out], by first | rfl | trivial⟩
   case measure => simp [intOf]; omega
  ·obtain rfl : n = k := Nat.le_antisymm (Nat.le_of_not_lt hlt) hk
   rw [List.take_of_length_le (by omega)]
   go_wp2
   go_ret
   exact ⟨rfl, rfl⟩
structure PrB (n c : Nat) (l : List Ln) : Prop where
 n1 : 1 ≤ n
 n40 : n ≤ 40
 cap : n ≤ c
 sh : ∀ x ∈ l, shortL x
theorem OLq.prb {w : World} {lo hi n c : Nat} {A : Option Addr} {l : List Lp} (h : OLq shortL w lo hi (.slice A n c) n l) (h1 : 1 ≤ n) (h2 : n ≤ 40) : PrB n c (l.map Lp.x) := ⟨h1, h2, h.cap, h.short⟩
end Go.Proofs.YtenknpcbbcbciaaGreat
namespace Go.Proofs.YtenknpcbbcbciaaGreat
open Go.RowKit
set_option linter.unusedVariables false
set_option linter.unusedSimpArgs false
theorem slice_from (q o m d k : Nat) (hk : k ≤ m) (hm : m ≤ d) : ∃ TA : Option Addr, (∀ (w : World) (xs : List Int), RI w (some ⟨q, o, none⟩) m xs → RI w TA (m - k) (xs.drop k)) ∧
 ∀ W : World, (Instr.slice 24 (.slice (some ⟨q, o, none⟩) m d) (some (.int .i64 k)) none none).run Tryz.prog W = .ok (.slice TA (m - k) (d - k)) W := by
 have hu : Tryz.prog.elem 24 = 3 := by kernel_rfl
 by_cases h : d = k
 ·subst h
  obtain rfl : m = d := by omega
  refine ⟨some ⟨q, o, none⟩, fun w xs h => ⟨by have := h.1; simp; omega, fun h => absurd h (by omega)⟩, fun W => ?_⟩
  rw [run_slice_l W 24 _ _ _ (by rw [hu]; exact Tryz.underlying24) .i64 (m : Int) (by omega) (by omega)]
  go_simp
 ·refine ⟨some ⟨q, o + k, none⟩, fun w xs h => h.drop_ hk, fun W => ?_⟩
  rw [run_slice_l W 24 _ _ _ (by rw [hu]; exact Tryz.underlying24) .i64 (k : Int) (by omega) (by omega)]
  go_simp
set_option maxHeartbeats 1600000 in
theorem Zer (A B : Option Addr) (n c m d : Nat) (ws ns : List Int) (w : World) (ha : RI w A n ws) (hb : RI w B n ns) (hn : n ≤ 100) (hw : ∀ z ∈ ws, 1 ≤ z ∧ z ≤ 10) (hf : ∀ k, k < n → 0 ≤ gi ns k ∧ gi ns k ≤ 1023) :
 Calls Tryz.prog 53 #[.slice A n c, .slice B n d] w (RetI w (bitsK ws ns n)) := by
 have hl := ha.len
 have hlb := hb.len
 have hso := zH (fun k (hk : k < n) => Zce hw (by omega : k < ws.length))
 have hbl := zH (fun k (hk : k ≤ n) => Zca hw ns k (by omega))
 have hof : Hid (∀ k, k ≤ n → offs ws k ≤ 10 * k) := zH (fun k hk => by
  have := (Zeb (M := 10) (fun z hz => by have := hw z hz; omega) k (by omega : k ≤ ws.length)).2
  unfold offs; omega)
 go_enter Tryz.func53, Tryz.ntmps53
 go_wp2
 go_loopw [5, 10] (fun v i wr => ∃ (k : Nat) (A' : Option Addr) (c' : Nat), k ≤ n ∧ i = .int .i64 k ∧ v = .slice A' (offs ws k) c' ∧ Own wr w.heap.size wr.heap.size (.slice A' (offs ws k) c') (offs ws k) (bitsK ws ns k) ∧ Below w.heap.size w wr) (fun _ i _ => n - (intOf i).toNat)
 case atStart => exact ⟨0, _, _, Nat.zero_le _, rfl, rfl, by first | exact Own.none_ _ _ _ | (simpa [bitsK, offs_zero] using Zcc w w.heap.size lR), by first | exact Below.refl _ _ | exact bA⟩
 case round =>
  obtain ⟨k, A', c', hk, rfl, rfl, hown, hbw⟩ := hrel
  by_cases hlt : k < n
  ·obtain ⟨b, o, rfl, hbB, c1⟩ := (ha.below hbw lR).at_ hlt
   obtain ⟨b2, o2, rfl, hbB2, c2⟩ := (hb.below hbw lR).at_ hlt
   have h1 := hw _ (Zbo (xs := ws) (j := k) (by omega))
   have h2 := hf k hlt
   have h3 := hso.out k hlt
   have h4 := hof.out k (by omega)
   have hsn : Hid (bitsK ws ns (k + 1) = bitsK ws ns k ++ bitsN (gi ns k).toNat (gi ws k).toNat) := zH rfl
   obtain ⟨W, hW⟩ := Int.eq_ofNat_of_zero_le (show 0 ≤ gi ws k by omega)
   obtain ⟨N, hN⟩ := Int.eq_ofNat_of_zero_le h2.1
   rw [hW] at c1 h1 h3 hsn
   rw [hN] at c2 h2 hsn
   simp only [Int.toNat_natCast] at h3 hsn
   obtain ⟨F, hF⟩ := lT (offs ws k)
   have hs3 := zH h3
   rw [hF.out] at hs3 hown h4 h3 ⊢
   clear hW hN
   have hz := hbw.size
   go_wp2_with fail
   refine (btOf_any N W _ (by omega) (by omega)).mono ?_
   rintro e w2 hT
   obtain ⟨A2, d2, rfl, ho2, hb2⟩ := RetI.open_ (n := W) hT (Zax N W)
   have hown2 := hown.below hb2 (.inl lR)
   have hb3 := hbw.trans (hb2.mono hz)
   have hz3 := hb2.size
   go_wp2_with (at_builtin; refine Zal _ rfl _ _ rfl rfl hown2 rfl ho2.reads (by omega) oM ?_; intro A5 c5 w5 hown5 hg5 hat5)
   have hb5 := Zah hb3 hown2 hg5 (by omega) lR
   rw [← hsn.out] at hown5
   clear hown2 hb3 hb2 ho2 hg5 hat5 hown hbw
   go_wp2
   go_roundw
   case rel => exact ⟨k + 1, _, _, by omega, by go_num, by rw [hs3.out], by rw [hs3.out]; exact hown5, hb5⟩
   case measure => simp [intOf]; omega
  ·obtain rfl : n = k := by omega
   go_wp2
   go_ret
   exact RetI.mk_ (hbl.out n lR) rfl hown hbw
set_option maxHeartbeats 1600000 in
theorem Zff (A B : Option Addr) (n c m d : Nat) (ws ns : List Int) (w : World) (ha : RI w A n ws) (hb : RI w B n ns) (hn : n ≤ 100) (hw : ∀ z ∈ ws, 1 ≤ z ∧ z ≤ 10) (hf : ∀ k, k < n → 0 ≤ gi ns k ∧ gi ns k ≤ 1023) :
 Calls Tryz.prog 47 #[.slice B n d, .slice A n c] w (RetI w (bitsK ws ns n)) := by
 have hl := ha.len
 have hlb := hb.len
 have hso := zH (fun k (hk : k < n) => Zce hw (by omega : k < ws.length))
 have hbl := zH (fun k (hk : k ≤ n) => Zca hw ns k (by omega))
 have hof : Hid (∀ k, k ≤ n → offs ws k ≤ 10 * k) := zH (fun k hk => by
  have := (Zeb (M := 10) (fun z hz => by have := hw z hz; omega) k (by omega : k ≤ ws.length)).2
  unfold offs; omega)
 go_enter Tryz.func47, Tryz.ntmps47
 go_wp2
 go_loopw [5, 11] (fun v i wr => ∃ (k : Nat) (A' : Option Addr) (c' : Nat), k ≤ n ∧ i = .int .i64 k ∧ v = .slice A' (offs ws k) c' ∧ Own wr w.heap.size wr.heap.size (.slice A' (offs ws k) c') (offs ws k) (bitsK ws ns k) ∧ Below w.heap.size w wr) (fun _ i _ => n - (intOf i).toNat)
 case atStart => exact ⟨0, _, _, Nat.zero_le _, rfl, rfl, by first | exact Own.none_ _ _ _ | (simpa [bitsK, offs_zero] using Zcc w w.heap.size lR), by first | exact Below.refl _ _ | exact bA⟩
 case round =>
  obtain ⟨k, A', c', hk, rfl, rfl, hown, hbw⟩ := hrel
  by_cases hlt : k < n
  ·obtain ⟨b, o, rfl, hbB, c1⟩ := (ha.below hbw lR).at_ hlt
   obtain ⟨b2, o2, rfl, hbB2, c2⟩ := (hb.below hbw lR).at_ hlt
   have h1 := hw _ (Zbo (xs := ws) (j := k) (by omega))
   have h2 := hf k hlt
   have h3 := hso.out k hlt
   have h4 := hof.out k (by omega)
   have hsn : Hid (bitsK ws ns (k + 1) = bitsK ws ns k ++ bitsN (gi ns k).toNat (gi ws k).toNat) := zH rfl
   obtain ⟨W, hW⟩ := Int.eq_ofNat_of_zero_le (show 0 ≤ gi ws k by omega)
   obtain ⟨N, hN⟩ := Int.eq_ofNat_of_zero_le h2.1
   rw [hW] at c1 h1 h3 hsn
   rw [hN] at c2 h2 hsn
   simp only [Int.toNat_natCast] at h3 hsn
   obtain ⟨F, hF⟩ := lT (offs ws k)
   have hs3 := zH h3
   rw [hF.out] at hs3 hown h4 h3 ⊢
   clear hW hN
   have hz := hbw.size
   go_wp2_with fail
   refine (Zdx N W _ (by omega) (by omega)).mono ?_
   rintro e w2 hT
   obtain ⟨A2, d2, rfl, ho2, hb2⟩ := RetI.open_ (n := W) hT (Zax N W)
   have hown2 := hown.below hb2 (.inl lR)
   have hb3 := hbw.trans (hb2.mono hz)
   have hz3 := hb2.size
   go_wp2_with (at_builtin; refine Zal _ rfl _ _ rfl rfl hown2 rfl ho2.reads (by omega) oM ?_; intro A5 c5 w5 hown5 hg5 hat5)
   have hb5 := Zah hb3 hown2 hg5 (by omega) lR
   rw [← hsn.out] at hown5
   clear hown2 hb3 hb2 ho2 hg5 hat5 hown hbw
   go_wp2
   go_roundw
   case rel => exact ⟨k + 1, _, _, by omega, by go_num, by rw [hs3.out], by rw [hs3.out]; exact hown5, hb5⟩
   case measure => simp [intOf]; omega
  ·obtain rfl : n = k := by omega
   go_wp2
   go_ret
   exact RetI.mk_ (hbl.out n lR) rfl hown hbw
set_option maxRecDepth 100000 in
set_option maxHeartbeats 1600000 in
theorem Zfb (A B : Option Addr) (n c m d : Nat) (ws bits : List Int) (w : World) (ha : RI w A n ws) (hb : RI w B m bits) (hn : n ≤ 100) (hm : m ≤ 1000) (hmd : m ≤ d) (hw : ∀ z ∈ ws, 1 ≤ z ∧ z ≤ 10) (hbd : allB 0 1 bits = true) (hs : offs ws n = m) :
 Calls Tryz.prog 48 #[.slice B m d, .slice A n c] w (RetI w (numK ws bits n)) := by
 have hl := ha.len
 have hso := zH (fun k (hk : k < n) => Zce hw (by omega : k < ws.length))
 have hle := zH (fun k (hk : k < n) => offs_le hw (by omega : k + 1 ≤ n) (by omega : n ≤ ws.length))
 rw [hs] at hle
 go_enter Tryz.func48, Tryz.ntmps48
 go_wp2
 go_loopw [0, 5, 11] (fun x v i wr => ∃ (k M D : Nat) (A' : Option Addr) (c' : Nat) (Bk : Option Addr), k ≤ n ∧ i = .int .i64 k ∧ v = .slice A' k c' ∧ x = .slice Bk M D ∧ Hid (M = m - offs ws k) ∧ Hid (D = d - offs ws k) ∧ RI w Bk M (bits.drop (offs ws k)) ∧ Own wr w.heap.size wr.heap.size (.slice A' k c') k (numK ws bits k) ∧ Below w.heap.size w wr) (fun _ _ i _ => n - (intOf i).toNat)
 case atStart => exact ⟨0, m, d, _, _, _, Nat.zero_le _, rfl, rfl, rfl, zH rfl, zH rfl, hb, by first | exact Own.none_ _ _ _ | (simpa [numK, tab_zero] using Zcc w w.heap.size lR), by first | exact Below.refl _ _ | exact bA⟩
 case round =>
  obtain ⟨k, M, D, A', c', Bk, hk, rfl, rfl, rfl, hM, hD, hBk, hown, hbw⟩ := hrel
  by_cases hlt : k < n
  ·obtain ⟨b, o, rfl, hbB, c1⟩ := (ha.below hbw lR).at_ hlt
   have h1 := hw _ (Zbo (xs := ws) (j := k) (by omega))
   have h3 := hso.out k hlt
   have h4 := hle.out k hlt
   have hsn : Hid (numK ws bits (k + 1) = numK ws bits k ++ [numN ((bits.drop (offs ws k)).take (gi ws k).toNat)]) := zH (numK_snoc _ _ _)
   obtain ⟨W, hW⟩ := Int.eq_ofNat_of_zero_le (show 0 ≤ gi ws k by omega)
   rw [hW] at c1 h1 h3 hsn
   simp only [Int.toNat_natCast] at h3 hsn
   obtain ⟨F, hF⟩ := lT (offs ws k)
   rw [hF.out] at h3 hsn hM hD hBk
   have hM' := hM.out
   have hD' := hD.out
   have hMW : W ≤ M := by omega
   have hMD : M ≤ D := by omega
   have hM2 : Hid (M - W = m - offs ws (k + 1)) := zH (by rw [h3]; omega)
   have hD2 : Hid (D - W = d - offs ws (k + 1)) := zH (by rw [h3]; omega)
   have hdr : Hid ((bits.drop F).drop W = bits.drop (offs ws (k + 1))) := zH (by rw [h3, List.drop_drop])
   have hM1000 : M ≤ 1000 := by omega
   clear hM hD hM' hD' hW h3 h4
   obtain ⟨q, o2, rfl, hq, _⟩ := hBk.at_ (k := 0) (by omega)
   have ht := (hBk.below hbw lR).take_ hMW
   obtain ⟨TA, hT1, hT2⟩ := slice_from q o2 M D W hMW hMD
   have hBn := hT1 w _ hBk
   rw [hdr.out] at hBn
   have hball : allB 0 1 ((bits.drop F).take W) = true := allB_take_ (allB_drop_ hbd F) W
   clear hT1 hdr
   obtain ⟨xs, hxs⟩ := lT ((bits.drop F).take W)
   rw [hxs.out] at ht hball hsn
   have hz := hbw.size
   have hi0 : (0 : Int) ≤ (W : Int) := by omega
   have hi1 : ((W : Nat) : Int) ≤ ((D : Nat) : Int) := by omega
   have hi2 : ((W : Nat) : Int) ≤ ((M : Nat) : Int) := by omega
   have hownA := fun j : Nat => (hown.drewN j).alloc (.cells #[.int .i64 (numN xs)] 3)
   have hbA := (Zaa hbw 1).alloc hz (.cells #[.int .i64 (numN xs)] 3)
   go_wp2_with fail
   go_region_held3 (fun w' => True) (first | trivial) (first | (go_at_call 100; refine (number_any (some ⟨q, o2, none⟩) W D xs _ (ht.drewN 1) (by omega) hball).mono ?_; rintro e w2 ⟨rfl, rfl⟩) | (refine Zcd _ (by rfl) _ _ (by rfl) (by rfl) (hownA 1) (by rfl) (Zaj _ _ _ _ (by simp)) (by omega) oM ?_; intro A5 c5 w5 hown5 hg5 hat5 hk5))
   have hb5 := Zah hbA (hownA 1) hg5 (by simp; omega) lR
   rw [← hsn.out] at hown5
   clear hbA hownA hg5 hat5 hown hbw
   go_wp2
   go_roundw
   case rel => exact ⟨k + 1, _, _, _, _, _, by omega, by go_num, rfl, rfl, hM2, hD2, hBn, hown5, hb5⟩
   case measure => simp [intOf]; omega
  ·obtain rfl : n = k := by omega
   go_wp2
   go_ret
   exact RetI.mk_ (numK_len _ _ _) rfl hown hbw
theorem RetO.open_none {w w' : World} {e : Ending} (h : RetO w none e w') : ∃ A c, e = .returned (.tuple #[.slice A 0 c, .bool false]) ∧ Below w.heap.size w w' := by
 obtain ⟨A, c, h1, _, h3⟩ := h
 exact ⟨A, c, h1, h3⟩
theorem Zfg {ws ns : List Int} (h : fitB ws ns = true) (hw : ∀ z ∈ ws, 1 ≤ z ∧ z ≤ 10) : ws.length = ns.length ∧ ∀ k, k < ws.length → 0 ≤ gi ns k ∧ gi ns k ≤ 1023 := by
 obtain ⟨h1, h2⟩ := fitB_at h
 refine ⟨h1, fun k hk => ⟨(h2 k hk).1, ?_⟩⟩
 have h3 := (h2 k hk).2
 have h4 := hw _ (Zbo hk)
 have h5 : 2 ^ (gi ws k).toNat ≤ 2 ^ 10 := Nat.pow_le_pow_right (by decide) (by omega)
 have h6 : ((2 ^ (gi ws k).toNat : Nat) : Int) = (2 : Int) ^ (gi ws k).toNat := by rw [Int.natCast_pow]; rfl
 have h7 : ((2 ^ (gi ws k).toNat : Nat) : Int) ≤ ((2 ^ 10 : Nat) : Int) := Int.ofNat_le.2 h5
 rw [h6] at h7
 have h8 : ((2 ^ 10 : Nat) : Int) = 1024 := rfl
 omega
theorem outs10 {l : List Ln} (h : goodP l) : (outsL l).length ≤ 10 := by rw [outsL_len]; exact h.2.2.2.2
attribute [local go_sem] sepAt sepUpon pureAt pureUpon
def RetPb (w : World) (e : Ending) (w' : World) : Prop :=
 ∃ (l : List Ln) (A A0 : Option Addr) (n c n0 c0 : Nat) (xs : List Int), e = .returned (.tuple #[.slice A n c, .slice A0 n0 c0]) ∧ RLn w' A n l ∧ PrB n c l ∧ RI w' A0 n0 xs ∧ n0 ≤ c0 ∧ n0 ≤ 200 ∧ Below w.heap.size w w'
end Go.Proofs.YtenknpcbbcbciaaGreat
namespace Go.Proofs.YtenknpcbbcbciaaGreat
open Go.RowKit
set_option linter.unusedVariables false
set_option linter.unusedSimpArgs false
theorem l1Most_any (a b : Int) (w : World) : Calls Tryz.prog 114 #[.int .i64 a, .int .i64 b] w fun e w' => e = .returned (.int .i64 (max a b)) ∧ w = w' := by
 by_cases h : b < a
 ·have hm : Hid (max a b = a) := zH (by omega)
  go_enter Tryz.func114, Tryz.ntmps114
  go_wp2
  go_ret
  exact ⟨by rw [hm.out]; rfl, rfl⟩
 ·have hm : Hid (max a b = b) := zH (by omega)
  go_enter Tryz.func114, Tryz.ntmps114
  go_wp2
  go_ret
  exact ⟨by rw [hm.out]; rfl, rfl⟩
theorem l1Least_any (a b : Int) (w : World) : Calls Tryz.prog 115 #[.int .i64 a, .int .i64 b] w fun e w' => e = .returned (.int .i64 (min a b)) ∧ w = w' := by
 by_cases h : a < b
 ·have hm : Hid (min a b = a) := zH (by omega)
  go_enter Tryz.func115, Tryz.ntmps115
  go_wp2
  go_ret
  exact ⟨by rw [hm.out]; rfl, rfl⟩
 ·have hm : Hid (min a b = b) := zH (by omega)
  go_enter Tryz.func115, Tryz.ntmps115
  go_wp2
  go_ret
  exact ⟨by rw [hm.out]; rfl, rfl⟩
end Go.Proofs.YtenknpcbbcbciaaGreat
