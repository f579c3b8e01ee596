/- The contract of the program's compile. Thirty lines at most, texts below 2^21 bytes. -/
import Derived.Deep.CutRange
import Derived.Test.YtenknpcbbcbciaaGreatQS36
import Derived.Test.YtenknpcbbcbciaaGreatQS37
namespace Go.Proofs.YtenknpcbbcbciaaGreat
open Go.RowKit
set_option linter.unusedVariables false
set_option linter.unusedSimpArgs false
attribute [local go_sem] sepAt sepUpon pureAt pureUpon
theorem cs_setA {w : World} {B : Nat} {u0 u1 u2 u3 u4 u5 : Value} (h : CellsAt w B 0 ([u0, u1, u2, u3] ++ [u4, u5])) (v4 : Value) : CellsAt (w.setCell ⟨B, 4, none⟩ v4) B 0 ([u0, u1, u2, u3] ++ [v4, u5]) := by
 obtain ⟨q0, q1, q2, q3, q4, q5, _⟩ := h
 have o : ∀ (i : Nat) (u : Value), i ≠ 4 → w.cell? ⟨B, i, none⟩ = some u → (w.setCell ⟨B, 4, none⟩ v4).cell? ⟨B, i, none⟩ = some u := fun i u hi hu => (World.cell?_setCell_other _ _ _ _ (by simp <;> omega)).trans hu
 exact ⟨o 0 _ (by omega) q0, o 1 _ (by omega) q1, o 2 _ (by omega) q2, o 3 _ (by omega) q3, World.cell?_setCell_same _ _ _ q4, o 5 _ (by omega) q5, trivial⟩
theorem cs_setB {w : World} {B : Nat} {u0 u1 u2 u3 u4 u5 : Value} (h : CellsAt w B 0 ([u0, u1, u2, u3] ++ [u4, u5])) (v5 : Value) : CellsAt (w.setCell ⟨B, 5, none⟩ v5) B 0 ([u0, u1, u2, u3] ++ [u4, v5]) := by
 obtain ⟨q0, q1, q2, q3, q4, q5, _⟩ := h
 have o : ∀ (i : Nat) (u : Value), i ≠ 5 → w.cell? ⟨B, i, none⟩ = some u → (w.setCell ⟨B, 5, none⟩ v5).cell? ⟨B, i, none⟩ = some u := fun i u hi hu => (World.cell?_setCell_other _ _ _ _ (by simp <;> omega)).trans hu
 exact ⟨o 0 _ (by omega) q0, o 1 _ (by omega) q1, o 2 _ (by omega) q2, o 3 _ (by omega) q3, o 4 _ (by omega) q4, World.cell?_setCell_same _ _ _ q5, trivial⟩
theorem far4 {w : World} {b B i : Nat} {u v0 v1 v2 v3 : Value} (h : w.cell? ⟨B, i, none⟩ = some u) (hb : ¬ B = b) : ((((w.setCell ⟨b, 0, none⟩ v0).setCell ⟨b, 1, none⟩ v1).setCell ⟨b, 2, none⟩ v2).setCell ⟨b, 3, none⟩ v3).cell? ⟨B, i, none⟩ = some u := by
 have hb2 : ¬ b = B := fun e => hb e.symm
 exact (World.cell?_setCell_other _ _ _ _ (by simp [hb, hb2])).trans ((World.cell?_setCell_other _ _ _ _ (by simp [hb, hb2])).trans ((World.cell?_setCell_other _ _ _ _ (by simp [hb, hb2])).trans ((World.cell?_setCell_other _ _ _ _ (by simp [hb, hb2])).trans h)))
theorem set6_cells {V : World} {B : Nat} {u0 u1 u2 u3 u4 u5 : Value} (r0 : V.cell? ⟨B, 0, none⟩ = some u0) (r1 : V.cell? ⟨B, 1, none⟩ = some u1) (r2 : V.cell? ⟨B, 2, none⟩ = some u2) (r3 : V.cell? ⟨B, 3, none⟩ = some u3) (r4 : V.cell? ⟨B, 4, none⟩ = some u4) (r5 : V.cell? ⟨B, 5, none⟩ = some u5) (v0 v1 v2 v3 v4 v5 : Value) :
 let W := (((((V.setCell ⟨B, 0, none⟩ v0).setCell ⟨B, 1, none⟩ v1).setCell ⟨B, 2, none⟩ v2).setCell ⟨B, 3, none⟩ v3).setCell ⟨B, 4, none⟩ v4).setCell ⟨B, 5, none⟩ v5
 W.cell? ⟨B, 0, none⟩ = some v0 ∧ W.cell? ⟨B, 1, none⟩ = some v1 ∧ W.cell? ⟨B, 2, none⟩ = some v2 ∧ W.cell? ⟨B, 3, none⟩ = some v3 ∧ W.cell? ⟨B, 4, none⟩ = some v4 ∧ W.cell? ⟨B, 5, none⟩ = some v5 := by
 have o : ∀ (w : World) (i j : Nat) (v : Value) (u : Value), i ≠ j → w.cell? ⟨B, i, none⟩ = some u → (w.setCell ⟨B, j, none⟩ v).cell? ⟨B, i, none⟩ = some u := fun w i j v u hij h => (World.cell?_setCell_other _ _ _ _ (by simp <;> omega)).trans h
 have s : ∀ (w : World) (i : Nat) (v : Value) (u : Value), w.cell? ⟨B, i, none⟩ = some u → (w.setCell ⟨B, i, none⟩ v).cell? ⟨B, i, none⟩ = some v := fun w i v u h => World.cell?_setCell_same _ _ _ h
 refine ⟨?_, ?_, ?_, ?_, ?_, ?_⟩
 ·exact o _ _ _ _ _ (by decide) (o _ _ _ _ _ (by decide) (o _ _ _ _ _ (by decide) (o _ _ _ _ _ (by decide) (o _ _ _ _ _ (by decide) (s _ _ _ _ r0)))))
 ·exact o _ _ _ _ _ (by decide) (o _ _ _ _ _ (by decide) (o _ _ _ _ _ (by decide) (o _ _ _ _ _ (by decide) (s _ _ _ _ (o _ _ _ _ _ (by decide) r1)))))
 ·exact o _ _ _ _ _ (by decide) (o _ _ _ _ _ (by decide) (o _ _ _ _ _ (by decide) (s _ _ _ _ (o _ _ _ _ _ (by decide) (o _ _ _ _ _ (by decide) r2)))))
 ·exact o _ _ _ _ _ (by decide) (o _ _ _ _ _ (by decide) (s _ _ _ _ (o _ _ _ _ _ (by decide) (o _ _ _ _ _ (by decide) (o _ _ _ _ _ (by decide) r3)))))
 ·exact o _ _ _ _ _ (by decide) (s _ _ _ _ (o _ _ _ _ _ (by decide) (o _ _ _ _ _ (by decide) (o _ _ _ _ _ (by decide) (o _ _ _ _ _ (by decide) r4)))))
 ·exact s _ _ _ _ (o _ _ _ _ _ (by decide) (o _ _ _ _ _ (by decide) (o _ _ _ _ _ (by decide) (o _ _ _ _ _ (by decide) (o _ _ _ _ _ (by decide) r5)))))
theorem nxt_bd {l : List Ln} (hg : goodP l) {p : Int} {k : Nat} {x : Int} (hx : 0 ≤ x ∧ x ≤ 20) (hk : k ≤ l.length) : 0 ≤ nxt l x p k ∧ nxt l x p k ≤ 31000 := by
 have h1 := allW_take hk hg.2.1
 have h2 := Zeb (M := 1024) (fun z hz => by have := Zbz h1 p z hz; omega) (insL (l.take k) p).length lR
 rw [List.take_of_length_le lR] at h2
 have h3 := Zbx (l.take k) p
 have h4 := hg.1
 rw [List.length_take] at h3
 have h5 : ((1024 : Nat) : Int) * ((insL (l.take k) p).length : Nat) ≤ 1024 * 30 := by
  have : (insL (l.take k) p).length ≤ 30 := by omega
  omega
 unfold nxt
 split <;> omega
theorem Lst.ofOM {ow : Bool} {w : World} {lo S b bc bn n rc : Nat} {G : Option Nat} {Oa Ea Wa R : Option Addr} {os : List Int} (h : OM w b G S (.slice R n rc) n os) (hS : ∀ g, some g ∈ [some b, some bc, some bn, none, ob Oa, ob Ea, ob Wa] → g < S) (hl : lo ≤ S) : Lst ow w lo [some b, some bc, some bn, G, ob Oa, ob Ea, ob Wa] R rc os := by
 have hn := h.len
 subst hn
 refine ⟨h.1.reads, fun q o hq => ?_, fun _ => h.1.lo_ hl, fun q o hq => by have := h.1.lt q (by rw [ob_eq, hq]; rfl); omega⟩
 have hb : (Value.slice R os.length rc).ownBlock = some q := by rw [ob_eq, hq]; rfl
 have h1 := h.1.lt q hb
 have h2 := h.2 q hb
 refine ⟨fun hc => ?_, h1.2.2⟩
 have key : some q ∈ ([some b, some bc, some bn, none, ob Oa, ob Ea, ob Wa] : List (Option Nat)) → False := fun hm => by have := hS q hm; omega
 simp only [List.mem_cons, List.not_mem_nil, or_false] at hc
 rcases hc with hc | hc | hc | hc | hc | hc | hc
 ·exact key (by simp [hc])
 ·exact key (by simp [hc])
 ·exact key (by simp [hc])
 ·exact h2.2 hc.symm
 ·exact key (by simp [hc])
 ·exact key (by simp [hc])
 ·exact key (by simp [hc])
set_option maxRecDepth 100000 in
set_option maxHeartbeats 8000000 in
theorem compile_any (A : Option Addr) (n c : Nat) (l : List Ln) (w : World) (ha : RLn w A n l) (hcap : n ≤ c) (hsh : ∀ x ∈ l, shortL x) (hg : goodP l) :
 Calls Tryz.prog 97 #[.slice A n c] w (RetCp w l) := by
 have hl := ha.len
 have hn : n ≤ 30 := by have := hg.1; omega
 have hsums := goodP_sums hg
 have hi0 := Zbz hg.2.1 0
 have hi1 := Zbz hg.2.1 1
 have hL0 := Zbx l 0
 have hL1 := Zbx l 1
 have hQ : Hid (RetCp w l = RetCp w l) := zH rfl
 have hq0 : Hid ((if inB 0 1 (0 : Int) = true then byO (fun x => decide (x.kind = 1) && decide (x.party = 0)) l else none) = some (insL l 0)) := zH (by rw [if_pos (by decide), byO_in, if_pos hg])
 have hq1 : Hid ((if inB 0 1 (1 : Int) = true then byO (fun x => decide (x.kind = 1) && decide (x.party = 1)) l else none) = some (insL l 1)) := zH (by rw [if_pos (by decide), byO_in, if_pos hg])
 have hret : Hid (∀ e w', (∃ Ag cg Oa oc Ea ec Wa wk bl, e = .returned (.agg #[.int .i64 (sumI (insL l 0)), .int .i64 (sumI (insL l 1)), .slice Ag (cS l (sumI (insL l 0)) (sumI (insL l 1)) n).g.length cg, .slice Oa (cS l (sumI (insL l 0)) (sumI (insL l 1)) n).os.length oc, .slice Wa n wk, .slice Ea n ec]) ∧
  OwnC w' w.heap.size w'.heap.size Ag (cS l (sumI (insL l 0)) (sumI (insL l 1)) n).g.length cg Oa (cS l (sumI (insL l 0)) (sumI (insL l 1)) n).os.length oc (cS l (sumI (insL l 0)) (sumI (insL l 1)) n).g (cS l (sumI (insL l 0)) (sumI (insL l 1)) n).os ∧
  Own w' w.heap.size w'.heap.size (.slice Ea n ec) n (cS l (sumI (insL l 0)) (sumI (insL l 1)) n).es ∧ Wi w' w.heap.size true bl Wa wk n (cS l (sumI (insL l 0)) (sumI (insL l 1)) n).ws ∧ Below w.heap.size w w') → RetCp w l e w') := zH (fun e w' h => by unfold RetCp; rw [hl]; exact h)
 obtain ⟨x, hx⟩ := lT (sumI (insL l 0))
 obtain ⟨y, hy⟩ := lT (sumI (insL l 1))
 rw [hx.out, hy.out] at hret hsums
 obtain ⟨hxb, hyb⟩ := hsums
 have hQ2 : Hid (∀ (Q : Ending → World → Prop), (∀ e w', Q e w' ↔ RetCp w l e w') → True) := zH (fun _ _ => trivial)
 clear hQ2 hQ
 have al0 : Below w.heap.size w (w.alloc (.cells #[.int .i64 0, .int .i64 0, .slice none 0 0, .slice none 0 0, .slice none 0 0, .slice none 0 0] 63)) := bA
 have hp0 : ∀ z ∈ insL l 0, 0 ≤ z ∧ z ≤ ((1024 : Nat) : Int) := fun z hz => by have := hi0 z hz; omega
 have hp1 : ∀ z ∈ insL l 1, 0 ≤ z ∧ z ≤ ((1024 : Nat) : Int) := fun z hz => by have := hi1 z hz; omega
 go_enter Tryz.func97, Tryz.ntmps97
 go_wp2_with fail
 refine (Zbq A n c 0 l _ (ha.below al0 lR) (by omega) hcap hsh).mono ?_
 rintro e w1 hT1
 rw [hq0.out] at hT1
 obtain ⟨A1, c1, rfl, hw1, hb1⟩ := hT1.open_some rfl
 have hB1 := al0.trans (hb1.mono al0.size)
 go_wp2_with fail
 refine (Zbq A n c 1 l _ (ha.below hB1 lR) (by omega) hcap hsh).mono ?_
 rintro e w2 hT2
 rw [hq1.out] at hT2
 obtain ⟨A2, c2, rfl, hw2, hb2⟩ := hT2.open_some rfl
 have hB2 := hB1.trans (hb2.mono hB1.size)
 have ha2 := ha.below hB2 lR
 have hZ2 : Below (w.alloc (.cells #[.int .i64 0, .int .i64 0, .slice none 0 0, .slice none 0 0, .slice none 0 0, .slice none 0 0] 63)).heap.size (w.alloc (.cells #[.int .i64 0, .int .i64 0, .slice none 0 0, .slice none 0 0, .slice none 0 0, .slice none 0 0] 63)) w2 := hb1.trans (hb2.mono hb1.size)
 have hr1 := (hw1.below hb2 (.inl lR)).reads
 have hr2 := hw2.reads
 have hzb := hB2.size
 generalize hm0 : (insL l 0).length = m0 at *
 generalize hm1 : (insL l 1).length = m1 at *
 have hm0' := zH hm0
 have hm1' := zH hm1
 clear hm0 hm1 hT1 hT2 hw1 hw2 hb1 hb2 hB1 al0 ha hi0 hi1 hq0 hq1
 go_wp2_with fail
 refine (Zej A1 m0 c1 (insL l 0) _ hr1 (by omega) hp0).mono ?_
 rintro e w3 ⟨rfl, rfl⟩
 rw [hx.out]
 go_wp2_with fail
 refine (Zej A2 m1 c2 (insL l 1) _ hr2 (by omega) hp1).mono ?_
 rintro e w3 ⟨rfl, rfl⟩
 rw [hy.out]
 have alm : Below w2.heap.size w2 (w2.alloc (.cells #[.int .i64 x, .int .i64 y, .slice none 0 0, .slice none 0 0] 126)) := bA
 go_wp2_with fail
 refine (Zej A1 m0 c1 (insL l 0) _ (hr1.below alm lR) (by omega) hp0).mono ?_
 rintro e w3 ⟨rfl, rfl⟩
 rw [hx.out]
 have hsz3 : (((w2.alloc (.cells #[.int .i64 x, .int .i64 y, .slice none 0 0, .slice none 0 0] 126)).alloc (.cells #[.int .i64 0, .int .i64 0, .slice none 0 0, .slice none 0 0, .slice none 0 0, .slice none 0 0] 63)).alloc (.cells #[.int .i64 0, .int .i64 x] 121)).heap.size = w2.heap.size + 3 := by simp
 have hb3 : Below w2.heap.size w2 (((w2.alloc (.cells #[.int .i64 x, .int .i64 y, .slice none 0 0, .slice none 0 0] 126)).alloc (.cells #[.int .i64 0, .int .i64 0, .slice none 0 0, .slice none 0 0, .slice none 0 0, .slice none 0 0] 63)).alloc (.cells #[.int .i64 0, .int .i64 x] 121)) := (alm.alloc (by simp) _).alloc (by simp; omega) _
 have hC0 : Cp true [.int .i64 0, .int .i64 0, .slice none 0 0, .slice none 0 0] (((w2.alloc (.cells #[.int .i64 x, .int .i64 y, .slice none 0 0, .slice none 0 0] 126)).alloc (.cells #[.int .i64 0, .int .i64 0, .slice none 0 0, .slice none 0 0, .slice none 0 0, .slice none 0 0] 63)).alloc (.cells #[.int .i64 0, .int .i64 x] 121)) w2.heap.size w2.heap.size (w2.heap.size + 1) (w2.heap.size + 1 + 1) x y 0 x ⟨[], [], [], []⟩ 0 none none 0 none 0 none 0 := by
  refine Cp.start hsz3 ?_ ?_ ?_ ?_
  ·exact ((MkO.new w2 w2.heap.size x y 126).alloc_ _).alloc_ _
  ·have hs1 : (w2.alloc (.cells #[.int .i64 x, .int .i64 y, .slice none 0 0, .slice none 0 0] 126)).heap.size = w2.heap.size + 1 := by simp
   have k : ∀ (i : Nat) (v : Value), (w2.alloc (.cells #[.int .i64 x, .int .i64 y, .slice none 0 0, .slice none 0 0] 126)).alloc (.cells #[.int .i64 0, .int .i64 0, .slice none 0 0, .slice none 0 0, .slice none 0 0, .slice none 0 0] 63) |>.cell? ⟨(w2.alloc (.cells #[.int .i64 x, .int .i64 y, .slice none 0 0, .slice none 0 0] 126)).heap.size, i, none⟩ |> fun o => o = some v → (((w2.alloc (.cells #[.int .i64 x, .int .i64 y, .slice none 0 0, .slice none 0 0] 126)).alloc (.cells #[.int .i64 0, .int .i64 0, .slice none 0 0, .slice none 0 0, .slice none 0 0, .slice none 0 0] 63)).alloc (.cells #[.int .i64 0, .int .i64 x] 121)).cell? ⟨w2.heap.size + 1, i, none⟩ = some v := fun i v h => by
    rw [hs1] at h
    exact Zdj (bA) h lR
   exact ⟨k 0 _ (Zaf _ _ 0 _ rfl), k 1 _ (Zaf _ _ 1 _ rfl), k 2 _ (Zaf _ _ 2 _ rfl), k 3 _ (Zaf _ _ 3 _ rfl), k 4 _ (Zaf _ _ 4 _ rfl), k 5 _ (Zaf _ _ 5 _ rfl), trivial⟩
  ·have hs1 : (w2.alloc (.cells #[.int .i64 x, .int .i64 y, .slice none 0 0, .slice none 0 0] 126)).heap.size = w2.heap.size + 1 := by simp
   have h := (Fz.new (w2.alloc (.cells #[.int .i64 x, .int .i64 y, .slice none 0 0, .slice none 0 0] 126)) #[.int .i64 0, .int .i64 0, .slice none 0 0, .slice none 0 0, .slice none 0 0, .slice none 0 0] 63).below ((Below.refl _ _).alloc lR (.cells #[.int .i64 0, .int .i64 x] 121)) (by simp)
   rw [hs1] at h
   exact h
  ·have hs2 : ((w2.alloc (.cells #[.int .i64 x, .int .i64 y, .slice none 0 0, .slice none 0 0] 126)).alloc (.cells #[.int .i64 0, .int .i64 0, .slice none 0 0, .slice none 0 0, .slice none 0 0, .slice none 0 0] 63)).heap.size = w2.heap.size + 1 + 1 := by simp
   rw [← hs2]
   exact ⟨Zaf _ _ 0 _ rfl, Zaf _ _ 1 _ rfl, Fz.new _ _ _, by simp⟩
 clear hr1 hr2 alm hp0 hp1
 go_wp2_with fail
 generalize hW3 : (((w2.alloc (.cells #[.int .i64 x, .int .i64 y, .slice none 0 0, .slice none 0 0] 126)).alloc (.cells #[.int .i64 0, .int .i64 0, .slice none 0 0, .slice none 0 0, .slice none 0 0, .slice none 0 0] 63)).alloc (.cells #[.int .i64 0, .int .i64 x] 121)) = W3 at *
 clear hW3
 go_loopw [39] (fun i wr => ∃ (k : Nat) (G : Option Nat) (Oa : Option Addr) (oc : Nat) (Ea : Option Addr) (ec : Nat) (Wa : Option Addr) (wk : Nat) (n0 n1 : Int), k ≤ n ∧ i = .int .i64 k ∧ Cp true [.int .i64 0, .int .i64 0, .slice none 0 0, .slice none 0 0] wr w2.heap.size w2.heap.size (w2.heap.size + 1) (w2.heap.size + 1 + 1) x y n0 n1 (cS l x y k) k G Oa oc Ea ec Wa wk ∧ Hid (n0 = nxt l x 0 k) ∧ Hid (n1 = nxt l x 1 k) ∧ Below w2.heap.size w2 wr) (fun i _ => n - (intOf i).toNat)
 case atStart => exact ⟨0, _, _, _, _, _, _, _, _, _, Nat.zero_le _, rfl, hC0, zH (by simp [nxt, insL, sumI]), zH (by simp [nxt, insL, sumI]), hb3⟩
 case round =>
  obtain ⟨k, G, Oa, oc, Ea, ec, Wa, wk, n0, n1, hk, rfl, hC, hn0, hn1, hb⟩ := hrel
  clear hC0 hb3
  by_cases hlt : k < n
  ·have hfitAll := Zev (x + y) hg.2.1 (by omega : k < l.length) (cS_inv x y hg.2.1 k (by omega))
   have hinv := cS_inv x y hg.2.1 k (by omega)
   have hnx : Hid (∀ p, nxt l x p (k + 1) = nxt l x p k + if (lx l k).kind = 1 ∧ (lx l k).party = p then (lx l k).width else 0) := zH (fun p => by unfold nxt; rw [insL_sum_step (by omega)]; omega)
   have hstep : Hid (∀ r : Go2, stepG l x y k (cS l x y k) = r → cS l x y (k + 1) = ⟨r.g, if (lx l k).kind = 6 then (cS l x y k).os ++ r.o else (cS l x y k).os, (cS l x y k).ws ++ [r.o], (cS l x y k).es ++ [(r.g.length : Int)]⟩) := zH (fun r h => by show stepC l (stepG l x y k (cS l x y k)) k (cS l x y k) = _; rw [h]; rfl)
   have hsG : Hid (stepG l x y k (cS l x y k) = if (lx l k).kind = 1 then ⟨(cS l x y k).g, spn (nxt l x (lx l k).party k) (lx l k).width.toNat⟩ else lineG (x + y) (lx l k) (psL l (cS l x y k).ws (lx l k)) (cS l x y k).g) := zH rfl
   have hfind : Hid (∀ nm, iFind l nm = sFind l nm) := zH (fun nm => (find_same (allW_ok hg.2.1) nm).symm)
   have hnb0 := nxt_bd hg (p := 0) (k := k) hxb (by omega)
   have hnb1 := nxt_bd hg (p := 1) (k := k) hxb (by omega)
   rw [← hn0.out] at hnb0
   rw [← hn1.out] at hnb1
   have hshx := hsh (lx l k) (by rw [lx_lt (by omega)]; exact List.getElem_mem _)
   obtain ⟨s, hs⟩ := lT (cS l x y k)
   rw [hs.out] at hC hinv hfitAll hstep hsG
   have hrl := ha2.below hb lR
   obtain ⟨pb, po, P, q, hA, hpbB, hat, hxr⟩ := hrl.at_ hlt
   obtain ⟨X, hX⟩ := lT (lx l k)
   rw [hX.out] at hat hxr hfitAll hstep hsG hshx hnx
   obtain ⟨hfit, hfd, hlen, hwidX, hwk1, hwk2⟩ := hfitAll
   have hgb := hinv.g
   have hob := hinv.os
   obtain ⟨hs1, hs2, hs3, hs4⟩ := hshx
   have al : Below wr.heap.size wr ((wr.alloc (.cells #[.int .i64 X.kind, .string (bs X.name), .string (bs X.op), .slice P X.parts.length q, .int .i64 X.party, .int .i64 X.width, .int .i64 X.value] 89)).alloc (.cells #[] 24)) := (bA).alloc (by simp) _
   have hone : LnAt ((wr.alloc (.cells #[.int .i64 X.kind, .string (bs X.name), .string (bs X.op), .slice P X.parts.length q, .int .i64 X.party, .int .i64 X.width, .int .i64 X.value] 89)).alloc (.cells #[] 24)) wr.heap.size 0 X P q := (LnAt.new wr X P q 89).below ((Below.refl _ _).alloc lR (.cells #[] 24)) (by simp)
   have hNL0 : NL ((wr.alloc (.cells #[.int .i64 X.kind, .string (bs X.name), .string (bs X.op), .slice P X.parts.length q, .int .i64 X.party, .int .i64 X.width, .int .i64 X.value] 89)).alloc (.cells #[] 24)) w2.heap.size G (wr.heap.size + 1) (.slice (some ⟨wr.heap.size + 1, 0, none⟩) 0 0) 0 [] := by
    have h := NL.new0 (wr.alloc (.cells #[.int .i64 X.kind, .string (bs X.name), .string (bs X.op), .slice P X.parts.length q, .int .i64 X.party, .int .i64 X.width, .int .i64 X.value] 89)) w2.heap.size G (wr.alloc (.cells #[.int .i64 X.kind, .string (bs X.name), .string (bs X.op), .slice P X.parts.length q, .int .i64 X.party, .int .i64 X.width, .int .i64 X.value] 89)).heap.size lR (by have := hC.mq.1; simp; omega) (fun g hg => by have := hC.mq.lt g hg; simp; omega)
    simpa using h
   have hszb : ((wr.alloc (.cells #[.int .i64 X.kind, .string (bs X.name), .string (bs X.op), .slice P X.parts.length q, .int .i64 X.party, .int .i64 X.width, .int .i64 X.value] 89)).alloc (.cells #[] 24)).heap.size = wr.heap.size + 2 := by simp
   have hzw := hb.size
   have hbc := hC.lb.2.2.2
   subst hA
   obtain ⟨c0, c1, c2, c3, c4, c5, c6⟩ := hat
   go_wp2_with fail
   clear c0 c1 c2 c3 c4 c5 c6
   generalize hwb : (wr.alloc (.cells #[.int .i64 X.kind, .string (bs X.name), .string (bs X.op), .slice P X.parts.length q, .int .i64 X.party, .int .i64 X.width, .int .i64 X.value] 89)).alloc (.cells #[] 24) = wb at *
   generalize hS0 : wr.heap.size = S0 at *
   have hSz := zH hS0
   have hCle := Nat.le_of_eq hS0
   clear hS0 hwb
   go_loopw [12, 47] (fun r i w3 => ∃ (j : Nat) (PA : Option Addr) (pc : Nat), j ≤ X.parts.length ∧ i = .int .i64 j ∧ r = .slice PA j pc ∧ NL w3 w2.heap.size G (S0 + 1) (.slice PA j pc) j ((psL l s.ws X).take j) ∧ Below (S0 + 1) wb w3) (fun _ i _ => X.parts.length - (intOf i).toNat)
   case atStart => exact ⟨0, _, _, Nat.zero_le _, rfl, rfl, hNL0, Below.refl _ _⟩
   case round =>
    obtain ⟨j, PA, pc, hj, rfl, rfl, hNL, hb4⟩ := hrel
    clear hNL0
    have hz4 := hb4.size
    have alq := al.trans (hb4.mono (by omega))
    have hC4 := hC.below alq hCle
    by_cases hjl : j < X.parts.length
    ·obtain ⟨nb, no, hP, hnb, hnc⟩ := (hxr.below alq hCle).at_ hjl
     subst hP
     have hrl4 := hrl.below alq hCle
     have hfj := hfd _ (sx_memW hjl)
     have hsn : Hid ((psL l s.ws X).take (j + 1) = (psL l s.ws X).take j ++ [gl s.ws (sFind l (sx X.parts j)).toNat]) := zH (psL_take hjl)
     obtain ⟨nm, hnm⟩ := lT (sx X.parts j)
     rw [hnm.out] at hnc hfj hsn
     obtain ⟨F, hF⟩ := Int.eq_ofNat_of_zero_le hfj.1
     have hFk : F < k := by omega
     have hF2 : Hid (iFind l nm = (F : Int)) := zH (by rw [hfind.out, hF])
     rw [show (sFind l nm).toNat = F by omega] at hsn
     obtain ⟨wg, A1, d1, hWa, hwc, hwr1, hwgs, hwA⟩ := hC.wire hFk
     subst hWa
     have e4 : wr.cell? ⟨w2.heap.size + 1, 4, none⟩ = some (.slice (some ⟨wg, 0, none⟩) k wk) := hC4.cs.2.2.2.2.1
     have eF := Zdj alq hwc hCle
     have hwr2 := hwr1.below alq hCle
     have hm2 := (rm_of hwr1 hwA).below_ alq hCle
     obtain ⟨xs, hxs⟩ := lT (gl s.ws F)
     rw [hxs.out] at hsn eF hm2
     have hpne : ∀ r, r < S0 + 1 → (Value.slice PA j pc).ownBlock ≠ some r := fun r hr hc => by have := hNL.lt r hc; omega
     have hA1 : ∀ q o, A1 = some ⟨q, o, none⟩ → q < S0 := fun q o hq => by have := (hwA q o hq).2; omega
     have hGs : ∀ g, G = some g → g < S0 := fun g hg => by have := hC.mq.lt g hg; omega
     have hbs : w2.heap.size < S0 := by have := hC.mq.1; omega
     have hwg2 : wg < S0 := by omega
     clear hF hfj hwc hwr1 hwA hwr2 hCle
     go_wp2_with fail
     go_region_held3 (fun w' => w'.cell? ⟨w2.heap.size + 1, 4, none⟩ = some (.slice (some ⟨wg, 0, none⟩) k wk) ∧ w'.cell? ⟨wg, F, none⟩ = some (.slice A1 xs.length d1))
      (first | (go_keep; done) | (go_split_ands; exact ⟨Zab (by assumption) hb5, Zab (by assumption) hb5⟩) | (go_split_ands; exact ⟨Zep (by assumption) hg6 (hpne _ (by show w2.heap.size + 1 < S0 + 1; omega)), Zep (by assumption) hg6 (hpne _ (by show wg < S0 + 1; omega))⟩))
      (first | (go_at_call 84; refine (lineOf_any (some ⟨pb, po, none⟩) n c l nm _ (hrl4.below (Zai 1) lR) (by omega)).mono ?_; rintro e w5 ⟨he5, hb5⟩; rw [hF2.out] at he5; obtain rfl := he5; have hs5 : wr.heap.size ≤ w5.heap.size := hb5.size) | (refine step_appN (b := w2.heap.size) (lo := S0 + 1) (G := G) (by rfl) _ _ (by rfl) (by rfl) (((hNL.below_ (Zai 1) lR).below_ hb5 lR).alloc_ (.cells #[.slice A1 xs.length d1] 24)) (by rfl) ((((hm2.below_ (Zai 1) lR).below_ hb5 lR)).below_ ((Below.refl _ _).alloc lR (.cells #[.slice A1 xs.length d1] 24)) lR) (fun q o hq => ⟨hpne q (by have := hA1 q o hq; omega), by have := hA1 q o hq; simp; omega⟩) (Zaf _ _ 0 _ rfl) (by omega) (by simp; omega) (by simp; omega) (fun g hg => by have := hGs g hg; simp; omega) ?_; intro A6 c6 w6 hN6 hg6))
     have hb45 : Below wr.heap.size wr w5 := (Zai 1).trans (hb5.mono lR)
     have hb6 : Below (S0 + 1) wb w6 := (((hb4.trans (hb45.mono (by omega))).alloc (by omega) (.cells #[.slice A1 xs.length d1] 24)).grown hg6 (by simp; omega) (fun g hg => (hNL.lt g hg).1))
     go_wp2
     go_roundw
     case rel => exact ⟨j + 1, A6, c6, by omega, by go_num, rfl, by rw [hsn.out]; exact hN6, hb6⟩
     case measure => simp [intOf]; omega
    ·obtain rfl : j = X.parts.length := by omega
     have hpl : (psL l s.ws X).length = X.parts.length := by simp [psL]
     rw [List.take_of_length_le (by omega)] at hNL
     have hone4 := hone.below hb4 (by show S0 < S0 + 1; omega)
     have hB4 := hb.trans (alq.mono (by omega))
     have hltC := hC.lt
     have hbnS : w2.heap.size + 1 + 1 < S0 := by have := (hltC (w2.heap.size + 1 + 1) (by simp)).2; omega
     have hC5 := hC4.alloc (.cells #[] 3)
     have hNL5 := hNL.alloc_ (.cells #[] 3)
     obtain ⟨ps, hps⟩ := lT (psL l s.ws X)
     rw [hps.out] at hfit hNL hNL5 hsG hlen
     have hzS : S0 < wr.heap.size := by omega
     clear hC hone hb4 hrl hxr al hfd hpl
     obtain ⟨e0, e1, e2, e3, e4, e5, e6⟩ := hone4
     simp only [Nat.zero_add] at e1 e2 e3 e4 e5 e6
     go_upto_if 65 with (fail)
     go_cut [15, 39] from 39 to 119 (fun v i9 wx => i9 = .int .i64 k ∧ ∃ (g1 : List G3) (r : List Int) (G1 : Option Nat) (R : Option Addr) (rc : Nat) (m0 m1 : Int), v = .slice R r.length rc ∧ Cp true [.int .i64 0, .int .i64 0, .slice none 0 0, .slice none 0 0] wx w2.heap.size w2.heap.size (w2.heap.size + 1) (w2.heap.size + 1 + 1) x y m0 m1 ⟨g1, s.os, s.ws, s.es⟩ k G1 Oa oc Ea ec Wa wk ∧ Lst true wx w2.heap.size [some w2.heap.size, some (w2.heap.size + 1), some (w2.heap.size + 1 + 1), G1, ob Oa, ob Ea, ob Wa] R rc r ∧ wx.cell? ⟨S0, 0, none⟩ = some (.int .i64 X.kind) ∧ Below w2.heap.size w2 wx ∧ Hid (stepG l x y k s = ⟨g1, r⟩) ∧ Hid (m0 = nxt l x 0 (k + 1)) ∧ Hid (m1 = nxt l x 1 (k + 1)) ∧ S0 < wx.heap.size ∧ r.length ≤ 10)
     case first =>
      by_cases hk1 : X.kind = 1
      ·have hpt : (X.party = 0 ∨ X.party = 1) ∧ 1 ≤ X.width ∧ X.width ≤ 10 := by
        unfold Fit at hfit
        rcases hfit with ⟨_, h1, h2, h3, _⟩ | ⟨h, _⟩ | ⟨h, _⟩ | ⟨h, _⟩ | ⟨h, _⟩ | ⟨h, _⟩
        ·exact ⟨h1, h2, h3⟩
        all_goals omega
       obtain ⟨hpt, hw1, hw2⟩ := hpt
       obtain ⟨M, hM⟩ := Int.eq_ofNat_of_zero_le (show 0 ≤ X.width by omega)
       rw [hM] at e5
       have hM2 : M ≤ 10 := by omega
       have hown5 : Own (wr.alloc (.cells #[] 3)) wr.heap.size (wr.alloc (.cells #[] 3)).heap.size (.slice (some ⟨wr.heap.size, 0, none⟩) 0 0) 0 [] := (Zcc wr wr.heap.size lR).now
       have t1 : (X.kind == 1) = true := by simp [hk1]
       have ht5 := hC5.tw
       rcases hpt with hp | hp
       ·rw [hp] at e4
        have hst : Hid (stepG l x y k s = ⟨s.g, spn n0 M⟩) := zH (by rw [hsG.out, if_pos hk1, hp, ← hn0.out, hM]; rfl)
        have hx0 : Hid (n0 + M = nxt l x 0 (k + 1)) := zH (by rw [hnx.out, ← hn0.out]; simp [hk1, hp, hM])
        have hx1 : Hid (n1 + 0 = nxt l x 1 (k + 1)) := zH (by rw [hnx.out, ← hn1.out]; simp [hk1, hp, hM])
        clear hk1 hp hM hsG hstep hnx
        obtain ⟨S1, hS1⟩ := lT (wr.heap.size)
        have hzS1 : S0 < S1 := by have := hS1.out; omega
        have hS1z := Nat.le_of_eq hS1.out.symm
        have hown5 := hown5.lo_ hS1z
        go_wp2_with fail
        generalize hW5 : wr.alloc (.cells #[] 3) = W5 at *
        have hal5 : Alt (fun i => S1 ≤ i ∨ i = w2.heap.size + 1 + 1) wr W5 := by rw [← hW5]; exact (Alt.refl_ _ _).alloc_ _
        clear hW5
        rw [t1]
        go_loopw [15, 68] (fun r i w6 => ∃ (j : Nat) (R : Option Addr) (rc : Nat) (m : Int), j ≤ M ∧ i = .int .i64 j ∧ r = .slice R j rc ∧ Own w6 S1 w6.heap.size (.slice R j rc) j (spn n0 j) ∧ Alt (fun i => S1 ≤ i ∨ i = w2.heap.size + 1 + 1) wr w6 ∧ Two w6 (w2.heap.size + 1 + 1) m n1 ∧ Hid (m = n0 + j)) (fun _ i _ => M - (intOf i).toNat)
        case atStart => exact ⟨0, _, _, _, Nat.zero_le _, rfl, rfl, hown5, hal5, ht5, zH (by simp)⟩
        case round =>
         obtain ⟨j, R, rc, m, hj, rfl, rfl, hown, hal, htw, hm⟩ := hrel
         clear hown5 hal5 ht5
         have hzr := hal.size
         by_cases hjM : j < M
         ·have d4 := hal.cell_ e4 (fun hc => by rcases hc with hc | hc; (have h9 : S1 ≤ S0 := hc; omega); (have h9 : S0 = w2.heap.size + 1 + 1 := hc; omega))
          have hmb : 0 ≤ m ∧ m ≤ 40000 := by have := hm.out; omega
          have hwrap : IntKind.i64.wrap (m + 1) = m + 1 := by rw [IntKind.wrap_i64] <;> omega
          have htwc := htw
          obtain ⟨b0, b1, bz, bl⟩ := htwc
          have hoA := hown.alloc (.cells #[.int .i64 m] 3)
          go_wp2_with (at_builtin; refine Zae _ rfl _ _ rfl rfl hoA rfl (Zaj _ _ _ _ (by simp)) (by omega) oM ?_; intro A7 c7 w7 hown7 hg7 hat7 hk7; have k7 : Alt (fun i => S1 ≤ i) wr w7 := ((Alt.refl_ _ _).alloc_ (.cells #[.int .i64 m] 3)).grow_ hg7 (fun i hi h => (hown.lt i h).1); have htw7 := htw.alt k7 (by omega); have d7 := k7.cell_ d4 (by show ¬ S1 ≤ S0; omega); obtain ⟨b07, b17, bz7, bl7⟩ := htw7; have z7 := bz7 0)
          have k8 := (hal.trans_ k7 (fun i _ h => .inl h)).set_ ⟨w2.heap.size + 1 + 1, 0, none⟩ (.int .i64 (m + 1)) (fun _ => .inr rfl)
          have ho8 : Own (w7.setCell ⟨w2.heap.size + 1 + 1, 0, none⟩ (.int .i64 (m + 1))) S1 _ (.slice A7 (j + 1) c7) (j + 1) (spn n0 (j + 1)) := (Own.alt (by rw [spn_snoc, ← hm.out]; exact hown7) ((Alt.refl_ (fun i => i = w2.heap.size + 1 + 1) w7).set_ ⟨w2.heap.size + 1 + 1, 0, none⟩ (.int .i64 (m + 1)) (fun _ => rfl)) (fun g hg hc => by have := hown7.lt g hg; omega)).now
          have ht8 : Two (w7.setCell ⟨w2.heap.size + 1 + 1, 0, none⟩ (.int .i64 (m + 1))) (w2.heap.size + 1 + 1) (m + 1) n1 := ⟨World.cell?_setCell_same _ _ _ b07, (World.cell?_setCell_other _ _ _ _ (by simp)).trans b17, fun q => (World.frozen?_setCell _ _ _ _).trans (bz7 q), by simpa using bl7⟩
          clear b0 b1 bz bl hown htw hoA hown7 hat7 hk7 hg7
          go_wp2
          go_roundw
          case rel => exact ⟨j + 1, A7, c7, m + 1, by omega, by go_num, rfl, ho8, k8, ht8, zH (by have := hm.out; omega)⟩
          case measure => simp [intOf]; omega
         ·obtain rfl : j = M := by omega
          have hC6 := hC4.nexts (hal.mono_ (fun i _ h => h.imp (fun h => by have := hS1.out; omega) id)) htw
          have hSl : (spn n0 j).length = j := Zck _ _
          have hL : Lst true wr w2.heap.size [some w2.heap.size, some (w2.heap.size + 1), some (w2.heap.size + 1 + 1), G, ob Oa, ob Ea, ob Wa] R rc (spn n0 j) := Lst.ofOwn hown (fun g hg => by have := hltC g hg; omega) (by omega)
          have hB6 := hB4.trans (hal.below_ (B := w2.heap.size) (by omega) (fun i hi hc => by rcases hc with hc | hc <;> omega))
          have d0 := hal.cell_ e0 (fun hc => by rcases hc with hc | hc; (have h9 : S1 ≤ S0 := hc; omega); (have h9 : S0 = w2.heap.size + 1 + 1 := hc; omega))
          have hS7 : S0 < wr.heap.size := by have := hal.size; have := hS1.out; omega
          have hx0' : Hid (m = nxt l x 0 (k + 1)) := zH (by have := hx0.out; have := hm.out; omega)
          have hx1' : Hid (n1 = nxt l x 1 (k + 1)) := zH (by have := hx1.out; have := hm.out; omega)
          clear hC4 hC5 hown hal htw hB4 hltC hNL hNL5
          go_wp2
          go_meet
          exact ⟨rfl, s.g, spn n0 j, G, R, rc, m, n1, by rw [Zck], hC6, hL, d0, hB6, hst, hx0', hx1', hS7, by rw [Zck]; omega⟩
       ·rw [hp] at e4
        have hst : Hid (stepG l x y k s = ⟨s.g, spn n1 M⟩) := zH (by rw [hsG.out, if_pos hk1, hp, ← hn1.out, hM]; rfl)
        have hx0 : Hid (n0 + 0 = nxt l x 0 (k + 1)) := zH (by rw [hnx.out, ← hn0.out]; simp [hk1, hp, hM])
        have hx1 : Hid (n1 + M = nxt l x 1 (k + 1)) := zH (by rw [hnx.out, ← hn1.out]; simp [hk1, hp, hM])
        clear hk1 hp hM hsG hstep hnx
        obtain ⟨S1, hS1⟩ := lT (wr.heap.size)
        have hzS1 : S0 < S1 := by have := hS1.out; omega
        have hS1z := Nat.le_of_eq hS1.out.symm
        have hown5 := hown5.lo_ hS1z
        go_wp2_with fail
        generalize hW5 : wr.alloc (.cells #[] 3) = W5 at *
        have hal5 : Alt (fun i => S1 ≤ i ∨ i = w2.heap.size + 1 + 1) wr W5 := by rw [← hW5]; exact (Alt.refl_ _ _).alloc_ _
        clear hW5
        rw [t1]
        go_loopw [15, 68] (fun r i w6 => ∃ (j : Nat) (R : Option Addr) (rc : Nat) (m : Int), j ≤ M ∧ i = .int .i64 j ∧ r = .slice R j rc ∧ Own w6 S1 w6.heap.size (.slice R j rc) j (spn n1 j) ∧ Alt (fun i => S1 ≤ i ∨ i = w2.heap.size + 1 + 1) wr w6 ∧ Two w6 (w2.heap.size + 1 + 1) n0 m ∧ Hid (m = n1 + j)) (fun _ i _ => M - (intOf i).toNat)
        case atStart => exact ⟨0, _, _, _, Nat.zero_le _, rfl, rfl, hown5, hal5, ht5, zH (by simp)⟩
        case round =>
         obtain ⟨j, R, rc, m, hj, rfl, rfl, hown, hal, htw, hm⟩ := hrel
         clear hown5 hal5 ht5
         have hzr := hal.size
         by_cases hjM : j < M
         ·have d4 := hal.cell_ e4 (fun hc => by rcases hc with hc | hc; (have h9 : S1 ≤ S0 := hc; omega); (have h9 : S0 = w2.heap.size + 1 + 1 := hc; omega))
          have hmb : 0 ≤ m ∧ m ≤ 40000 := by have := hm.out; omega
          have hwrap : IntKind.i64.wrap (m + 1) = m + 1 := by rw [IntKind.wrap_i64] <;> omega
          have htwc := htw
          obtain ⟨b0, b1, bz, bl⟩ := htwc
          have hoA := hown.alloc (.cells #[.int .i64 m] 3)
          go_wp2_with (at_builtin; refine Zae _ rfl _ _ rfl rfl hoA rfl (Zaj _ _ _ _ (by simp)) (by omega) oM ?_; intro A7 c7 w7 hown7 hg7 hat7 hk7; have k7 : Alt (fun i => S1 ≤ i) wr w7 := ((Alt.refl_ _ _).alloc_ (.cells #[.int .i64 m] 3)).grow_ hg7 (fun i hi h => (hown.lt i h).1); have htw7 := htw.alt k7 (by omega); have d7 := k7.cell_ d4 (by show ¬ S1 ≤ S0; omega); obtain ⟨b07, b17, bz7, bl7⟩ := htw7; have z7 := bz7 1)
          have k8 := (hal.trans_ k7 (fun i _ h => .inl h)).set_ ⟨w2.heap.size + 1 + 1, 1, none⟩ (.int .i64 (m + 1)) (fun _ => .inr rfl)
          have ho8 : Own (w7.setCell ⟨w2.heap.size + 1 + 1, 1, none⟩ (.int .i64 (m + 1))) S1 _ (.slice A7 (j + 1) c7) (j + 1) (spn n1 (j + 1)) := (Own.alt (by rw [spn_snoc, ← hm.out]; exact hown7) ((Alt.refl_ (fun i => i = w2.heap.size + 1 + 1) w7).set_ ⟨w2.heap.size + 1 + 1, 1, none⟩ (.int .i64 (m + 1)) (fun _ => rfl)) (fun g hg hc => by have := hown7.lt g hg; omega)).now
          have ht8 : Two (w7.setCell ⟨w2.heap.size + 1 + 1, 1, none⟩ (.int .i64 (m + 1))) (w2.heap.size + 1 + 1) n0 (m + 1) := ⟨(World.cell?_setCell_other _ _ _ _ (by simp)).trans b07, World.cell?_setCell_same _ _ _ b17, fun q => (World.frozen?_setCell _ _ _ _).trans (bz7 q), by simpa using bl7⟩
          clear b0 b1 bz bl hown htw hoA hown7 hat7 hk7 hg7
          go_wp2
          go_roundw
          case rel => exact ⟨j + 1, A7, c7, m + 1, by omega, by go_num, rfl, ho8, k8, ht8, zH (by have := hm.out; omega)⟩
          case measure => simp [intOf]; omega
         ·obtain rfl : j = M := by omega
          have hC6 := hC4.nexts (hal.mono_ (fun i _ h => h.imp (fun h => by have := hS1.out; omega) id)) htw
          have hSl : (spn n1 j).length = j := Zck _ _
          have hL : Lst true wr w2.heap.size [some w2.heap.size, some (w2.heap.size + 1), some (w2.heap.size + 1 + 1), G, ob Oa, ob Ea, ob Wa] R rc (spn n1 j) := Lst.ofOwn hown (fun g hg => by have := hltC g hg; omega) (by omega)
          have hB6 := hB4.trans (hal.below_ (B := w2.heap.size) (by omega) (fun i hi hc => by rcases hc with hc | hc <;> omega))
          have d0 := hal.cell_ e0 (fun hc => by rcases hc with hc | hc; (have h9 : S1 ≤ S0 := hc; omega); (have h9 : S0 = w2.heap.size + 1 + 1 := hc; omega))
          have hS7 : S0 < wr.heap.size := by have := hal.size; have := hS1.out; omega
          have hx0' : Hid (n0 = nxt l x 0 (k + 1)) := zH (by have := hx0.out; have := hm.out; omega)
          have hx1' : Hid (m = nxt l x 1 (k + 1)) := zH (by have := hx1.out; have := hm.out; omega)
          clear hC4 hC5 hown hal htw hB4 hltC hNL hNL5
          go_wp2
          go_meet
          exact ⟨rfl, s.g, spn n1 j, G, R, rc, n0, m, by rw [Zck], hC6, hL, d0, hB6, hst, hx0', hx1', hS7, by rw [Zck]; omega⟩
      ·have t1 : (X.kind == 1) = false := by simp [hk1]
       obtain ⟨LG, LO, hLL⟩ : ∃ LG LO, Hid (lineG (x + y) X ps s.g = ⟨LG, LO⟩) := ⟨_, _, zH rfl⟩
       have hcall := maker_line_any (Qo := ⟨Oa, s.os.length, oc⟩) X w2.heap.size w2.heap.size x y s.g G P q PA X.parts.length pc (S0 + 1) ps (wr.alloc (.cells #[] 3)) hC5.mq hNL5 hxb hyb (by omega) (by simp; omega) hk1 hfit
       have hln := hlen hk1
       rw [hLL.out] at hcall hln
       have hst : Hid (stepG l x y k s = ⟨LG, LO⟩) := zH (by rw [hsG.out, if_neg hk1]; exact hLL.out)
       dsimp only at hcall hln
       have hLOl : LO.length ≤ 10 := by have := hln.2; omega
       have hx0 : Hid (n0 = nxt l x 0 (k + 1)) := zH (by rw [hnx.out, ← hn0.out]; simp [hk1])
       have hx1 : Hid (n1 = nxt l x 1 (k + 1)) := zH (by rw [hnx.out, ← hn1.out]; simp [hk1])
       have e0A := Zdj ((Below.refl _ _).alloc lR (.cells #[] 3)) e0 (Nat.le_refl wr.heap.size)
       have hob : OffB w2.heap.size G S0 := ⟨by omega, fun hc => by have := hltC S0 (by simp [hc]); omega⟩
       have hGlo : ∀ g, G = some g → w2.heap.size ≤ g := fun g hg => (hltC g (by simp [hg])).1
       clear hln hLL hsG hnx hNL hfit hk1
       go_wp2_with fail
       refine (hcall).mono ?_
       rintro e w7 hT
       obtain ⟨G7, R, rc, rfl, hm7, hv7, ho7⟩ := hT
       have hC7 := hC5.mv hm7 hv7
       have hz7 := hv7.size
       rw [World.size_alloc] at hz7
       have d0 := hv7.cellF e0A hob
       have hB7 : Below w2.heap.size w2 w7 := hv7.toBelow (hB4.alloc (by omega) _) lR hGlo (by simp; omega)
       have hL7 : Lst true w7 w2.heap.size [some w2.heap.size, some (w2.heap.size + 1), some (w2.heap.size + 1 + 1), G7, ob Oa, ob Ea, ob Wa] R rc LO := Lst.ofOM ho7 (fun g hg => by
        have hg' : some g ∈ ([some w2.heap.size, some (w2.heap.size + 1), some (w2.heap.size + 1 + 1), G, ob Oa, ob Ea, ob Wa] : List (Option Nat)) := by
         simp only [List.mem_cons, List.not_mem_nil, or_false] at hg ⊢
         rcases hg with h | h | h | h | h | h | h
         ·exact .inl h
         ·exact .inr (.inl h)
         ·exact .inr (.inr (.inl h))
         ·cases h
         ·exact .inr (.inr (.inr (.inr (.inl h))))
         ·exact .inr (.inr (.inr (.inr (.inr (.inl h)))))
         ·exact .inr (.inr (.inr (.inr (.inr (.inr h)))))
        have := hltC g hg'; rw [World.size_alloc]; omega) (by rw [World.size_alloc]; omega)
       have hS7 : S0 < w7.heap.size := by omega
       clear hcall hm7 hv7 ho7 hC4 hC5 hNL5 hB4 hltC e0 e0A hob hGlo
       go_wp2
       go_meet
       exact ⟨rfl, LG, LO, G7, R, rc, n0, n1, rfl, hC7, hL7, d0, hB7, hst, hx0, hx1, hS7, hLOl⟩
     case rest =>
      obtain ⟨rfl, g1, r, G1, R, rc, m0, m1, rfl, hC7, hL7, d0, hB7, hst, hx0, hx1, hS7, hrl⟩ := hcut
      clear hC4 hC5 hNL hNL5 hB4 hltC hfit e0 e1 e2 e3 e4 e5 e6 hn0 hn1
      have hz7 := hB7.size
      go_upto_if 90 with (fail)
      go_cut [15, 39] from 39 to 119 (fun v i9 wx => i9 = .int .i64 k ∧ ∃ (os1 : List Int) (Oa1 : Option Addr) (oc1 : Nat), v = .slice R r.length rc ∧ Cp true [.int .i64 0, .int .i64 0, .slice none 0 0, .slice none 0 0] wx w2.heap.size w2.heap.size (w2.heap.size + 1) (w2.heap.size + 1 + 1) x y m0 m1 ⟨g1, os1, s.ws, s.es⟩ k G1 Oa1 oc1 Ea ec Wa wk ∧ Lst true wx w2.heap.size [some w2.heap.size, some (w2.heap.size + 1), some (w2.heap.size + 1 + 1), G1, ob Oa1, ob Ea, ob Wa] R rc r ∧ Below w2.heap.size w2 wx ∧ Hid (cS l x y (k + 1) = ⟨g1, os1, s.ws ++ [r], s.es ++ [(g1.length : Int)]⟩))
      case first =>
       by_cases hk6 : X.kind = 6
       ·have t6 : (X.kind == 6) = true := by simp [hk6]
        have hk1c : Hid (cS l x y (k + 1) = ⟨g1, s.os ++ r, s.ws ++ [r], s.es ++ [(g1.length : Int)]⟩) := zH (by rw [hstep.out _ hst.out]; simp [hk6])
        clear hk6 hstep hst
        obtain ⟨o3, z3⟩ := hC7.cell3
        have hou := hC7.ou
        dsimp only at o3 z3 hou
        go_wp2_with (at_builtin; refine Zae _ rfl _ _ rfl rfl hou rfl hL7.rd (by omega) oM ?_; intro A8 c8 w8 hown8 hg8 hat8 hk8; obtain ⟨o38, z38⟩ := hC7.cell3_grown hg8; have o39 : w8.cell? ⟨w2.heap.size, 3, none⟩ = some (.slice Oa s.os.length oc) := o38; have z39 : w8.frozen? ⟨w2.heap.size, 3, none⟩ = false := z38; clear o38 z38)
        have hC8 := hC7.outs hown8 hg8 hat8
        have hL8 := hL7.outs (s := ⟨g1, s.os, s.ws, s.es⟩) hg8 hat8 (.slice A8 (s.os.length + r.length) c8)
        dsimp only at hC8
        have hB8 := (hB7.grown hg8 (by omega) (fun g hg => (hou.lt g hg).1)).setCell (p := ⟨w2.heap.size, 3, none⟩) lR (.slice A8 (s.os.length + r.length) c8)
        clear hC7 hL7 hB7 hou o3 z3 hown8 hg8 hat8 hk8
        go_meet
        exact ⟨rfl, s.os ++ r, A8, c8, rfl, hC8, hL8, hB8, hk1c⟩
       ·have t6 : (X.kind == 6) = false := by simp [hk6]
        have hk1c : Hid (cS l x y (k + 1) = ⟨g1, s.os, s.ws ++ [r], s.es ++ [(g1.length : Int)]⟩) := zH (by rw [hstep.out _ hst.out]; simp [hk6])
        clear hk6 hstep hst
        go_wp2
        go_meet
        exact ⟨rfl, s.os, Oa, oc, rfl, hC7, hL7, hB7, hk1c⟩
      case rest =>
       obtain ⟨rfl, os1, Oa1, oc1, rfl, hC9, hL9, hB9, hk1c⟩ := hcut
       have hz9 := hB9.size
       clear hC7 hL7 hB7 hz7 hS7 d0 hstep hst
       go_wp2_with fail
       have hcs := hC9.cs
       obtain ⟨Ag, cg, f2⟩ := hC9.cell2
       obtain ⟨nWc, nWb, nEc, nEb, nWE, nbc⟩ := hC9.ne
       have hWlt : ∀ g, ob Wa = some g → w2.heap.size ≤ g ∧ g < wc.heap.size := fun g hg => hC9.lt g (by rw [← hg]; simp)
       have hElt : ∀ g, ob Ea = some g → w2.heap.size ≤ g ∧ g < wc.heap.size := fun g hg => hC9.lt g (by rw [← hg]; simp)
       obtain ⟨vals, hrow, hwlen, hlists⟩ := hC9.wi
       have hlists := zH hlists
       have hen := hC9.en
       have hfz := hC9.fz
       have hbcl := hC9.lb.2.2.2
       have hloW : w2.heap.size ≤ wc.heap.size := by omega
       have kd : Alt (fun _ => False) wc (World.drew wc) := (Alt.refl_ _ _).drewN_ 1
       have hcsD := hcs.alt kd (fun h => h)
       have hfzD := hfz.alt kd hbcl (fun h => h)
       obtain ⟨ng, hng⟩ := lT (g1.length)
       rw [hng.out] at f2
       go_wp2_with fail
       refine wp_region_memC (18) ((fun i => ob Wa = some i ∨ ob Ea = some i ∨ i = w2.heap.size + 1)) [(⟨w2.heap.size, 2, none⟩, .slice Ag ng cg), (⟨w2.heap.size, 2, none⟩, .slice Ag ng cg)] [(1, [102], []), (3, [], []), (4, [100, 3], [100]), (6, [102], []), (13, [], []), (14, [101, 13], [101]), (16, [102, 4], [102])] [100, 101, 102] [4, 14, 16] [(100, Res.rowV w2.heap.size k vals), (101, Res.row w2.heap.size k s.es), (102, Res.bx (w2.heap.size + 1) ([.int .i64 0, .int .i64 0, .slice none 0 0, .slice none 0 0] ++ [.slice Wa k wk, .slice Ea k ec])), (1, Res.plain (.slice Wa k wk)), (3, Res.rowV w2.heap.size 1 [.slice R r.length rc]), (4, Res.rowV w2.heap.size (k + 1) (vals ++ [.slice R r.length rc])), (6, Res.plain (.slice Ea k ec)), (13, Res.row w2.heap.size 1 [(ng : Int)]), (14, Res.row w2.heap.size (k + 1) (s.es ++ [(ng : Int)])), (16, Res.bxf (w2.heap.size + 1) (fun ds => [.int .i64 0, .int .i64 0, .slice none 0 0, .slice none 0 0] ++ [ds.getD 1 undef, .slice Ea k ec]))] ((upd (upd (upd (fun _ => undef) 100 (.slice Wa k wk)) 101 (.slice Ea k ec)) 102 undef)) (by kernel_rfl) (by kernel_rfl) (by kernel_rfl) (by simp only [cD, cC, and_true]; repeat (any_goals (apply And.intro)); all_goals (first | assumption | go_simp)) (fun q9 hq9 => by simp only [List.mem_cons, List.not_mem_nil, or_false] at hq9; rcases hq9 with rfl | rfl <;> rintro (h | h | h) <;> first | exact nWb h | exact nEb h | exact nbc h | exact nbc h.symm) (⟨⟨hrow, fun i hi => by have hi' : ob Wa = some i := (ob_eq Wa k wk).symm.trans hi; exact ⟨.inr (.inl hi'), (hWlt i hi').2⟩⟩, ⟨hen, fun i hi => by have hi' : ob Ea = some i := (ob_eq Ea k ec).symm.trans hi; exact ⟨.inr (.inr (.inl hi')), (hElt i hi').2⟩⟩, ⟨⟨hbcl, hcsD, hfzD⟩, fun i hi => by have hi' : i = w2.heap.size + 1 := hi; subst hi'; exact ⟨.inr (.inr (.inr rfl)), hbcl⟩⟩, trivial⟩) ((fun d hd d' hd' hn c hc hc' => by have hv : ∀ (A9 : Option Addr) (n9 c9 : Nat), (Value.slice A9 n9 c9).ownBlock = some c → ob A9 = some c := fun A9 n9 c9 h => (ob_eq A9 n9 c9).symm.trans h; have hz : c = w2.heap.size + 1 → ob Wa = some c → False := (fun e h => nWc (e ▸ h)); have hz2 : c = w2.heap.size + 1 → ob Ea = some c → False := (fun e h => nEc (e ▸ h)); simp only [List.mem_cons, List.not_mem_nil, or_false] at hd hd'; rcases hd with rfl | rfl | rfl <;> rcases hd' with rfl | rfl | rfl <;> first | exact hn rfl | exact nWE c (hv _ _ _ hc) (hv _ _ _ hc') | exact nWE c (hv _ _ _ hc') (hv _ _ _ hc) | exact hz hc (hv _ _ _ hc') | exact hz hc' (hv _ _ _ hc) | exact hz2 hc (hv _ _ _ hc') | exact hz2 hc' (hv _ _ _ hc))) ?_
       simp only [List.take_succ_cons, List.take_zero, List.drop_succ_cons, List.drop_zero, List.take_nil, List.drop_nil, List.take, List.drop]
       clear hcs hfz hcsD hfzD
       repeat (first
        | ((first
         | ((with_reducible refine Zan ?_ ?_ ?_)
            ·exact rfl
            ·exact rfl)
         | ((with_reducible refine Zas ?_ ?_ ?_)
            ·exact rfl
            ·exact Zad rfl rfl rfl rfl))
           intro K hK
           apply Exists.intro
           refine ⟨fun w3 hw3 => ?_, ?_⟩
           ·have hcs := hw3
            simp only [cD, cC, and_true] at hcs
            clear hw3
            go_simp
            first | done | exact ⟨rfl, rfl⟩ | rfl
           refine hK _ ?_
           clear hK K
           try simp only [pA, pB, sA, sB, sC])
        | ((with_reducible refine Zar ?_ ?_ ?_)
           ·exact rfl
           ·exact Zak rfl rfl rfl rfl
           simp only [pA, pB, sA, sB, sC]))
       focus
        (with_reducible refine mem_plain (.slice Wa k wk) ?_ ?_ ?_ ?_ (hw := ?_))
        ·exact rfl
        ·exact rfl
        ·intro w3 hw3 hc3 hp3
         have hcs := hc3
         simp only [cD, cC, and_true] at hcs
         (have hq : w2.heap.size + 1 < w3.heap.size ∧ CellsAt w3 (w2.heap.size + 1) 0 ([.int .i64 0, .int .i64 0, .slice none 0 0, .slice none 0 0] ++ [.slice Wa k wk, .slice Ea k ec]) ∧ Fz w3 (w2.heap.size + 1) := (Zcl (d := 102) (by decide) hp3 (by rfl) (by rfl)).1; have g4 : w3.cell? ⟨w2.heap.size + 1, 4, none⟩ = some (.slice Wa k wk) := hq.2.1.2.2.2.2.1; clear hq hcs; go_simp; exact postPlain.mk_ (Below.refl _ _))
        rotate_left
        ·first | exact Zao rfl | exact Zad rfl rfl rfl rfl
        try simp only [pA, pB, sA, sB, sC]
       repeat (first
        | ((first
         | ((with_reducible refine Zan ?_ ?_ ?_)
            ·exact rfl
            ·exact rfl)
         | ((with_reducible refine Zas ?_ ?_ ?_)
            ·exact rfl
            ·exact Zad rfl rfl rfl rfl))
           intro K hK
           apply Exists.intro
           refine ⟨fun w3 hw3 => ?_, ?_⟩
           ·have hcs := hw3
            simp only [cD, cC, and_true] at hcs
            clear hw3
            go_simp
            first | done | exact ⟨rfl, rfl⟩ | rfl
           refine hK _ ?_
           clear hK K
           try simp only [pA, pB, sA, sB, sC])
        | ((with_reducible refine Zar ?_ ?_ ?_)
           ·exact rfl
           ·exact Zak rfl rfl rfl rfl
           simp only [pA, pB, sA, sB, sC]))
       refine mem_rowV1 w2.heap.size (.slice R r.length rc) (by rfl) (by rfl) hloW (fun w3 hw3 hc3 => ?_) (fun A7 c7 => ?_)
       ·go_simp
        try exact ⟨rfl, rfl⟩
       try simp only [pA, pB, sA, sB, sC]
       refine mem_appV 100 3 w2.heap.size k vals (.slice R r.length rc) Wa wk A7 c7 (.tmp 103) (.tmp 105) (by rfl) (by rfl) hloW (by rfl) (by rfl) (by decide) (by rfl) (by rfl) (by decide) (by rfl) (by rfl) (by rfl) (by rfl) (by rfl) (by omega) (fun W8 c8 => ?_)
       try simp only [pA, pB, sA, sB, sC]
       repeat (first
        | ((first
         | ((with_reducible refine Zan ?_ ?_ ?_)
            ·exact rfl
            ·exact rfl)
         | ((with_reducible refine Zas ?_ ?_ ?_)
            ·exact rfl
            ·exact Zad rfl rfl rfl rfl))
           intro K hK
           apply Exists.intro
           refine ⟨fun w3 hw3 => ?_, ?_⟩
           ·have hcs := hw3
            simp only [cD, cC, and_true] at hcs
            clear hw3
            go_simp
            first | done | exact ⟨rfl, rfl⟩ | rfl
           refine hK _ ?_
           clear hK K
           try simp only [pA, pB, sA, sB, sC])
        | ((with_reducible refine Zar ?_ ?_ ?_)
           ·exact rfl
           ·exact Zak rfl rfl rfl rfl
           simp only [pA, pB, sA, sB, sC]))
       focus
        (with_reducible refine mem_plain (.slice Ea k ec) ?_ ?_ ?_ ?_ (hw := ?_))
        ·exact rfl
        ·exact rfl
        ·intro w3 hw3 hc3 hp3
         have hcs := hc3
         simp only [cD, cC, and_true] at hcs
         (have hq : w2.heap.size + 1 < w3.heap.size ∧ CellsAt w3 (w2.heap.size + 1) 0 ([.int .i64 0, .int .i64 0, .slice none 0 0, .slice none 0 0] ++ [.slice Wa k wk, .slice Ea k ec]) ∧ Fz w3 (w2.heap.size + 1) := (Zcl (d := 102) (by decide) hp3 (by rfl) (by rfl)).1; have g5 : w3.cell? ⟨w2.heap.size + 1, 5, none⟩ = some (.slice Ea k ec) := hq.2.1.2.2.2.2.2.1; clear hq hcs; go_simp; exact postPlain.mk_ (Below.refl _ _))
        rotate_left
        ·first | exact Zao rfl | exact Zad rfl rfl rfl rfl
        try simp only [pA, pB, sA, sB, sC]
       repeat (first
        | ((first
         | ((with_reducible refine Zan ?_ ?_ ?_)
            ·exact rfl
            ·exact rfl)
         | ((with_reducible refine Zas ?_ ?_ ?_)
            ·exact rfl
            ·exact Zad rfl rfl rfl rfl))
           intro K hK
           apply Exists.intro
           refine ⟨fun w3 hw3 => ?_, ?_⟩
           ·have hcs := hw3
            simp only [cD, cC, and_true] at hcs
            clear hw3
            go_simp
            first | done | exact ⟨rfl, rfl⟩ | rfl
           refine hK _ ?_
           clear hK K
           try simp only [pA, pB, sA, sB, sC])
        | ((with_reducible refine Zar ?_ ?_ ?_)
           ·exact rfl
           ·exact Zak rfl rfl rfl rfl
           simp only [pA, pB, sA, sB, sC]))
       focus
        (with_reducible refine mem_row w2.heap.size 1 [(ng : Int)] ?_ ?_ ?_ ?_ ?_ (hw := ?_))
        ·exact rfl
        ·exact rfl
        ·omega
        ·intro w3 hw3 hc3 hp3
         have hcs := hc3
         simp only [cD, cC, and_true] at hcs
         (go_simp; exact postRow.new1 _ _)
        rotate_left
        ·first | exact Zao rfl | exact Zad rfl rfl rfl rfl
        intro A9 c9
        try simp only [pA, pB, sA, sB, sC]
       refine mem_appI 101 w2.heap.size k 1 s.es [(ng : Int)] Ea ec A9 c9 (.tmp 108) (.tmp 115) (by rfl) (by rfl) hloW (by rfl) (by rfl) (by decide) (by rfl) (by rfl) (by rfl) (by rfl) (by omega) (fun w3 hw3 hc3 hp3 => ?_) (fun E8 d8 => ?_)
       ·have h9 : Own w3 w2.heap.size w3.heap.size (.slice A9 1 c9) 1 [(ng : Int)] := (Zcl (d := 13) (by decide) hp3 (by rfl) (by rfl)).1
        exact h9.reads
       try simp only [pA, pB, sA, sB, sC]
       repeat (first
        | ((first
         | ((with_reducible refine Zan ?_ ?_ ?_)
            ·exact rfl
            ·exact rfl)
         | ((with_reducible refine Zas ?_ ?_ ?_)
            ·exact rfl
            ·exact Zad rfl rfl rfl rfl))
           intro K hK
           apply Exists.intro
           refine ⟨fun w3 hw3 => ?_, ?_⟩
           ·have hcs := hw3
            simp only [cD, cC, and_true] at hcs
            clear hw3
            go_simp
            first | done | exact ⟨rfl, rfl⟩ | rfl
           refine hK _ ?_
           clear hK K
           try simp only [pA, pB, sA, sB, sC])
        | ((with_reducible refine Zar ?_ ?_ ?_)
           ·exact rfl
           ·exact Zak rfl rfl rfl rfl
           simp only [pA, pB, sA, sB, sC]))
       refine mem_bxf 102 (w2.heap.size + 1) ([.int .i64 0, .int .i64 0, .slice none 0 0, .slice none 0 0] ++ [.slice Wa k wk, .slice Ea k ec]) (fun ds => [.int .i64 0, .int .i64 0, .slice none 0 0, .slice none 0 0] ++ [ds.getD 1 undef, .slice Ea k ec]) undef (by rfl) (by rfl) (by rfl) (by rfl) (by decide) (by rfl) (fun w3 hw3 hc3 hp3 hd3 hs3 hf3 => ?_) ?_
       ·show sepAt _ _ _ (fun v w' => v = undef ∧ CellsAt w' (w2.heap.size + 1) 0 ([.int .i64 0, .int .i64 0, .slice none 0 0, .slice none 0 0] ++ [.slice W8 (k + 1) c8, .slice Ea k ec]) ∧ Fz w' (w2.heap.size + 1) ∧ Alt (fun i => i = w2.heap.size + 1) w3 w') w3
        have g4 : w3.cell? ⟨w2.heap.size + 1, 4, none⟩ = some (.slice Wa k wk) := hs3.2.2.2.2.1
        have z4 := hf3 4
        have hset := cs_setA hs3 (.slice W8 (k + 1) c8)
        have hfs := hf3.set ⟨w2.heap.size + 1, 4, none⟩ (.slice W8 (k + 1) c8)
        have hka := (Alt.refl_ (fun i => i = w2.heap.size + 1) w3).set_ ⟨w2.heap.size + 1, 4, none⟩ (.slice W8 (k + 1) c8) (fun _ => rfl)
        clear hc3 hp3 hs3 hf3
        refine Zby (post := fun v w' => v = undef ∧ w' = w3.setCell ⟨w2.heap.size + 1, 4, none⟩ (.slice W8 (k + 1) c8)) ?_ (fun v w' h9 => by obtain ⟨rfl, rfl⟩ := h9; exact ⟨rfl, hset, hfs, hka⟩)
        go_simp
        try exact ⟨rfl, rfl⟩
       try simp only [pA, pB, sA, sB, sC]
       repeat (first
        | ((first
         | ((with_reducible refine Zan ?_ ?_ ?_)
            ·exact rfl
            ·exact rfl)
         | ((with_reducible refine Zas ?_ ?_ ?_)
            ·exact rfl
            ·exact Zad rfl rfl rfl rfl))
           intro K hK
           apply Exists.intro
           refine ⟨fun w3 hw3 => ?_, ?_⟩
           ·have hcs := hw3
            simp only [cD, cC, and_true] at hcs
            clear hw3
            go_simp
            first | done | exact ⟨rfl, rfl⟩ | rfl
           refine hK _ ?_
           clear hK K
           try simp only [pA, pB, sA, sB, sC])
        | ((with_reducible refine Zar ?_ ?_ ?_)
           ·exact rfl
           ·exact Zak rfl rfl rfl rfl
           simp only [pA, pB, sA, sB, sC]))
       refine Zbs ?_
       intro wy hwy hcy hfin hap
       have hrowY : wy.ownsRow w2.heap.size 24 1 (.slice W8 (k + 1) c8) (k + 1) (vals ++ [.slice R r.length rc]) := hfin.1.1
       have henY : Own wy w2.heap.size wy.heap.size (.slice E8 (k + 1) d8) (k + 1) (s.es ++ [(ng : Int)]) := hfin.2.1.1
       have hbxY : w2.heap.size + 1 < wy.heap.size ∧ CellsAt wy (w2.heap.size + 1) 0 ([.int .i64 0, .int .i64 0, .slice none 0 0, .slice none 0 0] ++ [.slice W8 (k + 1) c8, .slice Ea k ec]) ∧ Fz wy (w2.heap.size + 1) := hfin.2.2.1.1
       obtain ⟨hbY, hcsY, hfzY⟩ := hbxY
       have hnW : ∀ g, ob W8 = some g → ¬ (g = w2.heap.size + 1) := fun g hg hc => hap 4 (by decide) 16 (by decide) (by decide) g (show (Value.slice W8 (k + 1) c8).ownBlock = some g by rw [ob_eq]; exact hg) hc
       have hnE : ∀ g, ob E8 = some g → ¬ (g = w2.heap.size + 1) := fun g hg hc => hap 14 (by decide) 16 (by decide) (by decide) g (show (Value.slice E8 (k + 1) d8).ownBlock = some g by rw [ob_eq]; exact hg) hc
       have hokW : ∀ g, ob W8 = some g → ob Wa = some g ∨ ob Ea = some g ∨ wc.heap.size ≤ g := fun g hg => by
        rcases (hfin.1.2 g (show (Value.slice W8 (k + 1) c8).ownBlock = some g by rw [ob_eq]; exact hg)).1 with h2 | h2 | h2 | h2
        ·exact .inr (.inr h2)
        ·exact .inl h2
        ·exact .inr (.inl h2)
        ·exact absurd h2 (hnW g hg)
       have hokE : ∀ g, ob E8 = some g → ob Wa = some g ∨ ob Ea = some g ∨ wc.heap.size ≤ g := fun g hg => by
        rcases (hfin.2.1.2 g (show (Value.slice E8 (k + 1) d8).ownBlock = some g by rw [ob_eq]; exact hg)).1 with h2 | h2 | h2 | h2
        ·exact .inr (.inr h2)
        ·exact .inl h2
        ·exact .inr (.inl h2)
        ·exact absurd h2 (hnE g hg)
       have hEW : ∀ g, ob E8 = some g → ob W8 ≠ some g := fun g hg hc => hap 4 (by decide) 14 (by decide) (by decide) g (show (Value.slice W8 (k + 1) c8).ownBlock = some g by rw [ob_eq]; exact hc) (show (Value.slice E8 (k + 1) d8).ownBlock = some g by rw [ob_eq]; exact hg)
       have kb := (Alt.refl_ (fun i => i = w2.heap.size + 1) wy).set_ ⟨w2.heap.size + 1, 5, none⟩ (.slice E8 (k + 1) d8) (fun _ => rfl)
       have ka := (hwy.mono_ (T := fun i => i = w2.heap.size + 1 ∨ ob Ea = some i ∨ ob Wa = some i) (fun i hi h => by
        rcases h with h2 | h2 | h2 | h2
        ·omega
        ·exact .inr (.inr h2)
        ·exact .inr (.inl h2)
        ·exact .inl h2)).set_ ⟨w2.heap.size + 1, 5, none⟩ (.slice E8 (k + 1) d8) (fun _ => .inl rfl)
       have henZ := (henY.alt kb (fun g hg => hnE g (by rw [← hg, ob_eq]))).now
       have hrowZ := Zav hrowY kb (fun g hg => hnW g (by rw [← hg, ob_eq]))
       have hcsZ := cs_setB hcsY (.slice E8 (k + 1) d8)
       have hfzZ : Fz _ (w2.heap.size + 1) := hfzY.set ⟨w2.heap.size + 1, 5, none⟩ (.slice E8 (k + 1) d8)
       have hCn := hC9.done hrow (fun j hj => by obtain ⟨P9, d9, g4, g5, g6, g7, g8⟩ := hlists.out j hj; exact ⟨P9, d9, g4, g5, g6, fun _ => g7 (by trivial), g8⟩) ka henZ hrowZ hcsZ hfzZ hokE hokW hEW hL9.rd hL9.off hL9.own hL9.low
       have hBn : Below w2.heap.size w2 (wy.setCell ⟨w2.heap.size + 1, 5, none⟩ (.slice E8 (k + 1) d8)) := hB9.trans (ka.below_ hloW (fun i hi hc => by
        rcases hc with hc | hc | hc
        ·omega
        ·have := hElt i hc; omega
        ·have := hWlt i hc; omega))
       have q5 : wy.cell? ⟨w2.heap.size + 1, 5, none⟩ = some (.slice Ea k ec) := hcsY.2.2.2.2.2.1
       have z5 := hfzY 5
       clear hfin hap hcy hwy hcsY hfzY kb ka henZ hrowZ hcsZ hfzZ hrowY henY hrow hlists hen f2
       go_wp2
       go_roundw
       case rel => exact ⟨k + 1, _, _, _, _, _, _, _, _, _, by omega, by go_num, by rw [hk1c.out, hng.out]; exact hCn, hx0, hx1, hBn⟩
       case measure => simp [intOf]; omega
  ·obtain rfl : n = k := by omega
   obtain ⟨s, hs⟩ := lT (cS l x y n)
   rw [hs.out] at hC hret
   obtain ⟨ng, hng⟩ := lT (s.g.length)
   obtain ⟨no, hno⟩ := lT (s.os.length)
   have hCC := hC
   obtain ⟨h1, h2, hf, Ag, cg, ⟨x0, x1, x2, x3⟩, ho, he⟩ := hC.mq
   rw [hng.out] at x2 ho he
   dsimp only at x0 x1 x2 x3
   rw [hno.out] at x3
   obtain ⟨q0, q1, q2, q3, q4, q5, _⟩ := hC.cs
   simp only [Nat.zero_add, Nat.reduceAdd] at q0 q1 q2 q3 q4 q5
   have hfz := hC.fz
   have z0 := hfz 0; have z1 := hfz 1; have z2 := hfz 2; have z3 := hfz 3; have z4 := hfz 4; have z5 := hfz 5
   have hzb2 := hb.size
   have hZr : Below (w.heap.size + 1) (w.alloc (.cells #[.int .i64 0, .int .i64 0, .slice none 0 0, .slice none 0 0, .slice none 0 0, .slice none 0 0] 63)) wr := by
    have := hZ2.trans (hb.mono hZ2.size)
    rwa [World.size_alloc] at this
   have rr : ∀ (i : Nat) (v : Value), (w.alloc (.cells #[.int .i64 0, .int .i64 0, .slice none 0 0, .slice none 0 0, .slice none 0 0, .slice none 0 0] 63)).cell? ⟨w.heap.size, i, none⟩ = some v → wr.cell? ⟨w.heap.size, i, none⟩ = some v := fun i v h => (hZr.cell (p := ⟨w.heap.size, i, none⟩) (by show w.heap.size < w.heap.size + 1; omega)).trans h
   have r0 := rr 0 _ (Zaf _ _ 0 _ rfl)
   have r1 := rr 1 _ (Zaf _ _ 1 _ rfl)
   have r2 := rr 2 _ (Zaf _ _ 2 _ rfl)
   have r3 := rr 3 _ (Zaf _ _ 3 _ rfl)
   have r4 := rr 4 _ (Zaf _ _ 4 _ rfl)
   have r5 := rr 5 _ (Zaf _ _ 5 _ rfl)
   have hfr : Fz wr w.heap.size := (Fz.new w #[.int .i64 0, .int .i64 0, .slice none 0 0, .slice none 0 0, .slice none 0 0, .slice none 0 0] 63).below hZr (by omega)
   have f0 := hfr 0; have f1 := hfr 1; have f2 := hfr 2; have f3 := hfr 3; have f4 := hfr 4; have f5 := hfr 5
   have hww : w.heap.size < w2.heap.size := by have := hZ2.size; simp at this; omega
   have fin : Hid (∀ wf, Alt (fun i => i = w2.heap.size + 1 ∨ i = w.heap.size) wr wf → RetCp w l (.returned (.agg #[.int .i64 x, .int .i64 y, .slice Ag ng cg, .slice Oa no oc, .slice Wa n wk, .slice Ea n ec])) wf) := zH (fun wf ka => by
    have hl := hCC.lt
    have off : ∀ p g, p ≠ 1 → ([some w2.heap.size, some (w2.heap.size + 1), some (w2.heap.size + 1 + 1), G, ob Oa, ob Ea, ob Wa] : List (Option Nat))[p]? = some (some g) → ¬ (g = w2.heap.size + 1 ∨ g = w.heap.size) := fun p g h0 hp hc => by
     rcases hc with hc | hc
     ·subst hc; exact hCC.dj p 1 _ h0 hp rfl
     ·have := (hl g (List.mem_of_getElem? hp)).1; omega
    rw [← hng.out, ← hno.out]
    rw [← hng.out] at ho he
    refine hret.out _ _ ⟨Ag, cg, Oa, oc, Ea, ec, Wa, wk, [some w2.heap.size, some (w2.heap.size + 1), some (w2.heap.size + 1 + 1), G, ob Oa, ob Ea, ob Wa], rfl, ⟨?_, ?_, ?_⟩, ?_, ?_, ?_⟩
    ·exact ((ho.alt ka (fun g hg => off 3 g (by decide) (by rw [he] at hg; rw [hg]; rfl))).now).lo_ (by omega)
    ·exact ((hCC.ou.alt ka (fun g hg => off 4 g (by decide) (by rw [← hg, ob_eq]; rfl))).now).lo_ (by omega)
    ·exact fun g hg hc => hCC.dj 4 3 g (by decide) (by rw [← hc, ob_eq]; rfl) (by rw [he] at hg; rw [hg]; rfl)
    ·exact ((hCC.en.alt ka (fun g hg => off 5 g (by decide) (by rw [← hg, ob_eq]; rfl))).now).lo_ (by omega)
    ·exact (hCC.wi.alt2 ka (fun g hg => off 6 g (by decide) (by rw [← hg]; rfl)) (by simp) hww).lo_ (by omega)
    ·exact hB2.trans ((hb.mono (by omega)).trans (ka.below_ (by omega) (fun i hi hc => by rcases hc with hc | hc <;> omega))))
   clear hC hCC hn0 hn1 h1 h2 hf ho he hfz hfr rr hret hZ2 hZr hb hsh hg
   have hbb : ¬ w.heap.size = w2.heap.size + 1 := by omega
   have hbb2 : ¬ w2.heap.size + 1 = w.heap.size := by omega
   have V := fun (v0 v1 v2 v3 : Value) => set6_cells (V := (((wr.setCell ⟨w2.heap.size + 1, 0, none⟩ v0).setCell ⟨w2.heap.size + 1, 1, none⟩ v1).setCell ⟨w2.heap.size + 1, 2, none⟩ v2).setCell ⟨w2.heap.size + 1, 3, none⟩ v3) (B := w.heap.size) (u0 := .int .i64 0) (u1 := .int .i64 0) (u2 := .slice none 0 0) (u3 := .slice none 0 0) (u4 := .slice none 0 0) (u5 := .slice none 0 0) (far4 r0 hbb) (far4 r1 hbb) (far4 r2 hbb) (far4 r3 hbb) (far4 r4 hbb) (far4 r5 hbb) (.int .i64 x) (.int .i64 y) (.slice Ag ng cg) (.slice Oa no oc) (.slice Wa n wk) (.slice Ea n ec)
   obtain ⟨t0, t1, t2, t3, t4, t5⟩ := V (.int .i64 x) (.int .i64 y) (.slice Ag ng cg) (.slice Oa no oc)
   have V := zH (And.intro t0 (And.intro t1 (And.intro t2 (And.intro t3 (And.intro t4 t5)))))
   clear t0 t1 t2 t3 t4 t5
   go_wp2
   obtain ⟨t0, t1, t2, t3, t4, t5⟩ := V.out
   refine bodyPost_ret (v := .agg #[.int .i64 x, .int .i64 y, .slice Ag ng cg, .slice Oa no oc, .slice Wa n wk, .slice Ea n ec]) (by simp [results, Tryz.results97, go_sem, t0, t1, t2, t3, t4, t5]) rfl ?_
   have hAl := ((((((((((Alt.refl_ (fun i => i = w2.heap.size + 1 ∨ i = w.heap.size) wr).set_ ⟨w2.heap.size + 1, 0, none⟩ (.int .i64 x) (fun _ => .inl rfl)).set_ ⟨w2.heap.size + 1, 1, none⟩ (.int .i64 y) (fun _ => .inl rfl)).set_ ⟨w2.heap.size + 1, 2, none⟩ (.slice Ag ng cg) (fun _ => .inl rfl)).set_ ⟨w2.heap.size + 1, 3, none⟩ (.slice Oa no oc) (fun _ => .inl rfl)).set_ ⟨w.heap.size, 0, none⟩ (.int .i64 x) (fun _ => .inr rfl)).set_ ⟨w.heap.size, 1, none⟩ (.int .i64 y) (fun _ => .inr rfl)).set_ ⟨w.heap.size, 2, none⟩ (.slice Ag ng cg) (fun _ => .inr rfl)).set_ ⟨w.heap.size, 3, none⟩ (.slice Oa no oc) (fun _ => .inr rfl)).set_ ⟨w.heap.size, 4, none⟩ (.slice Wa n wk) (fun _ => .inr rfl)).set_ ⟨w.heap.size, 5, none⟩ (.slice Ea n ec) (fun _ => .inr rfl)
   exact fin.out _ hAl
end Go.Proofs.YtenknpcbbcbciaaGreat
