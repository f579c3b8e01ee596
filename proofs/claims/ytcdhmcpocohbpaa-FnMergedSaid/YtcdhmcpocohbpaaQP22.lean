/- The reference's WireValues where it succeeds. Lengths below 2^21. Words for the circuit in the making and the wires' new places, in two boxes with a row each. No condition. -/
import Derived.Test.YtcdhmcpocohbpaaQP21
import Derived.Test.YtcdhmcpocohbpaaQP16
namespace Go.Proofs.Ytcdhmcpocohbpaa
open Go.RowKit
set_option linter.unusedVariables false
set_option linter.unusedSimpArgs false
attribute [local go_sem] sepAt sepUpon pureAt pureUpon
set_option maxHeartbeats 1000000 in
theorem ciAsked_ok (x y : Int) (Ag : Option Addr) (ng cg : Nat) (Ao : Option Addr) (no co : Nat) (A B : Option Addr) (n c m d : Nat) (gs : List G3) (os us ws : List Int) (w : World) (hr : RG w Ag ng gs ∧ RI w Ao no os) (hng : ng ≤ 2097152) (hno : no ≤ 2097152) (hc : circB x y gs os = true) (ha : RI w A n us) (hb : RI w B m ws) (hn : (n : Int) = x) (hm : (m : Int) = y) (h1 : allB 0 1 us = true) (h2 : allB 0 1 ws = true) :
    Calls Try.prog 54 #[.agg #[.int .i64 x, .int .i64 y, .slice Ag ng cg, .slice Ao no co], .slice A n c, .slice B m d] w fun e w' => e = .returned (.bool true) ∧ Below w.heap.size w w' := by
  have hB : Below w.heap.size w (w.alloc (.cells #[.int .i64 x, .int .i64 y, .slice Ag ng cg, .slice Ao no co] 26)) := (Below.refl _ _).alloc (Nat.le_refl _) _
  have hx0 : BxC (w.alloc (.cells #[.int .i64 x, .int .i64 y, .slice Ag ng cg, .slice Ao no co] 26)) w.heap.size x y Ag ng cg Ao no co := BxC.new w _
  obtain ⟨hx, hy, _, _, _, _⟩ := circB_bd hc
  have nb : n ≤ 20 := by omega
  have mb : m ≤ 20 := by omega
  have t1 : Hid (bitsB n 20 us = true) := Lib.hid (by unfold bitsB; rw [h1, decide_eq_true (show n ≤ 20 by omega)]; rfl)
  have t2 : Hid (bitsB m 20 ws = true) := Lib.hid (by unfold bitsB; rw [h2, decide_eq_true (show m ≤ 20 by omega)]; rfl)
  subst hn; subst hm
  have n1 : ((n : Int) == n) = true := by simp
  have n2 : ((m : Int) == m) = true := by simp
  have H0 := Lib.hid hc; clear hc
  have hq := hx0; obtain ⟨k0, k1, k2, k3⟩ := hq
  go_enter Try.func54, Try.ntmps54
  go_wp2_with fail
  refine (ciGood_any _ _ Ag ng cg Ao no co gs os _ (hr.1.below hB (Nat.le_refl _)) (hr.2.below hB (Nat.le_refl _)) hng hno).mono ?_
  rintro e v1 ⟨rfl, b1⟩
  rw [H0.out]
  have B1 := hB.trans (b1.mono hB.size)
  go_wp2_with fail
  refine (btGood_any A n c 20 us _ (ha.below B1 (Nat.le_refl _)) (by omega)).mono ?_
  rintro e v2 ⟨rfl, rfl⟩
  rw [t1.out]
  go_wp2_with fail
  refine (btGood_any B m d 20 ws _ (hb.below B1 (Nat.le_refl _)) (by omega)).mono ?_
  rintro e v3 ⟨rfl, rfl⟩
  rw [t2.out]
  have x3 := hx0.below b1
  clear k0 k1 k2 k3
  have hq := x3; obtain ⟨k0, k1, k2, k3⟩ := hq
  go_wp2
  go_ret
  exact ⟨by simp, B1⟩
set_option maxRecDepth 100000 in
set_option maxHeartbeats 2000000 in
theorem spec_WireValues_ok (x y : Int) (Ag : Option Addr) (ng cg : Nat) (Ao : Option Addr) (no co : Nat) (A B : Option Addr) (n c m d : Nat) (gs : List G3) (os us ws : List Int) (w : World) (hr : RG w Ag ng gs ∧ RI w Ao no os) (hng : ng ≤ 2097152) (hno : no ≤ 2097152) (hc : circB x y gs os = true) (ha : RI w A n us) (hb : RI w B m ws) (hn : (n : Int) = x) (hm : (m : Int) = y) (h1 : allB 0 1 us = true) (h2 : allB 0 1 ws = true) :
    Calls Try.prog 18 #[.agg #[.int .i64 x, .int .i64 y, .slice Ag ng cg, .slice Ao no co], .slice A n c, .slice B m d] w (RetO w (some (vals gs (us ++ ws) ng))) := by
  have hB : Below w.heap.size w (w.alloc (.cells #[.int .i64 x, .int .i64 y, .slice Ag ng cg, .slice Ao no co] 26)) := (Below.refl _ _).alloc (Nat.le_refl _) _
  have hx0 : BxC (w.alloc (.cells #[.int .i64 x, .int .i64 y, .slice Ag ng cg, .slice Ao no co] 26)) w.heap.size x y Ag ng cg Ao no co := BxC.new w _
  have hs0 : (w.alloc (.cells #[.int .i64 x, .int .i64 y, .slice Ag ng cg, .slice Ao no co] 26)).heap.size = w.heap.size + 1 := by simp
  obtain ⟨hx, hy, hg3, _, hgat, _⟩ := circB_bd hc
  have hlg := hr.1.len
  have hla := ha.len
  have hlb := hb.len
  rw [hlg] at hg3 hgat
  have hgat' : gatesB ((n + m : Nat) : Int) gs ng = true := by rw [show ((n + m : Nat) : Int) = x + y by omega]; exact hgat
  have hab : allB 0 1 (us ++ ws) = true := allB_iff.2 fun z hz => (List.mem_append.1 hz).elim (allB_iff.1 h1 z) (allB_iff.1 h2 z)
  have hvl : Hid ((vals gs (us ++ ws) ng).length = n + m + ng) := Lib.hid (by rw [vals_len, List.length_append, hla, hlb])
  have hq := hx0; obtain ⟨k0, k1, k2, k3⟩ := hq
  go_enter Try.func18, Try.ntmps18
  go_wp2_with fail
  refine (ciAsked_ok x y Ag ng cg Ao no co A B n c m d gs os us ws _ ⟨hr.1.below hB (Nat.le_refl _), hr.2.below hB (Nat.le_refl _)⟩ hng hno hc (ha.below hB (Nat.le_refl _)) (hb.below hB (Nat.le_refl _)) hn hm h1 h2).mono ?_
  rintro e v1 ⟨rfl, b1⟩
  have B1 := hB.trans (b1.mono hB.size)
  have x1 := hx0.below b1
  have hz1 := b1.size
  rw [hs0] at hz1
  clear k0 k1 k2 k3 hx0 b1 hB
  have hq := x1; obtain ⟨k0, k1, k2, k3⟩ := hq
  go_wp2_with fail
  refine wp_region_mem0 (7) [(⟨w.heap.size, 0, none⟩, .int .i64 x), (⟨w.heap.size, 1, none⟩, .int .i64 y), (⟨w.heap.size, 2, none⟩, .slice Ag ng cg), (⟨w.heap.size, 3, none⟩, .slice Ao no co)] [(3, [], []), (4, [3], [])] [4] [(3, Res.row v1.heap.size (n + m) (us ++ ws)), (4, Res.row v1.heap.size (n + m + ng) (vals gs (us ++ ws) ng))] (by kernel_rfl) (by kernel_rfl) (by kernel_rfl) (by simp only [CellsL, List.mem_cons, forall_eq_or_imp, List.not_mem_nil, false_implies, implies_true, and_true]; repeat (any_goals (apply And.intro)); all_goals (first | assumption | go_simp)) ?_
  simp only [List.take_succ_cons, List.take_zero, List.drop_succ_cons, List.drop_zero, List.take_nil, List.drop_nil, List.take, List.drop]
  repeat (first
    | ((with_reducible refine mem_pure0 ?_ ?_ ?_)
       · exact rfl
       · exact rfl
       intro K hK
       apply Exists.intro
       refine ⟨fun w3 hw3 => ?_, ?_⟩
       · have hcs := hw3
         simp only [CellsL, List.mem_cons, forall_eq_or_imp, List.not_mem_nil, false_implies, implies_true, and_true] at hcs
         clear hw3
         go_simp
         first | done | exact ⟨rfl, rfl⟩ | rfl
       refine hK _ ?_
       clear hK K
       try simp only [Act.put, List.setIfInBounds_toArray, List.set_cons_zero, List.set_cons_succ])
    | ((with_reducible refine mem_skip ?_ ?_ ?_)
       · exact rfl
       · exact wanted_not rfl rfl rfl rfl
       simp only [Act.put, List.setIfInBounds_toArray, List.set_cons_zero, List.set_cons_succ])
    | ((with_reducible refine mem_pure ?_ ?_ ?_)
       · exact rfl
       · exact wanted_some rfl rfl rfl rfl
       intro K hK
       apply Exists.intro
       refine ⟨fun w3 hw3 => ?_, ?_⟩
       · have hcs := hw3
         simp only [CellsL, List.mem_cons, forall_eq_or_imp, List.not_mem_nil, false_implies, implies_true, and_true] at hcs
         clear hw3
         go_simp
         first | done | exact ⟨rfl, rfl⟩ | rfl
       refine hK _ ?_
       clear hK K
       try simp only [Act.put, List.setIfInBounds_toArray, List.set_cons_zero, List.set_cons_succ]))
  focus
    (with_reducible refine mem_row v1.heap.size (n + m) (us ++ ws) ?_ ?_ ?_ ?_ ?_ (hw := ?_))
    · exact rfl
    · exact rfl
    · omega
    · intro w3 hw3 hc3 hp3
      have hcs := hc3
      simp only [CellsL, List.mem_cons, forall_eq_or_imp, List.not_mem_nil, false_implies, implies_true, and_true] at hcs
      (go_simp; have hb3 := B1.trans ((alt_below hw3).mono B1.size); refine (ciJoin_any A B n c m d us ws _ (ha.below hb3 (Nat.le_refl _)) (hb.below hb3 (Nat.le_refl _)) (by omega) (by omega)).mono ?_; rintro e w4 ⟨A4, c4, rfl, ho4, hb4⟩; exact retPost.mk_ (postRow.mk_ ho4 hb4))
    rotate_left
    · first | exact wanted_none rfl | exact wanted_some rfl rfl rfl rfl
    intro A3 c3
    try simp only [Act.put, List.setIfInBounds_toArray, List.set_cons_zero, List.set_cons_succ]
  repeat (first
    | ((with_reducible refine mem_pure0 ?_ ?_ ?_)
       · exact rfl
       · exact rfl
       intro K hK
       apply Exists.intro
       refine ⟨fun w3 hw3 => ?_, ?_⟩
       · have hcs := hw3
         simp only [CellsL, List.mem_cons, forall_eq_or_imp, List.not_mem_nil, false_implies, implies_true, and_true] at hcs
         clear hw3
         go_simp
         first | done | exact ⟨rfl, rfl⟩ | rfl
       refine hK _ ?_
       clear hK K
       try simp only [Act.put, List.setIfInBounds_toArray, List.set_cons_zero, List.set_cons_succ])
    | ((with_reducible refine mem_skip ?_ ?_ ?_)
       · exact rfl
       · exact wanted_not rfl rfl rfl rfl
       simp only [Act.put, List.setIfInBounds_toArray, List.set_cons_zero, List.set_cons_succ])
    | ((with_reducible refine mem_pure ?_ ?_ ?_)
       · exact rfl
       · exact wanted_some rfl rfl rfl rfl
       intro K hK
       apply Exists.intro
       refine ⟨fun w3 hw3 => ?_, ?_⟩
       · have hcs := hw3
         simp only [CellsL, List.mem_cons, forall_eq_or_imp, List.not_mem_nil, false_implies, implies_true, and_true] at hcs
         clear hw3
         go_simp
         first | done | exact ⟨rfl, rfl⟩ | rfl
       refine hK _ ?_
       clear hK K
       try simp only [Act.put, List.setIfInBounds_toArray, List.set_cons_zero, List.set_cons_succ]))
  focus
    (with_reducible refine mem_row v1.heap.size (n + m + ng) (vals gs (us ++ ws) ng) ?_ ?_ ?_ ?_ ?_ (hw := ?_))
    · exact rfl
    · exact rfl
    · omega
    · intro w3 hw3 hc3 hp3
      have hcs := hc3
      simp only [CellsL, List.mem_cons, forall_eq_or_imp, List.not_mem_nil, false_implies, implies_true, and_true] at hcs
      (have h9 : Own w3 v1.heap.size w3.heap.size (.slice A3 (n + m) c3) (n + m) (us ++ ws) := hp3.1.1.1; go_simp; have hb3 := B1.trans ((alt_below hw3).mono B1.size); refine (ciValues_any x y Ag ng cg Ao no co A3 (n + m) c3 gs (us ++ ws) _ (hr.1.below hb3 (Nat.le_refl _)) h9.reads hab hgat' hg3 (by omega)).mono ?_; rintro e w4 hT; obtain ⟨A4, c4, rfl, ho4, hb4⟩ := hT.open_ hvl.out; exact retPost.mk_ (postRow.mk_ ho4 hb4))
    rotate_left
    · first | exact wanted_none rfl | exact wanted_some rfl rfl rfl rfl
    intro A5 c5
    try simp only [Act.put, List.setIfInBounds_toArray, List.set_cons_zero, List.set_cons_succ]
  repeat (first
    | ((with_reducible refine mem_pure0 ?_ ?_ ?_)
       · exact rfl
       · exact rfl
       intro K hK
       apply Exists.intro
       refine ⟨fun w3 hw3 => ?_, ?_⟩
       · have hcs := hw3
         simp only [CellsL, List.mem_cons, forall_eq_or_imp, List.not_mem_nil, false_implies, implies_true, and_true] at hcs
         clear hw3
         go_simp
         first | done | exact ⟨rfl, rfl⟩ | rfl
       refine hK _ ?_
       clear hK K
       try simp only [Act.put, List.setIfInBounds_toArray, List.set_cons_zero, List.set_cons_succ])
    | ((with_reducible refine mem_skip ?_ ?_ ?_)
       · exact rfl
       · exact wanted_not rfl rfl rfl rfl
       simp only [Act.put, List.setIfInBounds_toArray, List.set_cons_zero, List.set_cons_succ])
    | ((with_reducible refine mem_pure ?_ ?_ ?_)
       · exact rfl
       · exact wanted_some rfl rfl rfl rfl
       intro K hK
       apply Exists.intro
       refine ⟨fun w3 hw3 => ?_, ?_⟩
       · have hcs := hw3
         simp only [CellsL, List.mem_cons, forall_eq_or_imp, List.not_mem_nil, false_implies, implies_true, and_true] at hcs
         clear hw3
         go_simp
         first | done | exact ⟨rfl, rfl⟩ | rfl
       refine hK _ ?_
       clear hK K
       try simp only [Act.put, List.setIfInBounds_toArray, List.set_cons_zero, List.set_cons_succ]))
  refine wpSep_end ?_
  intro wy hwy hcy hfin hap
  have h4 : Own wy v1.heap.size wy.heap.size (.slice A5 (n + m + ng) c5) (n + m + ng) (vals gs (us ++ ws) ng) := hfin.1.1
  have By := B1.trans ((alt_below hwy).mono B1.size)
  go_wp2
  go_ret2
  exact RetO.some_ By rfl hvl.out rfl (h4.lo_ (by omega))
end Go.Proofs.Ytcdhmcpocohbpaa
namespace Go.Proofs.Ytcdhmcpocohbpaa
open Go.RowKit
set_option linter.unusedVariables false
set_option linter.unusedSimpArgs false
theorem OwnG_new1 (w : World) (g : G3) (lo : Nat) (hl : lo ≤ w.heap.size) : OwnG (w.alloc (.cells #[.int .i64 g.k, .int .i64 g.a, .int .i64 g.b] 41)) lo (w.heap.size + 1) (.slice (some ⟨w.heap.size, 0, none⟩) 1 1) 1 [g] := by
  refine ⟨?_, fun q hq => by simp [Value.ownBlock] at hq; omega⟩
  have h := World.ownsRow_lit (base := lo) (e := 41) (size := 3) w #[.int .i64 g.k, .int .i64 g.a, .int .i64 g.b] 1 hl (by unfold maxLen; omega) (by simp)
  simpa [gcells] using h
theorem postRowG.new1 (w : World) (g : G3) : postRowG w 1 [g] (.slice (some ⟨w.heap.size, 0, none⟩) 1 1) (w.alloc (.cells #[.int .i64 g.k, .int .i64 g.a, .int .i64 g.b] 41)) :=
  ⟨_, _, rfl, (OwnG_new1 w g w.heap.size (Nat.le_refl _)).hi_ (by simp), (Below.refl _ _).alloc (Nat.le_refl _) _⟩
structure MgI (w : World) (lo b4 b5 : Nat) (x y : Int) (G : Option Addr) (k cG : Nat) (gs : List G3) (F : Option Addr) (n cF : Nat) (fs : List Int) : Prop where
  bx : BxC w b4 x y G k cG none 0 0
  f4 : Fz w b4
  c5 : w.cell? ⟨b5, 0, none⟩ = some (.slice F n cF)
  f5 : Fz w b5
  g : OwnG w lo w.heap.size (.slice G k cG) k gs
  f : Own w lo w.heap.size (.slice F n cF) n fs
  ap : Apart (.slice G k cG) (.slice F n cF)
  g4 : (Value.slice G k cG).ownBlock ≠ some b4
  g5 : (Value.slice G k cG).ownBlock ≠ some b5
  r4 : (Value.slice F n cF).ownBlock ≠ some b4
  r5 : (Value.slice F n cF).ownBlock ≠ some b5
  ne : b4 ≠ b5
  lo4 : lo ≤ b4
  lo5 : lo ≤ b5
  lt4 : b4 < w.heap.size
  lt5 : b5 < w.heap.size
section
variable {w w' : World} {lo b4 b5 : Nat} {x y : Int} {G : Option Addr} {k cG : Nat} {gs : List G3} {F : Option Addr} {n cF : Nat} {fs : List Int}
theorem MgI.below (h : MgI w lo b4 b5 x y G k cG gs F n cF fs) (hb : Below w.heap.size w w') : MgI w' lo b4 b5 x y G k cG gs F n cF fs :=
  ⟨h.bx.below hb, h.f4.below hb h.lt4, cell_bel h.c5 hb, h.f5.below hb h.lt5, (h.g.below hb (.inl (Nat.le_refl _))).now, (h.f.below hb (.inl (Nat.le_refl _))).now, h.ap, h.g4, h.g5, h.r4, h.r5, h.ne, h.lo4, h.lo5, Nat.lt_of_lt_of_le h.lt4 hb.size, Nat.lt_of_lt_of_le h.lt5 hb.size⟩
theorem MgI.stored {G0 : Option Addr} {k0 c0 : Nat} {v : Value} (hx : BxC w b4 x y G0 k0 c0 none 0 0) (f4 : Fz w b4) (h5 : w.cell? ⟨b5, 0, none⟩ = some v) (f5 : Fz w b5) (hg : OwnG w lo w.heap.size (.slice G k cG) k gs) (hf : Own w lo w.heap.size (.slice F n cF) n fs) (ap : Apart (.slice G k cG) (.slice F n cF))
    (g4 : (Value.slice G k cG).ownBlock ≠ some b4) (g5 : (Value.slice G k cG).ownBlock ≠ some b5) (r4 : (Value.slice F n cF).ownBlock ≠ some b4) (r5 : (Value.slice F n cF).ownBlock ≠ some b5) (ne : b4 ≠ b5) (lo4 : lo ≤ b4) (lo5 : lo ≤ b5) (lt4 : b4 < w.heap.size) (lt5 : b5 < w.heap.size) :
    MgI ((w.setCell ⟨b4, 2, none⟩ (.slice G k cG)).setCell ⟨b5, 0, none⟩ (.slice F n cF)) lo b4 b5 x y G k cG gs F n cF fs := by
  have k1 : Alt (fun i => i = b4) w (w.setCell ⟨b4, 2, none⟩ (.slice G k cG)) := (Alt.refl_ _ w).set_ _ _ (fun _ => rfl)
  have k2 : Alt (fun i => i = b5) (w.setCell ⟨b4, 2, none⟩ (.slice G k cG)) ((w.setCell ⟨b4, 2, none⟩ (.slice G k cG)).setCell ⟨b5, 0, none⟩ (.slice F n cF)) := (Alt.refl_ _ _).set_ _ _ (fun _ => rfl)
  have h51 := k1.cell_ h5 (fun h => ne h.symm)
  exact ⟨(hx.setG G k cG).alt k2 ne, (f4.set _ _).set _ _, World.cell?_setCell_same _ _ _ h51, (f5.set _ _).set _ _, ((hg.alt k1 (fun g hg hc => g4 (hc ▸ hg))).alt k2 (fun g hg hc => g5 (hc ▸ hg))).now, ((hf.alt k1 (fun g hg hc => r4 (hc ▸ hg))).alt k2 (fun g hg hc => r5 (hc ▸ hg))).now, ap, g4, g5, r4, r5, ne, lo4, lo5, by simpa using lt4, by simpa using lt5⟩
theorem MgI.init {fc : Nat} {v : Value} (hx : BxC w b4 0 0 none 0 0 none 0 0) (f4 : Fz w b4) (h5 : w.cell? ⟨b5, 0, none⟩ = some v) (f5 : Fz w b5) (hf : Own w lo w.heap.size (.slice F n fc) n fs) (r4 : (Value.slice F n fc).ownBlock ≠ some b4) (r5 : (Value.slice F n fc).ownBlock ≠ some b5) (ne : b4 ≠ b5) (lo4 : lo ≤ b4) (lo5 : lo ≤ b5) (lt4 : b4 < w.heap.size) (lt5 : b5 < w.heap.size) :
    MgI (((((w.setCell ⟨b4, 0, none⟩ (.int .i64 x)).setCell ⟨b4, 1, none⟩ (.int .i64 y)).setCell ⟨b4, 2, none⟩ (.slice none 0 0)).setCell ⟨b4, 3, none⟩ (.slice none 0 0)).setCell ⟨b5, 0, none⟩ (.slice F n fc)) lo b4 b5 x y none 0 0 [] F n fc fs := by
  have k1 : Alt (fun i => i = b4) w ((((w.setCell ⟨b4, 0, none⟩ (.int .i64 x)).setCell ⟨b4, 1, none⟩ (.int .i64 y)).setCell ⟨b4, 2, none⟩ (.slice none 0 0)).setCell ⟨b4, 3, none⟩ (.slice none 0 0)) := alt_set4 (Alt.refl_ (fun i => i = b4) w) (fun _ => rfl) x y none 0 0 none 0 0
  have k2 : Alt (fun i => i = b5) ((((w.setCell ⟨b4, 0, none⟩ (.int .i64 x)).setCell ⟨b4, 1, none⟩ (.int .i64 y)).setCell ⟨b4, 2, none⟩ (.slice none 0 0)).setCell ⟨b4, 3, none⟩ (.slice none 0 0)) _ := (Alt.refl_ _ _).set_ ⟨b5, 0, none⟩ (.slice F n fc) (fun _ => rfl)
  have h51 := k1.cell_ h5 (fun h => ne h.symm)
  exact ⟨(BxC.set4 hx x y none 0 0 none 0 0).alt k2 ne, ((((f4.set _ _).set _ _).set _ _).set _ _).set _ _, World.cell?_setCell_same _ _ _ h51, ((((f5.set _ _).set _ _).set _ _).set _ _).set _ _, OwnG.none_ _ _ _, ((hf.alt k1 (fun g hg hc => r4 (hc ▸ hg))).alt k2 (fun g hg hc => r5 (hc ▸ hg))).now, Apart.noneG _ _ _, by simp [Value.ownBlock], by simp [Value.ownBlock], r4, r5, ne, lo4, lo5, by simpa using lt4, by simpa using lt5⟩
end
end Go.Proofs.Ytcdhmcpocohbpaa
