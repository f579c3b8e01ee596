/- A circuit as text: what it is in plain words; the contracts of both functions that write it. Lengths as valid circuits have them. -/
import Derived.Test.YtgpfiefhhlejfaaDoorQTxt
import Derived.Test.YtgpfiefhhlejfaaDoorQRes
namespace Go.Proofs.YtgpfiefhhlejfaaDoor
open Go.RowKit
set_option linter.unusedVariables false
set_option linter.unusedSimpArgs false
attribute [local go_sem] sepAt sepUpon pureAt pureUpon

/-- The words of gates. -/
def gwL : Nat → List UInt8
  | 0 => [120, 111, 114]
  | 1 => [97, 110, 100]
  | 2 => [110, 111, 116]
  | _ => [111, 110, 101]
/-- The wires that a gate takes in. -/
def prtT (g : G3) : List Int := if g.k = 2 then [g.a] else if g.k = 3 then [] else [g.a, g.b]
/-- A gate's line. -/
def gateT (g : G3) : List UInt8 := lineL (gwL g.k.toNat) (prtT g)
/-- A gate's kind is one of the four, its wires are small numbers. -/
structure GSm (g : G3) : Prop where
  k : 0 ≤ g.k ∧ g.k ≤ 3
  a : 0 ≤ g.a ∧ g.a ≤ 1000000
  b : 0 ≤ g.b ∧ g.b ≤ 1000000
theorem GSm.of_is {g : G3} {n : Int} (h : GateIs g n) (hn : n ≤ 1000000) : GSm g := by
  cases h with
  | xor_ hk a0 a1 b0 b1 => exact ⟨by omega, by omega, by omega⟩
  | and_ hk a0 a1 b0 b1 => exact ⟨by omega, by omega, by omega⟩
  | not_ hk a0 a1 b0 => exact ⟨by omega, by omega, by omega⟩
  | one_ hk a0 b0 => exact ⟨by omega, by omega, by omega⟩
theorem prtT_small {g : G3} (h : GSm g) : smallN (prtT g) := by
  intro n hn
  have := h.a; have := h.b
  unfold prtT at hn
  split at hn
  · simp only [List.mem_cons, List.not_mem_nil, or_false] at hn; subst hn; omega
  · split at hn
    · simp at hn
    · simp only [List.mem_cons, List.not_mem_nil, or_false] at hn; rcases hn with rfl | rfl <;> omega
theorem prtT_len (g : G3) : (prtT g).length ≤ 2 := by
  unfold prtT
  split
  · simp
  · split <;> simp
theorem gwL_len (k : Nat) : (gwL k).length = 3 := by unfold gwL; split <;> rfl
theorem lineL_len {wd : List UInt8} {ns : List Int} (h : smallN ns) : (lineL wd ns).length ≤ wd.length + 22 * ns.length + 1 := by
  have := numsL_len h
  simp only [lineL, List.length_append, List.length_cons, List.length_nil]; omega
theorem gateT_len {g : G3} (h : GSm g) : (gateT g).length ≤ 60 := by
  have h1 := lineL_len (wd := gwL g.k.toNat) (prtT_small h)
  have h2 := prtT_len g
  have h3 := gwL_len g.k.toNat
  unfold gateT; omega
/-- The gates' lines. -/
def gatesT (gs : List G3) : List UInt8 := gs.flatMap gateT
theorem gatesT_len {gs : List G3} (h : ∀ k, k < gs.length → GSm (gg gs k)) : ∀ j, j ≤ gs.length → (gatesT (gs.take j)).length ≤ 60 * j := by
  intro j
  induction j with
  | zero => intro _; simp [gatesT]
  | succ j ih =>
    intro hj
    have h1 := ih (by omega)
    have h2 := gateT_len (h j (by omega))
    have h3 : gs.take (j + 1) = gs.take j ++ [gg gs j] := by rw [List.take_succ_eq_append_getElem (by omega)]; simp [gg, List.getElem?_eq_getElem (show j < gs.length by omega)]
    rw [h3]
    simp only [gatesT, List.flatMap_append, List.length_append, List.flatMap_cons, List.flatMap_nil, List.append_nil] at h1 ⊢
    omega
theorem gatesT_snoc {gs : List G3} {j : Nat} (h : j < gs.length) : gatesT (gs.take (j + 1)) = gatesT (gs.take j) ++ gateT (gg gs j) := by
  have h3 : gs.take (j + 1) = gs.take j ++ [gg gs j] := by rw [List.take_succ_eq_append_getElem (by omega)]; simp [gg, List.getElem?_eq_getElem h]
  rw [h3]; simp [gatesT]
/-- A circuit as text. -/
def circT (x y : Int) (gs : List G3) (os : List Int) : List UInt8 := lineL [99, 105, 114, 99, 117, 105, 116] [x, y] ++ gatesT gs ++ lineL [111, 117, 116, 115] os
/-- What CircuitText returns. -/
def ctF (x y : Int) (gs : List G3) (os : List Int) : List UInt8 := if circB x y gs os then circT x y gs os else []
theorem circB_gsm {x y : Int} {gs : List G3} {os : List Int} (h : circB x y gs os = true) : ∀ k, k < gs.length → GSm (gg gs k) := fun k hk => by
  have hb := circB_bd h
  exact .of_is (gatesB_at hb.2.2.2.2.1 hk) (by omega)
theorem circB_osm {x y : Int} {gs : List G3} {os : List Int} (h : circB x y gs os = true) : smallN os := fun n hn => by
  have hb := circB_bd h
  have := allB_iff.1 hb.2.2.2.2.2 n hn
  omega

/-- The program's words of gates lie as its text lays them. -/
structure GWs (w : World) : Prop where
  lt : 1 < w.heap.size
  w0 : w.cell? ⟨1, 0, none⟩ = some (.string ⟨#[120, 111, 114]⟩)
  w1 : w.cell? ⟨1, 1, none⟩ = some (.string ⟨#[97, 110, 100]⟩)
  w2 : w.cell? ⟨1, 2, none⟩ = some (.string ⟨#[110, 111, 116]⟩)
  w3 : w.cell? ⟨1, 3, none⟩ = some (.string ⟨#[111, 110, 101]⟩)
theorem GWs.below {B : Nat} {w w' : World} (h : GWs w) (hb : Below B w w') (hB : w.heap.size ≤ B) : GWs w' :=
  ⟨Nat.lt_of_lt_of_le h.lt hb.size, cell_on hb h.w0 hB, cell_on hb h.w1 hB, cell_on hb h.w2 hB, cell_on hb h.w3 hB⟩
theorem RI_none (w : World) : RI w none 0 [] := ⟨rfl, fun h => absurd h (by omega)⟩
set_option maxRecDepth 100000 in
theorem gateLine_any (g : G3) (w : World) (hg : GSm g) (ht : PT w) (hw : GWs w) :
    Calls Tryd.prog 33 #[.agg #[.int .i64 g.k, .int .i64 g.a, .int .i64 g.b]] w fun e w' => e = .returned (.string (bs (gateT g))) ∧ Below w.heap.size w w' := by
  have hsm := prtT_small hg
  obtain ⟨gk, ga, gb⟩ := g
  obtain ⟨⟨hk0, hk1⟩, _, _⟩ := hg
  dsimp only at hk0 hk1
  have hB : Below w.heap.size w (w.alloc (.cells #[.int .i64 gk, .int .i64 ga, .int .i64 gb] 59)) := (Below.refl _ _).alloc (Nat.le_refl _) _
  have hzB := hB.size
  have ht1 := ht.below hB (Nat.le_refl _)
  have hw1 := hw.below hB (Nat.le_refl _)
  obtain ⟨_, g0, g1, g2, g3⟩ := hw1
  have hk : gk = 0 ∨ gk = 1 ∨ gk = 2 ∨ gk = 3 := by omega
  rcases hk with rfl | rfl | rfl | rfl
  · have HR : Hid (gateT ⟨0, ga, gb⟩ = lineL [120, 111, 114] [ga, gb]) := Lib.hid rfl
    replace hsm : smallN [ga, gb] := hsm
    go_enter Tryd.func33, Tryd.ntmps33
    go_wp2_with fail
    refine wp_region_mem0 (11) [(⟨w.heap.size, 0, none⟩, .int .i64 0), (⟨w.heap.size, 1, none⟩, .int .i64 ga), (⟨w.heap.size, 2, none⟩, .int .i64 gb), (⟨1, 0, none⟩, .string ⟨#[120, 111, 114]⟩)] [(8, [], []), (9, [8], [])] [] [(8, Res.row w.heap.size 2 [ga, gb]), (9, Res.plain (.string (bs (lineL [120, 111, 114] [ga, gb]))))] (by kernel_rfl) (by kernel_rfl) (by kernel_rfl) (by simp only [CellsL, List.mem_cons, forall_eq_or_imp, List.not_mem_nil, false_implies, implies_true, and_true]; repeat (any_goals (apply And.intro)); all_goals (first | assumption | go_simp)) ?_
    simp only [List.take_succ_cons, List.take_zero, List.drop_succ_cons, List.drop_zero, List.take_nil, List.drop_nil, List.take, List.drop]
    repeat (first
      | ((with_reducible refine mem_pure0 ?_ ?_ ?_)
         · exact rfl
         · exact rfl
         intro K hK
         apply Exists.intro
         refine ⟨fun w3 hw3 => ?_, ?_⟩
         · have hcs := hw3
           simp only [CellsL, List.mem_cons, forall_eq_or_imp, List.not_mem_nil, false_implies, implies_true, and_true] at hcs
           clear hw3
           go_simp
           first | done | exact ⟨rfl, rfl⟩ | rfl
         refine hK _ ?_
         clear hK K
         try simp only [Act.put, List.setIfInBounds_toArray, List.set_cons_zero, List.set_cons_succ])
      | ((with_reducible refine mem_skip ?_ ?_ ?_)
         · exact rfl
         · exact wanted_not rfl rfl rfl rfl
         simp only [Act.put, List.setIfInBounds_toArray, List.set_cons_zero, List.set_cons_succ])
      | ((with_reducible refine mem_pure ?_ ?_ ?_)
         · exact rfl
         · exact wanted_some rfl rfl rfl rfl
         intro K hK
         apply Exists.intro
         refine ⟨fun w3 hw3 => ?_, ?_⟩
         · have hcs := hw3
           simp only [CellsL, List.mem_cons, forall_eq_or_imp, List.not_mem_nil, false_implies, implies_true, and_true] at hcs
           clear hw3
           go_simp
           first | done | exact ⟨rfl, rfl⟩ | rfl
         refine hK _ ?_
         clear hK K
         try simp only [Act.put, List.setIfInBounds_toArray, List.set_cons_zero, List.set_cons_succ]))
    focus
      (with_reducible refine mem_row w.heap.size 2 [ga, gb] ?_ ?_ ?_ ?_ ?_ (hw := ?_))
      · exact rfl
      · exact rfl
      · omega
      · intro w3 hw3 hc3 hp3
        have hcs := hc3
        simp only [CellsL, List.mem_cons, forall_eq_or_imp, List.not_mem_nil, false_implies, implies_true, and_true] at hcs
        (go_simp; exact postRow.new2 _ _ _)
      rotate_left
      · first | exact wanted_none rfl | exact wanted_some rfl rfl rfl rfl
      intro A6 c6
      try simp only [Act.put, List.setIfInBounds_toArray, List.set_cons_zero, List.set_cons_succ]
    repeat (first
      | ((with_reducible refine mem_pure0 ?_ ?_ ?_)
         · exact rfl
         · exact rfl
         intro K hK
         apply Exists.intro
         refine ⟨fun w3 hw3 => ?_, ?_⟩
         · have hcs := hw3
           simp only [CellsL, List.mem_cons, forall_eq_or_imp, List.not_mem_nil, false_implies, implies_true, and_true] at hcs
           clear hw3
           go_simp
           first | done | exact ⟨rfl, rfl⟩ | rfl
         refine hK _ ?_
         clear hK K
         try simp only [Act.put, List.setIfInBounds_toArray, List.set_cons_zero, List.set_cons_succ])
      | ((with_reducible refine mem_skip ?_ ?_ ?_)
         · exact rfl
         · exact wanted_not rfl rfl rfl rfl
         simp only [Act.put, List.setIfInBounds_toArray, List.set_cons_zero, List.set_cons_succ])
      | ((with_reducible refine mem_pure ?_ ?_ ?_)
         · exact rfl
         · exact wanted_some rfl rfl rfl rfl
         intro K hK
         apply Exists.intro
         refine ⟨fun w3 hw3 => ?_, ?_⟩
         · have hcs := hw3
           simp only [CellsL, List.mem_cons, forall_eq_or_imp, List.not_mem_nil, false_implies, implies_true, and_true] at hcs
           clear hw3
           go_simp
           first | done | exact ⟨rfl, rfl⟩ | rfl
         refine hK _ ?_
         clear hK K
         try simp only [Act.put, List.setIfInBounds_toArray, List.set_cons_zero, List.set_cons_succ]))
    focus
      (with_reducible refine mem_plain (.string (bs (lineL [120, 111, 114] [ga, gb]))) ?_ ?_ ?_ ?_ (hw := ?_))
      · exact rfl
      · exact rfl
      · intro w3 hw3 hc3 hp3
        have hcs := hc3
        simp only [CellsL, List.mem_cons, forall_eq_or_imp, List.not_mem_nil, false_implies, implies_true, and_true] at hcs
        (have h6 : Own w3 w.heap.size w3.heap.size (.slice A6 2 c6) 2 [ga, gb] := hp3.1.1.1; have ht3 := ht.below (hB.trans ((alt_below hw3).mono hB.size)) (Nat.le_refl _); go_simp; refine (line_any ⟨#[120, 111, 114]⟩ A6 2 c6 [ga, gb] _ h6.reads (by omega) hsm (by decide) ht3).mono ?_; rintro e w4 ⟨rfl, hb4⟩; exact retPost.mk_ (postPlain.mk_ hb4))
      rotate_left
      · first | exact wanted_none rfl | exact wanted_some rfl rfl rfl rfl
      try simp only [Act.put, List.setIfInBounds_toArray, List.set_cons_zero, List.set_cons_succ]
    repeat (first
      | ((with_reducible refine mem_pure0 ?_ ?_ ?_)
         · exact rfl
         · exact rfl
         intro K hK
         apply Exists.intro
         refine ⟨fun w3 hw3 => ?_, ?_⟩
         · have hcs := hw3
           simp only [CellsL, List.mem_cons, forall_eq_or_imp, List.not_mem_nil, false_implies, implies_true, and_true] at hcs
           clear hw3
           go_simp
           first | done | exact ⟨rfl, rfl⟩ | rfl
         refine hK _ ?_
         clear hK K
         try simp only [Act.put, List.setIfInBounds_toArray, List.set_cons_zero, List.set_cons_succ])
      | ((with_reducible refine mem_skip ?_ ?_ ?_)
         · exact rfl
         · exact wanted_not rfl rfl rfl rfl
         simp only [Act.put, List.setIfInBounds_toArray, List.set_cons_zero, List.set_cons_succ])
      | ((with_reducible refine mem_pure ?_ ?_ ?_)
         · exact rfl
         · exact wanted_some rfl rfl rfl rfl
         intro K hK
         apply Exists.intro
         refine ⟨fun w3 hw3 => ?_, ?_⟩
         · have hcs := hw3
           simp only [CellsL, List.mem_cons, forall_eq_or_imp, List.not_mem_nil, false_implies, implies_true, and_true] at hcs
           clear hw3
           go_simp
           first | done | exact ⟨rfl, rfl⟩ | rfl
         refine hK _ ?_
         clear hK K
         try simp only [Act.put, List.setIfInBounds_toArray, List.set_cons_zero, List.set_cons_succ]))
    refine wpSep_end ?_
    intro wt hwt hct hfin hap
    have hb5 := hB.trans ((alt_below hwt).mono hB.size)
    go_wp2
    go_ret
    exact ⟨by rw [HR.out]; rfl, hb5⟩
  · have HR : Hid (gateT ⟨1, ga, gb⟩ = lineL [97, 110, 100] [ga, gb]) := Lib.hid rfl
    replace hsm : smallN [ga, gb] := hsm
    go_enter Tryd.func33, Tryd.ntmps33
    go_wp2_with fail
    refine wp_region_mem0 (11) [(⟨w.heap.size, 0, none⟩, .int .i64 1), (⟨w.heap.size, 1, none⟩, .int .i64 ga), (⟨w.heap.size, 2, none⟩, .int .i64 gb), (⟨1, 1, none⟩, .string ⟨#[97, 110, 100]⟩)] [(8, [], []), (9, [8], [])] [] [(8, Res.row w.heap.size 2 [ga, gb]), (9, Res.plain (.string (bs (lineL [97, 110, 100] [ga, gb]))))] (by kernel_rfl) (by kernel_rfl) (by kernel_rfl) (by simp only [CellsL, List.mem_cons, forall_eq_or_imp, List.not_mem_nil, false_implies, implies_true, and_true]; repeat (any_goals (apply And.intro)); all_goals (first | assumption | go_simp)) ?_
    simp only [List.take_succ_cons, List.take_zero, List.drop_succ_cons, List.drop_zero, List.take_nil, List.drop_nil, List.take, List.drop]
    repeat (first
      | ((with_reducible refine mem_pure0 ?_ ?_ ?_)
         · exact rfl
         · exact rfl
         intro K hK
         apply Exists.intro
         refine ⟨fun w3 hw3 => ?_, ?_⟩
         · have hcs := hw3
           simp only [CellsL, List.mem_cons, forall_eq_or_imp, List.not_mem_nil, false_implies, implies_true, and_true] at hcs
           clear hw3
           go_simp
           first | done | exact ⟨rfl, rfl⟩ | rfl
         refine hK _ ?_
         clear hK K
         try simp only [Act.put, List.setIfInBounds_toArray, List.set_cons_zero, List.set_cons_succ])
      | ((with_reducible refine mem_skip ?_ ?_ ?_)
         · exact rfl
         · exact wanted_not rfl rfl rfl rfl
         simp only [Act.put, List.setIfInBounds_toArray, List.set_cons_zero, List.set_cons_succ])
      | ((with_reducible refine mem_pure ?_ ?_ ?_)
         · exact rfl
         · exact wanted_some rfl rfl rfl rfl
         intro K hK
         apply Exists.intro
         refine ⟨fun w3 hw3 => ?_, ?_⟩
         · have hcs := hw3
           simp only [CellsL, List.mem_cons, forall_eq_or_imp, List.not_mem_nil, false_implies, implies_true, and_true] at hcs
           clear hw3
           go_simp
           first | done | exact ⟨rfl, rfl⟩ | rfl
         refine hK _ ?_
         clear hK K
         try simp only [Act.put, List.setIfInBounds_toArray, List.set_cons_zero, List.set_cons_succ]))
    focus
      (with_reducible refine mem_row w.heap.size 2 [ga, gb] ?_ ?_ ?_ ?_ ?_ (hw := ?_))
      · exact rfl
      · exact rfl
      · omega
      · intro w3 hw3 hc3 hp3
        have hcs := hc3
        simp only [CellsL, List.mem_cons, forall_eq_or_imp, List.not_mem_nil, false_implies, implies_true, and_true] at hcs
        (go_simp; exact postRow.new2 _ _ _)
      rotate_left
      · first | exact wanted_none rfl | exact wanted_some rfl rfl rfl rfl
      intro A6 c6
      try simp only [Act.put, List.setIfInBounds_toArray, List.set_cons_zero, List.set_cons_succ]
    repeat (first
      | ((with_reducible refine mem_pure0 ?_ ?_ ?_)
         · exact rfl
         · exact rfl
         intro K hK
         apply Exists.intro
         refine ⟨fun w3 hw3 => ?_, ?_⟩
         · have hcs := hw3
           simp only [CellsL, List.mem_cons, forall_eq_or_imp, List.not_mem_nil, false_implies, implies_true, and_true] at hcs
           clear hw3
           go_simp
           first | done | exact ⟨rfl, rfl⟩ | rfl
         refine hK _ ?_
         clear hK K
         try simp only [Act.put, List.setIfInBounds_toArray, List.set_cons_zero, List.set_cons_succ])
      | ((with_reducible refine mem_skip ?_ ?_ ?_)
         · exact rfl
         · exact wanted_not rfl rfl rfl rfl
         simp only [Act.put, List.setIfInBounds_toArray, List.set_cons_zero, List.set_cons_succ])
      | ((with_reducible refine mem_pure ?_ ?_ ?_)
         · exact rfl
         · exact wanted_some rfl rfl rfl rfl
         intro K hK
         apply Exists.intro
         refine ⟨fun w3 hw3 => ?_, ?_⟩
         · have hcs := hw3
           simp only [CellsL, List.mem_cons, forall_eq_or_imp, List.not_mem_nil, false_implies, implies_true, and_true] at hcs
           clear hw3
           go_simp
           first | done | exact ⟨rfl, rfl⟩ | rfl
         refine hK _ ?_
         clear hK K
         try simp only [Act.put, List.setIfInBounds_toArray, List.set_cons_zero, List.set_cons_succ]))
    focus
      (with_reducible refine mem_plain (.string (bs (lineL [97, 110, 100] [ga, gb]))) ?_ ?_ ?_ ?_ (hw := ?_))
      · exact rfl
      · exact rfl
      · intro w3 hw3 hc3 hp3
        have hcs := hc3
        simp only [CellsL, List.mem_cons, forall_eq_or_imp, List.not_mem_nil, false_implies, implies_true, and_true] at hcs
        (have h6 : Own w3 w.heap.size w3.heap.size (.slice A6 2 c6) 2 [ga, gb] := hp3.1.1.1; have ht3 := ht.below (hB.trans ((alt_below hw3).mono hB.size)) (Nat.le_refl _); go_simp; refine (line_any ⟨#[97, 110, 100]⟩ A6 2 c6 [ga, gb] _ h6.reads (by omega) hsm (by decide) ht3).mono ?_; rintro e w4 ⟨rfl, hb4⟩; exact retPost.mk_ (postPlain.mk_ hb4))
      rotate_left
      · first | exact wanted_none rfl | exact wanted_some rfl rfl rfl rfl
      try simp only [Act.put, List.setIfInBounds_toArray, List.set_cons_zero, List.set_cons_succ]
    repeat (first
      | ((with_reducible refine mem_pure0 ?_ ?_ ?_)
         · exact rfl
         · exact rfl
         intro K hK
         apply Exists.intro
         refine ⟨fun w3 hw3 => ?_, ?_⟩
         · have hcs := hw3
           simp only [CellsL, List.mem_cons, forall_eq_or_imp, List.not_mem_nil, false_implies, implies_true, and_true] at hcs
           clear hw3
           go_simp
           first | done | exact ⟨rfl, rfl⟩ | rfl
         refine hK _ ?_
         clear hK K
         try simp only [Act.put, List.setIfInBounds_toArray, List.set_cons_zero, List.set_cons_succ])
      | ((with_reducible refine mem_skip ?_ ?_ ?_)
         · exact rfl
         · exact wanted_not rfl rfl rfl rfl
         simp only [Act.put, List.setIfInBounds_toArray, List.set_cons_zero, List.set_cons_succ])
      | ((with_reducible refine mem_pure ?_ ?_ ?_)
         · exact rfl
         · exact wanted_some rfl rfl rfl rfl
         intro K hK
         apply Exists.intro
         refine ⟨fun w3 hw3 => ?_, ?_⟩
         · have hcs := hw3
           simp only [CellsL, List.mem_cons, forall_eq_or_imp, List.not_mem_nil, false_implies, implies_true, and_true] at hcs
           clear hw3
           go_simp
           first | done | exact ⟨rfl, rfl⟩ | rfl
         refine hK _ ?_
         clear hK K
         try simp only [Act.put, List.setIfInBounds_toArray, List.set_cons_zero, List.set_cons_succ]))
    refine wpSep_end ?_
    intro wt hwt hct hfin hap
    have hb5 := hB.trans ((alt_below hwt).mono hB.size)
    go_wp2
    go_ret
    exact ⟨by rw [HR.out]; rfl, hb5⟩
  · have HR : Hid (gateT ⟨2, ga, gb⟩ = lineL [110, 111, 116] [ga]) := Lib.hid rfl
    replace hsm : smallN [ga] := hsm
    go_enter Tryd.func33, Tryd.ntmps33
    go_wp2_with fail
    refine wp_region_mem0 (9) [(⟨w.heap.size, 0, none⟩, .int .i64 2), (⟨w.heap.size, 1, none⟩, .int .i64 ga), (⟨w.heap.size, 2, none⟩, .int .i64 gb), (⟨1, 2, none⟩, .string ⟨#[110, 111, 116]⟩)] [(6, [], []), (7, [6], [])] [] [(6, Res.row w.heap.size 1 [ga]), (7, Res.plain (.string (bs (lineL [110, 111, 116] [ga]))))] (by kernel_rfl) (by kernel_rfl) (by kernel_rfl) (by simp only [CellsL, List.mem_cons, forall_eq_or_imp, List.not_mem_nil, false_implies, implies_true, and_true]; repeat (any_goals (apply And.intro)); all_goals (first | assumption | go_simp)) ?_
    simp only [List.take_succ_cons, List.take_zero, List.drop_succ_cons, List.drop_zero, List.take_nil, List.drop_nil, List.take, List.drop]
    repeat (first
      | ((with_reducible refine mem_pure0 ?_ ?_ ?_)
         · exact rfl
         · exact rfl
         intro K hK
         apply Exists.intro
         refine ⟨fun w3 hw3 => ?_, ?_⟩
         · have hcs := hw3
           simp only [CellsL, List.mem_cons, forall_eq_or_imp, List.not_mem_nil, false_implies, implies_true, and_true] at hcs
           clear hw3
           go_simp
           first | done | exact ⟨rfl, rfl⟩ | rfl
         refine hK _ ?_
         clear hK K
         try simp only [Act.put, List.setIfInBounds_toArray, List.set_cons_zero, List.set_cons_succ])
      | ((with_reducible refine mem_skip ?_ ?_ ?_)
         · exact rfl
         · exact wanted_not rfl rfl rfl rfl
         simp only [Act.put, List.setIfInBounds_toArray, List.set_cons_zero, List.set_cons_succ])
      | ((with_reducible refine mem_pure ?_ ?_ ?_)
         · exact rfl
         · exact wanted_some rfl rfl rfl rfl
         intro K hK
         apply Exists.intro
         refine ⟨fun w3 hw3 => ?_, ?_⟩
         · have hcs := hw3
           simp only [CellsL, List.mem_cons, forall_eq_or_imp, List.not_mem_nil, false_implies, implies_true, and_true] at hcs
           clear hw3
           go_simp
           first | done | exact ⟨rfl, rfl⟩ | rfl
         refine hK _ ?_
         clear hK K
         try simp only [Act.put, List.setIfInBounds_toArray, List.set_cons_zero, List.set_cons_succ]))
    focus
      (with_reducible refine mem_row w.heap.size 1 [ga] ?_ ?_ ?_ ?_ ?_ (hw := ?_))
      · exact rfl
      · exact rfl
      · omega
      · intro w3 hw3 hc3 hp3
        have hcs := hc3
        simp only [CellsL, List.mem_cons, forall_eq_or_imp, List.not_mem_nil, false_implies, implies_true, and_true] at hcs
        (go_simp; exact postRow.new1 _ _)
      rotate_left
      · first | exact wanted_none rfl | exact wanted_some rfl rfl rfl rfl
      intro A6 c6
      try simp only [Act.put, List.setIfInBounds_toArray, List.set_cons_zero, List.set_cons_succ]
    repeat (first
      | ((with_reducible refine mem_pure0 ?_ ?_ ?_)
         · exact rfl
         · exact rfl
         intro K hK
         apply Exists.intro
         refine ⟨fun w3 hw3 => ?_, ?_⟩
         · have hcs := hw3
           simp only [CellsL, List.mem_cons, forall_eq_or_imp, List.not_mem_nil, false_implies, implies_true, and_true] at hcs
           clear hw3
           go_simp
           first | done | exact ⟨rfl, rfl⟩ | rfl
         refine hK _ ?_
         clear hK K
         try simp only [Act.put, List.setIfInBounds_toArray, List.set_cons_zero, List.set_cons_succ])
      | ((with_reducible refine mem_skip ?_ ?_ ?_)
         · exact rfl
         · exact wanted_not rfl rfl rfl rfl
         simp only [Act.put, List.setIfInBounds_toArray, List.set_cons_zero, List.set_cons_succ])
      | ((with_reducible refine mem_pure ?_ ?_ ?_)
         · exact rfl
         · exact wanted_some rfl rfl rfl rfl
         intro K hK
         apply Exists.intro
         refine ⟨fun w3 hw3 => ?_, ?_⟩
         · have hcs := hw3
           simp only [CellsL, List.mem_cons, forall_eq_or_imp, List.not_mem_nil, false_implies, implies_true, and_true] at hcs
           clear hw3
           go_simp
           first | done | exact ⟨rfl, rfl⟩ | rfl
         refine hK _ ?_
         clear hK K
         try simp only [Act.put, List.setIfInBounds_toArray, List.set_cons_zero, List.set_cons_succ]))
    focus
      (with_reducible refine mem_plain (.string (bs (lineL [110, 111, 116] [ga]))) ?_ ?_ ?_ ?_ (hw := ?_))
      · exact rfl
      · exact rfl
      · intro w3 hw3 hc3 hp3
        have hcs := hc3
        simp only [CellsL, List.mem_cons, forall_eq_or_imp, List.not_mem_nil, false_implies, implies_true, and_true] at hcs
        (have h6 : Own w3 w.heap.size w3.heap.size (.slice A6 1 c6) 1 [ga] := hp3.1.1.1; have ht3 := ht.below (hB.trans ((alt_below hw3).mono hB.size)) (Nat.le_refl _); go_simp; refine (line_any ⟨#[110, 111, 116]⟩ A6 1 c6 [ga] _ h6.reads (by omega) hsm (by decide) ht3).mono ?_; rintro e w4 ⟨rfl, hb4⟩; exact retPost.mk_ (postPlain.mk_ hb4))
      rotate_left
      · first | exact wanted_none rfl | exact wanted_some rfl rfl rfl rfl
      try simp only [Act.put, List.setIfInBounds_toArray, List.set_cons_zero, List.set_cons_succ]
    repeat (first
      | ((with_reducible refine mem_pure0 ?_ ?_ ?_)
         · exact rfl
         · exact rfl
         intro K hK
         apply Exists.intro
         refine ⟨fun w3 hw3 => ?_, ?_⟩
         · have hcs := hw3
           simp only [CellsL, List.mem_cons, forall_eq_or_imp, List.not_mem_nil, false_implies, implies_true, and_true] at hcs
           clear hw3
           go_simp
           first | done | exact ⟨rfl, rfl⟩ | rfl
         refine hK _ ?_
         clear hK K
         try simp only [Act.put, List.setIfInBounds_toArray, List.set_cons_zero, List.set_cons_succ])
      | ((with_reducible refine mem_skip ?_ ?_ ?_)
         · exact rfl
         · exact wanted_not rfl rfl rfl rfl
         simp only [Act.put, List.setIfInBounds_toArray, List.set_cons_zero, List.set_cons_succ])
      | ((with_reducible refine mem_pure ?_ ?_ ?_)
         · exact rfl
         · exact wanted_some rfl rfl rfl rfl
         intro K hK
         apply Exists.intro
         refine ⟨fun w3 hw3 => ?_, ?_⟩
         · have hcs := hw3
           simp only [CellsL, List.mem_cons, forall_eq_or_imp, List.not_mem_nil, false_implies, implies_true, and_true] at hcs
           clear hw3
           go_simp
           first | done | exact ⟨rfl, rfl⟩ | rfl
         refine hK _ ?_
         clear hK K
         try simp only [Act.put, List.setIfInBounds_toArray, List.set_cons_zero, List.set_cons_succ]))
    refine wpSep_end ?_
    intro wt hwt hct hfin hap
    have hb5 := hB.trans ((alt_below hwt).mono hB.size)
    go_wp2
    go_ret
    exact ⟨by rw [HR.out]; rfl, hb5⟩
  · have HR : Hid (gateT ⟨3, ga, gb⟩ = lineL [111, 110, 101] []) := Lib.hid rfl
    go_enter Tryd.func33, Tryd.ntmps33
    go_wp2_with fail
    refine (line_any ⟨#[111, 110, 101]⟩ none 0 0 [] _ (RI_none _) (by omega) (fun n hn => by cases hn) (by decide) ht1).mono ?_
    rintro e w4 ⟨rfl, hb4⟩
    go_wp2
    go_ret
    exact ⟨by rw [HR.out]; rfl, hB.trans (hb4.mono hzB)⟩

set_option maxRecDepth 100000 in
set_option maxHeartbeats 2000000 in
theorem CircuitText_any (x y : Int) (Ag : Option Addr) (ng cg : Nat) (Ao : Option Addr) (no co : Nat) (gs : List G3) (os : List Int) (w : World) (hr : RG w Ag ng gs ∧ RI w Ao no os) (hng : ng ≤ 2097152) (hno : no ≤ 2097152) (ht : PT w) (hw : GWs w) :
    Calls Tryd.prog 10 #[.agg #[.int .i64 x, .int .i64 y, .slice Ag ng cg, .slice Ao no co]] w fun e w' => e = .returned (.tuple #[.string (bs (ctF x y gs os)), .bool (circB x y gs os)]) ∧ Below w.heap.size w w' := by
  have hlg := hr.1.len
  have hlo := hr.2.len
  have hB : Below w.heap.size w (w.alloc (.cells #[.int .i64 x, .int .i64 y, .slice Ag ng cg, .slice Ao no co] 31)) := (Below.refl _ _).alloc (Nat.le_refl _) _
  have hx0 : BxC (w.alloc (.cells #[.int .i64 x, .int .i64 y, .slice Ag ng cg, .slice Ao no co] 31)) w.heap.size x y Ag ng cg Ao no co := BxC.new w _
  cases h1 : circB x y gs os with
  | false =>
    have HR : Hid (ctF x y gs os = []) := Lib.hid (by simp [ctF, h1])
    have H1 := Lib.hid h1; clear h1
    go_enter Tryd.func10, Tryd.ntmps10
    go_wp2_with fail
    refine (IsCircuit_any x y Ag ng cg Ao no co gs os _ (hr.1.below hB (Nat.le_refl _)) (hr.2.below hB (Nat.le_refl _)) hng hno).mono ?_
    rintro e v1 ⟨rfl, hb1⟩
    rw [H1.out]
    go_wp2
    go_ret2
    exact ⟨by rw [HR.out]; rfl, hB.trans (hb1.mono hB.size)⟩
  | true =>
    have hbd := circB_bd h1
    have hgsm := circB_gsm h1
    have hosm := circB_osm h1
    have HR : Hid (ctF x y gs os = circT x y gs os) := Lib.hid (by simp [ctF, h1])
    have hxy : smallN [x, y] := fun n hn => by
      simp only [List.mem_cons, List.not_mem_nil, or_false] at hn
      rcases hn with rfl | rfl <;> omega
    obtain ⟨hx, hy, hn3, ho4, _, _⟩ := hbd
    have H1 := Lib.hid h1; clear h1
    go_enter Tryd.func10, Tryd.ntmps10
    go_wp2_with fail
    refine (IsCircuit_any x y Ag ng cg Ao no co gs os _ (hr.1.below hB (Nat.le_refl _)) (hr.2.below hB (Nat.le_refl _)) hng hno).mono ?_
    rintro e v1 ⟨rfl, hb1⟩
    rw [H1.out]
    have hB1 := hB.trans (hb1.mono hB.size)
    have hx1 := hx0.below hb1
    have hq := hx1; obtain ⟨q0, q1, q2, q3⟩ := hq
    have hA2 : Below v1.heap.size v1 (v1.alloc (.cells #[.int .i64 x, .int .i64 y] 3)) := (Below.refl _ _).alloc (Nat.le_refl _) _
    have hB2 := hB1.trans (hA2.mono hB1.size)
    go_wp2_with fail
    refine (line_any ⟨#[99, 105, 114, 99, 117, 105, 116]⟩ _ 2 2 [x, y] _ (RI_new2 v1 x y _) (by omega) hxy (by decide) (ht.below hB2 (Nat.le_refl _))).mono ?_
    rintro e v2 ⟨rfl, hb2⟩
    have hB3 := hB2.trans (hb2.mono hB2.size)
    have hx2 := (hx1.below hA2).below hb2
    have hq := hx2; obtain ⟨q0, q1, q2, q3⟩ := hq
    clear hx1 hA2 hB2 hb2
    have hls : (lineL [99, 105, 114, 99, 117, 105, 116] [x, y]).length ≤ 60 := by have := lineL_len (wd := [99, 105, 114, 99, 117, 105, 116]) hxy; simp at this; omega
    go_wp2
    go_loopw [4, 19] (fun s i wr => ∃ (k : Nat) (sb : ByteArray), k ≤ ng ∧ i = .int .i64 k ∧ s = .string sb ∧ Hid (sb = bs (lineL [99, 105, 114, 99, 117, 105, 116] [x, y] ++ gatesT (gs.take k))) ∧ BxC wr w.heap.size x y Ag ng cg Ao no co ∧ Below w.heap.size w wr) (fun _ i _ => ng - (intOf i).toNat)
    case atStart => exact ⟨0, _, Nat.zero_le _, rfl, rfl, Lib.hid (by rw [List.take_zero]; exact (congrArg bs (List.append_nil _)).symm), hx2, hB3⟩
    case round =>
      clear hx2 hB3 q0 q1 q2 q3
      obtain ⟨k, sb, hk, rfl, rfl, hsb, hxr, hb⟩ := hrel
      have hsz : sb.size ≤ 60 + 60 * k := by
        rw [hsb.out, bs_size, List.length_append]
        have h1 := gatesT_len hgsm k (by omega)
        omega
      by_cases hlt : k < ng
      · obtain ⟨b, o, rfl, hbB, c0, c1, c2⟩ := (hr.1.below hb (Nat.le_refl _)).at_ hlt
        have hgl := gateT_len (hgsm k (by omega))
        rw [← bs_size] at hgl
        have hA4 : Below wr.heap.size wr (wr.alloc (.cells #[.int .i64 (gg gs k).k, .int .i64 (gg gs k).a, .int .i64 (gg gs k).b] 59)) := (Below.refl _ _).alloc (Nat.le_refl _) _
        have hB4 := hb.trans (hA4.mono hb.size)
        go_wp2_with fail
        refine (gateLine_any (gg gs k) _ (hgsm k (by omega)) (ht.below hB4 (Nat.le_refl _)) (hw.below hB4 (Nat.le_refl _))).mono ?_
        rintro e w4 ⟨rfl, hb4⟩
        have hnx : Hid (sb ++ bs (gateT (gg gs k)) = bs (lineL [99, 105, 114, 99, 117, 105, 116] [x, y] ++ gatesT (gs.take (k + 1)))) := Lib.hid (by
          rw [hsb.out, gatesT_snoc (by omega), bs_append, List.append_assoc])
        have hx5 := (hxr.below hA4).below hb4
        have hB5 := hB4.trans (hb4.mono hB4.size)
        go_wp2
        go_roundw
        case rel => exact ⟨k + 1, _, by omega, by go_num, rfl, hnx, hx5, hB5⟩
        case measure => simp [intOf]; omega
      · obtain rfl : ng = k := by omega
        have hq := hxr; obtain ⟨q0, q1, q2, q3⟩ := hq
        have hol := lineL_len (wd := [111, 117, 116, 115]) hosm
        rw [← bs_size] at hol
        simp only [List.length_cons, List.length_nil] at hol
        go_wp2_with fail
        refine (line_any ⟨#[111, 117, 116, 115]⟩ Ao no co os _ (hr.2.below hb (Nat.le_refl _)) (by omega) hosm (by decide) (ht.below hb (Nat.le_refl _))).mono ?_
        rintro e w5 ⟨rfl, hb5⟩
        have hfin : sb ++ bs (lineL [111, 117, 116, 115] os) = bs (circT x y gs os) := by
          rw [hsb.out, bs_append, List.take_of_length_le (by omega)]; rfl
        have HF := Lib.hid hfin; clear hfin
        go_wp2
        go_ret2
        exact ⟨by rw [HR.out, ← HF.out]; rfl, hb.trans (hb5.mono hb.size)⟩

end Go.Proofs.YtgpfiefhhlejfaaDoor
