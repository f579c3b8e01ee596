/- An arithmetic circuit as text: what it is in plain words; the contract of the program's function. Lengths as valid circuits have them. -/
import Derived.Test.YtgpfiefhhlejfaaDoorQCtx
namespace Go.Proofs.YtgpfiefhhlejfaaDoor
open Go.RowKit
set_option linter.unusedVariables false
set_option linter.unusedSimpArgs false
attribute [local go_sem] sepAt sepUpon pureAt pureUpon

/-- The words of arithmetic gates. -/
def awL : Nat → List UInt8
  | 0 => [97, 100, 100]
  | 1 => [109, 117, 108]
  | 2 => [115, 99, 97, 108, 101]
  | _ => [99, 111, 110, 115, 116]
/-- The numbers of a gate's line. -/
def prtA (g : G3) : List Int := if g.k = 3 then [g.a] else [g.a, g.b]
/-- An arithmetic gate's line. -/
def agateT (g : G3) : List UInt8 := lineL (awL g.k.toNat) (prtA g)
theorem GSm.of_ais {p : Int} {g : G3} {n : Int} (h : AGateIs p g n) (hn : n ≤ 1000000) (hp : p ≤ 1000000) : GSm g := by
  cases h with
  | add_ hk a0 a1 b0 b1 => exact ⟨by omega, by omega, by omega⟩
  | mul_ hk a0 a1 b0 b1 => exact ⟨by omega, by omega, by omega⟩
  | scale_ hk a0 a1 b0 b1 => exact ⟨by omega, by omega, by omega⟩
  | const_ hk a0 a1 b0 => exact ⟨by omega, by omega, by omega⟩
theorem prtA_small {g : G3} (h : GSm g) : smallN (prtA g) := by
  intro n hn
  have := h.a; have := h.b
  unfold prtA at hn
  split at hn
  · simp only [List.mem_cons, List.not_mem_nil, or_false] at hn; subst hn; omega
  · simp only [List.mem_cons, List.not_mem_nil, or_false] at hn; rcases hn with rfl | rfl <;> omega
theorem prtA_len (g : G3) : (prtA g).length ≤ 2 := by
  unfold prtA
  split <;> simp
theorem awL_len (k : Nat) : (awL k).length ≤ 5 := by unfold awL; split <;> simp
theorem agateT_len {g : G3} (h : GSm g) : (agateT g).length ≤ 60 := by
  have h1 := lineL_len (wd := awL g.k.toNat) (prtA_small h)
  have h2 := prtA_len g
  have h3 := awL_len g.k.toNat
  unfold agateT; omega
/-- The gates' lines. -/
def agatesT (gs : List G3) : List UInt8 := gs.flatMap agateT
theorem agatesT_len {gs : List G3} (h : ∀ k, k < gs.length → GSm (gg gs k)) : ∀ j, j ≤ gs.length → (agatesT (gs.take j)).length ≤ 60 * j := by
  intro j
  induction j with
  | zero => intro _; simp [agatesT]
  | succ j ih =>
    intro hj
    have h1 := ih (by omega)
    have h2 := agateT_len (h j (by omega))
    have h3 : gs.take (j + 1) = gs.take j ++ [gg gs j] := by rw [List.take_succ_eq_append_getElem (by omega)]; simp [gg, List.getElem?_eq_getElem (show j < gs.length by omega)]
    rw [h3]
    simp only [agatesT, List.flatMap_append, List.length_append, List.flatMap_cons, List.flatMap_nil, List.append_nil] at h1 ⊢
    omega
theorem agatesT_snoc {gs : List G3} {j : Nat} (h : j < gs.length) : agatesT (gs.take (j + 1)) = agatesT (gs.take j) ++ agateT (gg gs j) := by
  have h3 : gs.take (j + 1) = gs.take j ++ [gg gs j] := by rw [List.take_succ_eq_append_getElem (by omega)]; simp [gg, List.getElem?_eq_getElem h]
  rw [h3]; simp [agatesT]
/-- An arithmetic circuit as text. -/
def arithT (p x y : Int) (gs : List G3) (os : List Int) : List UInt8 := lineL [97, 114, 105, 116, 104] [p, x, y] ++ agatesT gs ++ lineL [111, 117, 116, 115] os
/-- What ArithText returns. -/
def atF (p x y : Int) (gs : List G3) (os : List Int) : List UInt8 := if arB p x y gs os then arithT p x y gs os else []
theorem arB_p {p x y : Int} {gs : List G3} {os : List Int} (h : arB p x y gs os = true) : 2 ≤ p ∧ p ≤ 251 := primeB_bd (arB_bd h).1
theorem arB_gsm {p x y : Int} {gs : List G3} {os : List Int} (h : arB p x y gs os = true) : ∀ k, k < gs.length → GSm (gg gs k) := fun k hk => by
  have hb := arB_bd h
  have hp := arB_p h
  exact .of_ais (agatesB_at hb.2.2.2.2.2.1 hk) (by omega) (by omega)
theorem arB_osm {p x y : Int} {gs : List G3} {os : List Int} (h : arB p x y gs os = true) : smallN os := fun n hn => by
  have hb := arB_bd h
  have := allB_iff.1 hb.2.2.2.2.2.2 n hn
  omega

/-- The program's words of arithmetic gates lie as its text lays them. -/
structure AWs (w : World) : Prop where
  lt : 0 < w.heap.size
  at_ : ∀ k : Nat, k ≤ 3 → w.cell? ⟨0, k, none⟩ = some (.string (bs (awL k)))
theorem AWs.below {B : Nat} {w w' : World} (h : AWs w) (hb : Below B w w') (hB : w.heap.size ≤ B) : AWs w' :=
  ⟨Nat.lt_of_lt_of_le h.lt hb.size, fun k hk => cell_on hb (h.at_ k hk) hB⟩
set_option maxRecDepth 100000 in
set_option maxHeartbeats 2000000 in
theorem ArithText_any (p x y : Int) (Ag : Option Addr) (ng cg : Nat) (Ao : Option Addr) (no co : Nat) (gs : List G3) (os : List Int) (w : World) (hr : RG w Ag ng gs ∧ RI w Ao no os) (hng : ng ≤ 2097152) (hno : no ≤ 2097152) (ht : PT w) (hw : AWs w) :
    Calls Tryd.prog 15 #[.agg #[.int .i64 p, .int .i64 x, .int .i64 y, .slice Ag ng cg, .slice Ao no co]] w fun e w' => e = .returned (.tuple #[.string (bs (atF p x y gs os)), .bool (arB p x y gs os)]) ∧ Below w.heap.size w w' := by
  have hlg := hr.1.len
  have hlo := hr.2.len
  have hB : Below w.heap.size w (w.alloc (.cells #[.int .i64 p, .int .i64 x, .int .i64 y, .slice Ag ng cg, .slice Ao no co] 40)) := (Below.refl _ _).alloc (Nat.le_refl _) _
  have hx0 : BxA (w.alloc (.cells #[.int .i64 p, .int .i64 x, .int .i64 y, .slice Ag ng cg, .slice Ao no co] 40)) w.heap.size p x y Ag ng cg Ao no co := BxA.new w _
  cases h1 : arB p x y gs os with
  | false =>
    have HR : Hid (atF p x y gs os = []) := Lib.hid (by simp [atF, h1])
    have H1 := Lib.hid h1; clear h1
    go_enter Tryd.func15, Tryd.ntmps15
    go_wp2_with fail
    refine (IsArith_any p x y Ag ng cg Ao no co gs os _ (hr.1.below hB (Nat.le_refl _)) (hr.2.below hB (Nat.le_refl _)) hng hno).mono ?_
    rintro e v1 ⟨rfl, hb1⟩
    rw [H1.out]
    go_wp2
    go_ret2
    exact ⟨by rw [HR.out]; rfl, hB.trans (hb1.mono hB.size)⟩
  | true =>
    have hbd := arB_bd h1
    have hp := arB_p h1
    have hgsm := arB_gsm h1
    have hosm := arB_osm h1
    have HR : Hid (atF p x y gs os = arithT p x y gs os) := Lib.hid (by simp [atF, h1])
    have hxy : smallN [p, x, y] := fun n hn => by
      simp only [List.mem_cons, List.not_mem_nil, or_false] at hn
      rcases hn with rfl | rfl | rfl <;> omega
    obtain ⟨_, hx, hy, hn3, ho4, _, _⟩ := hbd
    have H1 := Lib.hid h1; clear h1
    go_enter Tryd.func15, Tryd.ntmps15
    go_wp2_with fail
    refine (IsArith_any p x y Ag ng cg Ao no co gs os _ (hr.1.below hB (Nat.le_refl _)) (hr.2.below hB (Nat.le_refl _)) hng hno).mono ?_
    rintro e v1 ⟨rfl, hb1⟩
    rw [H1.out]
    have hB1 := hB.trans (hb1.mono hB.size)
    have hx1 := hx0.below hb1
    have hq := hx1; obtain ⟨q0, q1, q2, q3, q4⟩ := hq
    have hA2 : Below v1.heap.size v1 (v1.alloc (.cells #[.int .i64 p, .int .i64 x, .int .i64 y] 3)) := (Below.refl _ _).alloc (Nat.le_refl _) _
    have hB2 := hB1.trans (hA2.mono hB1.size)
    go_wp2_with fail
    refine (line_any ⟨#[97, 114, 105, 116, 104]⟩ _ 3 3 [p, x, y] _ (RI_new3 v1 p x y _) (by omega) hxy (by decide) (ht.below hB2 (Nat.le_refl _))).mono ?_
    rintro e v2 ⟨rfl, hb2⟩
    have hB3 := hB2.trans (hb2.mono hB2.size)
    have hx2 := (hx1.below hA2).below hb2
    have hq := hx2; obtain ⟨q0, q1, q2, q3, q4⟩ := hq
    clear hx1 hA2 hB2 hb2
    have hls : (lineL [97, 114, 105, 116, 104] [p, x, y]).length ≤ 80 := by have := lineL_len (wd := [97, 114, 105, 116, 104]) hxy; simp at this; omega
    go_wp2
    go_loopw [4, 21] (fun s i wr => ∃ (k : Nat) (sb : ByteArray), k ≤ ng ∧ i = .int .i64 k ∧ s = .string sb ∧ Hid (sb = bs (lineL [97, 114, 105, 116, 104] [p, x, y] ++ agatesT (gs.take k))) ∧ BxA wr w.heap.size p x y Ag ng cg Ao no co ∧ Below w.heap.size w wr) (fun _ i _ => ng - (intOf i).toNat)
    case atStart => exact ⟨0, _, Nat.zero_le _, rfl, rfl, Lib.hid (by rw [List.take_zero]; exact (congrArg bs (List.append_nil _)).symm), hx2, hB3⟩
    case round =>
      clear hx2 hB3 q0 q1 q2 q3 q4
      obtain ⟨k, sb, hk, rfl, rfl, hsb, hxr, hb⟩ := hrel
      have hsz : sb.size ≤ 80 + 60 * k := by
        rw [hsb.out, bs_size, List.length_append]
        have h1 := agatesT_len hgsm k (by omega)
        omega
      by_cases hlt : k < ng
      · obtain ⟨b, o, rfl, hbB, c0, c1, c2⟩ := (hr.1.below hb (Nat.le_refl _)).at_ hlt
        have hsn : Hid (agatesT (gs.take (k + 1)) = agatesT (gs.take k) ++ agateT (gg gs k)) := Lib.hid (agatesT_snoc (by omega))
        have hgk := hgsm k (by omega)
        have hgl := agateT_len hgk
        obtain ⟨g, hg⟩ : ∃ g, Hid (gg gs k = g) := ⟨_, Lib.hid rfl⟩
        rw [hg.out] at c0 c1 c2 hgk hsn hgl
        obtain ⟨gk, ga, gb⟩ := g
        dsimp only at c0 c1 c2
        by_cases hk : gk = 3
        · subst hk
          have hps := prtA_small hgk
          have hwz : (bs (awL 3)).size ≤ 1000 := by rw [bs_size]; have := awL_len 3; omega
          have hA4 : Below wr.heap.size wr (wr.alloc (.cells #[.int .i64 3, .int .i64 ga, .int .i64 gb] 59)) := (Below.refl _ _).alloc (Nat.le_refl _) _
          have hB4 := hb.trans (hA4.mono hb.size)
          have ht4 := ht.below hB4 (Nat.le_refl _)
          have hcw := (hw.below hB4 (Nat.le_refl _)).at_ 3 (by omega)
          have hzA : wr.heap.size ≤ (wr.alloc (.cells #[.int .i64 3, .int .i64 ga, .int .i64 gb] 59)).heap.size := hA4.size
          replace hps : smallN [ga] := hps
          obtain ⟨S, hS⟩ : ∃ S, Hid (bs (lineL (awL 3) [ga]) = S) := ⟨_, Lib.hid rfl⟩
          have hSz : S.size ≤ 60 := by rw [← hS.out, bs_size]; exact hgl
          have hSd : Hid (bs (lineL (bs (awL 3)).data.toList [ga]) = S) := hS
          have hnx : Hid (sb ++ S = bs (lineL [97, 114, 105, 116, 104] [p, x, y] ++ agatesT (gs.take (k + 1)))) := Lib.hid (by
            rw [hsb.out, hsn.out, ← hS.out, bs_append, List.append_assoc]; rfl)
          clear hgl hgk hsn hS
          go_wp2_with fail
          refine wp_region_mem0 (9) [(⟨wr.heap.size, 0, none⟩, .int .i64 3), (⟨wr.heap.size, 1, none⟩, .int .i64 ga), (⟨wr.heap.size, 2, none⟩, .int .i64 gb), (⟨0, 3, none⟩, .string (bs (awL 3)))] [(7, [], []), (8, [7], [])] [] [(7, Res.row wr.heap.size 1 [ga]), (8, Res.plain (.string S))] (by kernel_rfl) (by kernel_rfl) (by kernel_rfl) (by simp only [CellsL, List.mem_cons, forall_eq_or_imp, List.not_mem_nil, false_implies, implies_true, and_true]; repeat (any_goals (apply And.intro)); all_goals (first | assumption | go_simp)) ?_
          simp only [List.take_succ_cons, List.take_zero, List.drop_succ_cons, List.drop_zero, List.take_nil, List.drop_nil, List.take, List.drop]
          repeat (first
            | ((with_reducible refine mem_pure0 ?_ ?_ ?_)
               · exact rfl
               · exact rfl
               intro K hK
               apply Exists.intro
               refine ⟨fun w3 hw3 => ?_, ?_⟩
               · have hcs := hw3
                 simp only [CellsL, List.mem_cons, forall_eq_or_imp, List.not_mem_nil, false_implies, implies_true, and_true] at hcs
                 clear hw3
                 go_simp
                 first | done | exact ⟨rfl, rfl⟩ | rfl
               refine hK _ ?_
               clear hK K
               try simp only [Act.put, List.setIfInBounds_toArray, List.set_cons_zero, List.set_cons_succ])
            | ((with_reducible refine mem_skip ?_ ?_ ?_)
               · exact rfl
               · exact wanted_not rfl rfl rfl rfl
               simp only [Act.put, List.setIfInBounds_toArray, List.set_cons_zero, List.set_cons_succ])
            | ((with_reducible refine mem_pure ?_ ?_ ?_)
               · exact rfl
               · exact wanted_some rfl rfl rfl rfl
               intro K hK
               apply Exists.intro
               refine ⟨fun w3 hw3 => ?_, ?_⟩
               · have hcs := hw3
                 simp only [CellsL, List.mem_cons, forall_eq_or_imp, List.not_mem_nil, false_implies, implies_true, and_true] at hcs
                 clear hw3
                 go_simp
                 first | done | exact ⟨rfl, rfl⟩ | rfl
               refine hK _ ?_
               clear hK K
               try simp only [Act.put, List.setIfInBounds_toArray, List.set_cons_zero, List.set_cons_succ]))
          focus
            (with_reducible refine mem_row wr.heap.size 1 [ga] ?_ ?_ ?_ ?_ ?_ (hw := ?_))
            · exact rfl
            · exact rfl
            · omega
            · intro w3 hw3 hc3 hp3
              have hcs := hc3
              simp only [CellsL, List.mem_cons, forall_eq_or_imp, List.not_mem_nil, false_implies, implies_true, and_true] at hcs
              (go_simp; exact postRow.new1 _ _)
            rotate_left
            · first | exact wanted_none rfl | exact wanted_some rfl rfl rfl rfl
            intro A6 c6
            try simp only [Act.put, List.setIfInBounds_toArray, List.set_cons_zero, List.set_cons_succ]
          repeat (first
            | ((with_reducible refine mem_pure0 ?_ ?_ ?_)
               · exact rfl
               · exact rfl
               intro K hK
               apply Exists.intro
               refine ⟨fun w3 hw3 => ?_, ?_⟩
               · have hcs := hw3
                 simp only [CellsL, List.mem_cons, forall_eq_or_imp, List.not_mem_nil, false_implies, implies_true, and_true] at hcs
                 clear hw3
                 go_simp
                 first | done | exact ⟨rfl, rfl⟩ | rfl
               refine hK _ ?_
               clear hK K
               try simp only [Act.put, List.setIfInBounds_toArray, List.set_cons_zero, List.set_cons_succ])
            | ((with_reducible refine mem_skip ?_ ?_ ?_)
               · exact rfl
               · exact wanted_not rfl rfl rfl rfl
               simp only [Act.put, List.setIfInBounds_toArray, List.set_cons_zero, List.set_cons_succ])
            | ((with_reducible refine mem_pure ?_ ?_ ?_)
               · exact rfl
               · exact wanted_some rfl rfl rfl rfl
               intro K hK
               apply Exists.intro
               refine ⟨fun w3 hw3 => ?_, ?_⟩
               · have hcs := hw3
                 simp only [CellsL, List.mem_cons, forall_eq_or_imp, List.not_mem_nil, false_implies, implies_true, and_true] at hcs
                 clear hw3
                 go_simp
                 first | done | exact ⟨rfl, rfl⟩ | rfl
               refine hK _ ?_
               clear hK K
               try simp only [Act.put, List.setIfInBounds_toArray, List.set_cons_zero, List.set_cons_succ]))
          focus
            (with_reducible refine mem_plain (.string S) ?_ ?_ ?_ ?_ (hw := ?_))
            · exact rfl
            · exact rfl
            · intro w3 hw3 hc3 hp3
              have hcs := hc3
              simp only [CellsL, List.mem_cons, forall_eq_or_imp, List.not_mem_nil, false_implies, implies_true, and_true] at hcs
              (have h6 : Own w3 wr.heap.size w3.heap.size (.slice A6 1 c6) 1 [ga] := hp3.1.1.1; have ht3 := ht4.below (alt_below hw3) (Nat.le_refl _); go_simp; refine (line_any (bs (awL 3)) A6 1 c6 [ga] _ h6.reads (by omega) hps hwz ht3).mono ?_; rintro e w4 ⟨rfl, hb4⟩; rw [hSd.out]; exact retPost.mk_ (postPlain.mk_ hb4))
            rotate_left
            · first | exact wanted_none rfl | exact wanted_some rfl rfl rfl rfl
            try simp only [Act.put, List.setIfInBounds_toArray, List.set_cons_zero, List.set_cons_succ]
          repeat (first
            | ((with_reducible refine mem_pure0 ?_ ?_ ?_)
               · exact rfl
               · exact rfl
               intro K hK
               apply Exists.intro
               refine ⟨fun w3 hw3 => ?_, ?_⟩
               · have hcs := hw3
                 simp only [CellsL, List.mem_cons, forall_eq_or_imp, List.not_mem_nil, false_implies, implies_true, and_true] at hcs
                 clear hw3
                 go_simp
                 first | done | exact ⟨rfl, rfl⟩ | rfl
               refine hK _ ?_
               clear hK K
               try simp only [Act.put, List.setIfInBounds_toArray, List.set_cons_zero, List.set_cons_succ])
            | ((with_reducible refine mem_skip ?_ ?_ ?_)
               · exact rfl
               · exact wanted_not rfl rfl rfl rfl
               simp only [Act.put, List.setIfInBounds_toArray, List.set_cons_zero, List.set_cons_succ])
            | ((with_reducible refine mem_pure ?_ ?_ ?_)
               · exact rfl
               · exact wanted_some rfl rfl rfl rfl
               intro K hK
               apply Exists.intro
               refine ⟨fun w3 hw3 => ?_, ?_⟩
               · have hcs := hw3
                 simp only [CellsL, List.mem_cons, forall_eq_or_imp, List.not_mem_nil, false_implies, implies_true, and_true] at hcs
                 clear hw3
                 go_simp
                 first | done | exact ⟨rfl, rfl⟩ | rfl
               refine hK _ ?_
               clear hK K
               try simp only [Act.put, List.setIfInBounds_toArray, List.set_cons_zero, List.set_cons_succ]))
          refine wpSep_end ?_
          intro wt hwt hct hfin hap
          have hbl := alt_below hwt
          have hx5 := (hxr.below hA4).below hbl
          have hB5 := hB4.trans (hbl.mono hB4.size)
          clear hwt hct hfin hap
          go_wp2
          go_roundw
          case rel => exact ⟨k + 1, _, by omega, by go_num, rfl, hnx, hx5, hB5⟩
          case measure => simp [intOf]; omega
        · obtain ⟨kk, rfl⟩ : ∃ kk : Nat, gk = (kk : Int) := ⟨gk.toNat, by have := hgk.k; dsimp only at this; omega⟩
          have hk3 : kk ≤ 3 := by have := hgk.k; dsimp only at this; omega
          have hps := prtA_small hgk
          have hwz : (bs (awL kk)).size ≤ 1000 := by rw [bs_size]; have := awL_len kk; omega
          have hA4 : Below wr.heap.size wr (wr.alloc (.cells #[.int .i64 (kk : Int), .int .i64 ga, .int .i64 gb] 59)) := (Below.refl _ _).alloc (Nat.le_refl _) _
          have hB4 := hb.trans (hA4.mono hb.size)
          have ht4 := ht.below hB4 (Nat.le_refl _)
          have hcw := (hw.below hB4 (Nat.le_refl _)).at_ kk hk3
          have hzA : wr.heap.size ≤ (wr.alloc (.cells #[.int .i64 (kk : Int), .int .i64 ga, .int .i64 gb] 59)).heap.size := hA4.size
          have hk' : ¬ (kk : Int) = 3 := hk
          have hk4 : (kk : Int) < 4 := by omega
          have hpr : prtA ⟨(kk : Int), ga, gb⟩ = [ga, gb] := if_neg hk'
          rw [hpr] at hps
          have hgT : agateT ⟨(kk : Int), ga, gb⟩ = lineL (awL kk) [ga, gb] := by unfold agateT; rw [hpr]; rfl
          rw [hgT] at hgl hsn
          obtain ⟨S, hS⟩ : ∃ S, Hid (bs (lineL (awL kk) [ga, gb]) = S) := ⟨_, Lib.hid rfl⟩
          have hSz : S.size ≤ 60 := by rw [← hS.out, bs_size]; exact hgl
          have hSd : Hid (bs (lineL (bs (awL kk)).data.toList [ga, gb]) = S) := hS
          have hnx : Hid (sb ++ S = bs (lineL [97, 114, 105, 116, 104] [p, x, y] ++ agatesT (gs.take (k + 1)))) := Lib.hid (by
            rw [hsb.out, hsn.out, ← hS.out, bs_append, List.append_assoc])
          clear hgl hgk hsn hS hpr hgT
          go_wp2_with fail
          refine wp_region_mem0 (11) [(⟨wr.heap.size, 0, none⟩, .int .i64 (kk : Int)), (⟨wr.heap.size, 1, none⟩, .int .i64 ga), (⟨wr.heap.size, 2, none⟩, .int .i64 gb), (⟨0, kk, none⟩, .string (bs (awL kk)))] [(9, [], []), (10, [9], [])] [] [(9, Res.row wr.heap.size 2 [ga, gb]), (10, Res.plain (.string S))] (by kernel_rfl) (by kernel_rfl) (by kernel_rfl) (by simp only [CellsL, List.mem_cons, forall_eq_or_imp, List.not_mem_nil, false_implies, implies_true, and_true]; repeat (any_goals (apply And.intro)); all_goals (first | assumption | go_simp)) ?_
          simp only [List.take_succ_cons, List.take_zero, List.drop_succ_cons, List.drop_zero, List.take_nil, List.drop_nil, List.take, List.drop]
          repeat (first
            | ((with_reducible refine mem_pure0 ?_ ?_ ?_)
               · exact rfl
               · exact rfl
               intro K hK
               apply Exists.intro
               refine ⟨fun w3 hw3 => ?_, ?_⟩
               · have hcs := hw3
                 simp only [CellsL, List.mem_cons, forall_eq_or_imp, List.not_mem_nil, false_implies, implies_true, and_true] at hcs
                 clear hw3
                 go_simp
                 first | done | exact ⟨rfl, rfl⟩ | rfl
               refine hK _ ?_
               clear hK K
               try simp only [Act.put, List.setIfInBounds_toArray, List.set_cons_zero, List.set_cons_succ])
            | ((with_reducible refine mem_skip ?_ ?_ ?_)
               · exact rfl
               · exact wanted_not rfl rfl rfl rfl
               simp only [Act.put, List.setIfInBounds_toArray, List.set_cons_zero, List.set_cons_succ])
            | ((with_reducible refine mem_pure ?_ ?_ ?_)
               · exact rfl
               · exact wanted_some rfl rfl rfl rfl
               intro K hK
               apply Exists.intro
               refine ⟨fun w3 hw3 => ?_, ?_⟩
               · have hcs := hw3
                 simp only [CellsL, List.mem_cons, forall_eq_or_imp, List.not_mem_nil, false_implies, implies_true, and_true] at hcs
                 clear hw3
                 go_simp
                 first | done | exact ⟨rfl, rfl⟩ | rfl
               refine hK _ ?_
               clear hK K
               try simp only [Act.put, List.setIfInBounds_toArray, List.set_cons_zero, List.set_cons_succ]))
          focus
            (with_reducible refine mem_row wr.heap.size 2 [ga, gb] ?_ ?_ ?_ ?_ ?_ (hw := ?_))
            · exact rfl
            · exact rfl
            · omega
            · intro w3 hw3 hc3 hp3
              have hcs := hc3
              simp only [CellsL, List.mem_cons, forall_eq_or_imp, List.not_mem_nil, false_implies, implies_true, and_true] at hcs
              (go_simp; exact postRow.new2 _ _ _)
            rotate_left
            · first | exact wanted_none rfl | exact wanted_some rfl rfl rfl rfl
            intro A6 c6
            try simp only [Act.put, List.setIfInBounds_toArray, List.set_cons_zero, List.set_cons_succ]
          repeat (first
            | ((with_reducible refine mem_pure0 ?_ ?_ ?_)
               · exact rfl
               · exact rfl
               intro K hK
               apply Exists.intro
               refine ⟨fun w3 hw3 => ?_, ?_⟩
               · have hcs := hw3
                 simp only [CellsL, List.mem_cons, forall_eq_or_imp, List.not_mem_nil, false_implies, implies_true, and_true] at hcs
                 clear hw3
                 go_simp
                 first | done | exact ⟨rfl, rfl⟩ | rfl
               refine hK _ ?_
               clear hK K
               try simp only [Act.put, List.setIfInBounds_toArray, List.set_cons_zero, List.set_cons_succ])
            | ((with_reducible refine mem_skip ?_ ?_ ?_)
               · exact rfl
               · exact wanted_not rfl rfl rfl rfl
               simp only [Act.put, List.setIfInBounds_toArray, List.set_cons_zero, List.set_cons_succ])
            | ((with_reducible refine mem_pure ?_ ?_ ?_)
               · exact rfl
               · exact wanted_some rfl rfl rfl rfl
               intro K hK
               apply Exists.intro
               refine ⟨fun w3 hw3 => ?_, ?_⟩
               · have hcs := hw3
                 simp only [CellsL, List.mem_cons, forall_eq_or_imp, List.not_mem_nil, false_implies, implies_true, and_true] at hcs
                 clear hw3
                 go_simp
                 first | done | exact ⟨rfl, rfl⟩ | rfl
               refine hK _ ?_
               clear hK K
               try simp only [Act.put, List.setIfInBounds_toArray, List.set_cons_zero, List.set_cons_succ]))
          focus
            (with_reducible refine mem_plain (.string S) ?_ ?_ ?_ ?_ (hw := ?_))
            · exact rfl
            · exact rfl
            · intro w3 hw3 hc3 hp3
              have hcs := hc3
              simp only [CellsL, List.mem_cons, forall_eq_or_imp, List.not_mem_nil, false_implies, implies_true, and_true] at hcs
              (have h6 : Own w3 wr.heap.size w3.heap.size (.slice A6 2 c6) 2 [ga, gb] := hp3.1.1.1; have ht3 := ht4.below (alt_below hw3) (Nat.le_refl _); go_simp; refine (line_any (bs (awL kk)) A6 2 c6 [ga, gb] _ h6.reads (by omega) hps hwz ht3).mono ?_; rintro e w4 ⟨rfl, hb4⟩; rw [hSd.out]; exact retPost.mk_ (postPlain.mk_ hb4))
            rotate_left
            · first | exact wanted_none rfl | exact wanted_some rfl rfl rfl rfl
            try simp only [Act.put, List.setIfInBounds_toArray, List.set_cons_zero, List.set_cons_succ]
          repeat (first
            | ((with_reducible refine mem_pure0 ?_ ?_ ?_)
               · exact rfl
               · exact rfl
               intro K hK
               apply Exists.intro
               refine ⟨fun w3 hw3 => ?_, ?_⟩
               · have hcs := hw3
                 simp only [CellsL, List.mem_cons, forall_eq_or_imp, List.not_mem_nil, false_implies, implies_true, and_true] at hcs
                 clear hw3
                 go_simp
                 first | done | exact ⟨rfl, rfl⟩ | rfl
               refine hK _ ?_
               clear hK K
               try simp only [Act.put, List.setIfInBounds_toArray, List.set_cons_zero, List.set_cons_succ])
            | ((with_reducible refine mem_skip ?_ ?_ ?_)
               · exact rfl
               · exact wanted_not rfl rfl rfl rfl
               simp only [Act.put, List.setIfInBounds_toArray, List.set_cons_zero, List.set_cons_succ])
            | ((with_reducible refine mem_pure ?_ ?_ ?_)
               · exact rfl
               · exact wanted_some rfl rfl rfl rfl
               intro K hK
               apply Exists.intro
               refine ⟨fun w3 hw3 => ?_, ?_⟩
               · have hcs := hw3
                 simp only [CellsL, List.mem_cons, forall_eq_or_imp, List.not_mem_nil, false_implies, implies_true, and_true] at hcs
                 clear hw3
                 go_simp
                 first | done | exact ⟨rfl, rfl⟩ | rfl
               refine hK _ ?_
               clear hK K
               try simp only [Act.put, List.setIfInBounds_toArray, List.set_cons_zero, List.set_cons_succ]))
          refine wpSep_end ?_
          intro wt hwt hct hfin hap
          have hbl := alt_below hwt
          have hx5 := (hxr.below hA4).below hbl
          have hB5 := hB4.trans (hbl.mono hB4.size)
          clear hwt hct hfin hap
          go_wp2
          go_roundw
          case rel => exact ⟨k + 1, _, by omega, by go_num, rfl, hnx, hx5, hB5⟩
          case measure => simp [intOf]; omega
      · obtain rfl : ng = k := by omega
        have hq := hxr; obtain ⟨q0, q1, q2, q3, q4⟩ := hq
        have hol := lineL_len (wd := [111, 117, 116, 115]) hosm
        rw [← bs_size] at hol
        simp only [List.length_cons, List.length_nil] at hol
        go_wp2_with fail
        refine (line_any ⟨#[111, 117, 116, 115]⟩ Ao no co os _ (hr.2.below hb (Nat.le_refl _)) (by omega) hosm (by decide) (ht.below hb (Nat.le_refl _))).mono ?_
        rintro e w5 ⟨rfl, hb5⟩
        have hfin : sb ++ bs (lineL [111, 117, 116, 115] os) = bs (arithT p x y gs os) := by
          rw [hsb.out, bs_append, List.take_of_length_le (by omega)]; rfl
        have HF := Lib.hid hfin; clear hfin
        go_wp2
        go_ret2
        exact ⟨by rw [HR.out, ← HF.out]; rfl, hb.trans (hb5.mono hb.size)⟩

end Go.Proofs.YtgpfiefhhlejfaaDoor
