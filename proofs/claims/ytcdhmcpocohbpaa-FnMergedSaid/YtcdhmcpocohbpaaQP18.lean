/- Contracts of the tables of a circuit's outs: all inputs in turn. Contracts of truth tables, columns, sums, comparisons of two circuits. Contracts of OnesOf, TruthTable, AreEqual, FirstUnequal. A slice of lists that grows while a list of numbers grows beside it: the outer row is the call's own, its lists are read and lie in other blocks than that list. -/
import Derived.Deep.RegionLaw
import Derived.Test.YtcdhmcpocohbpaaQP15
import Derived.Test.YtcdhmcpocohbpaaQP04
import Derived.Test.YtcdhmcpocohbpaaQP14
namespace Go.Proofs.Ytcdhmcpocohbpaa
open Go.RowKit
set_option linter.unusedVariables false
set_option linter.unusedSimpArgs false
def colN (gs : List G3) (os : List Int) (X k : Nat) : List Int := tab (2 ^ X) fun n => gi (outsN gs os X n) k
theorem colN_len (gs : List G3) (os : List Int) (X k : Nat) : (colN gs os X k).length = 2 ^ X := tab_len _ _
def tabL (N : Nat) (f : Nat → List Int) : List (List Int) := (List.range N).map f
theorem tabL_len (N : Nat) (f : Nat → List Int) : (tabL N f).length = N := by simp [tabL]
theorem tabL_snoc (N : Nat) (f : Nat → List Int) : tabL (N + 1) f = tabL N f ++ [f N] := by simp [tabL, List.range_succ]
theorem gl_tabL {N k : Nat} {f : Nat → List Int} (h : k < N) : gl (tabL N f) k = f k := by simp [gl, tabL, h]
set_option maxRecDepth 100000 in
set_option maxHeartbeats 1600000 in
theorem siOut_any (x y : Int) (Ag : Option Addr) (ng cg : Nat) (Ao : Option Addr) (no co : Nat) (gs : List G3) (os : List Int) (X N q : Nat) (w : World) (hr : RG w Ag ng gs ∧ RI w Ao no os) (hx : 0 ≤ x ∧ x ≤ 20) (hy : 0 ≤ y ∧ y ≤ 20) (hX : x + y = X) (hX10 : X ≤ 10) (hN : N = 2 ^ X) (hgat : gatesB X gs gs.length = true) (hos : allB 0 ((X : Int) + gs.length - 1) os = true) (hng : ng ≤ 300) (hno : no ≤ 40) (hq : q < no) :
    Calls Try.prog 48 #[.agg #[.int .i64 x, .int .i64 y, .slice Ag ng cg, .slice Ao no co], .int .i64 q] w (RetI w (tab N fun n => gi (outsN gs os X n) q)) := by
  have hB : Below w.heap.size w (w.alloc (.cells #[.int .i64 x, .int .i64 y, .slice Ag ng cg, .slice Ao no co] 26)) := (Below.refl _ _).alloc (Nat.le_refl _) _
  have hlg := hr.1.len
  have hlo := hr.2.len
  have hos' : allB 0 (((X + ng : Nat) : Int) - 1) os = true := by rw [show (((X + ng : Nat) : Int) - 1) = (X : Int) + gs.length - 1 from by omega]; exact hos
  have hob := Lib.hid fun n => outsN_bd hgat hos n
  have hvl := Lib.hid fun n => show (vals gs (bitsN n X) ng).length = X + ng from by rw [vals_len, bitsN_len]
  have hon := Lib.hid fun n => show outsN gs os X n = pick (vals gs (bitsN n X) ng) os from by rw [outsN, hlg]
  rw [hlg] at hgat
  obtain ⟨hP, hsh⟩ := pow_wrap hN hX10
  clear hN hos
  have hb1' := Below.refl (w.heap.size + 1) (w.alloc (.cells #[.int .i64 x, .int .i64 y, .slice Ag ng cg, .slice Ao no co] 26))
  have hz1 := trivial
  have hb1 := trivial
  go_enter Try.func48, Try.ntmps48
  go_wp2_with fail
  go_loopw [5, 6] (fun v i wr => ∃ (k : Nat) (A' : Option Addr) (c' : Nat), k ≤ N ∧ i = .int .i64 k ∧ v = .slice A' k c' ∧ Own wr (w.heap.size + 1) wr.heap.size (.slice A' k c') k (tab k fun n => gi (outsN gs os X n) q) ∧ Below (w.heap.size + 1) (w.alloc (.cells #[.int .i64 x, .int .i64 y, .slice Ag ng cg, .slice Ao no co] 26)) wr) (fun _ i _ => N - (intOf i).toNat)
  case atStart => exact ⟨0, _, _, Nat.zero_le _, rfl, rfl, Own.none_ _ _ _, hb1'⟩
  case round =>
    clear hb1 hb1' hz1
    obtain ⟨k, A', c', hk, rfl, rfl, hown, hb⟩ := hrel
    have hbw : Below w.heap.size w wr := hB.trans (hb.mono (by omega))
    obtain ⟨k0, k1, k2, k3⟩ := box_at hb
    go_wp2_with fail
    refine (ciInputs_any x y Ag ng cg Ao no co _ hx hy).mono ?_
    rintro e w0 ⟨rfl, hb0⟩
    rw [hX]
    have hown0 := hown.below hb0 (.inl (Nat.le_refl _))
    have hB0 := hb.trans (hb0.mono (by have := hb.size; simpa using this))
    have hbw0 := hbw.trans (hb0.mono hbw.size)
    clear k0 k1 k2 k3 hown hb hbw hb0
    have hown := hown0.now; have hb := hB0; have hbw := hbw0; clear hown0 hB0 hbw0
    obtain ⟨k0, k1, k2, k3⟩ := box_at hb
    by_cases hlt : k < N
    · have hlt' : (k : Int) < wrap64 (2 ^ X) := by rw [hsh]; omega
      have hsn : Hid (tab (k + 1) (fun n => gi (outsN gs os X n) q) = tab k (fun n => gi (outsN gs os X n) q) ++ [gi (outsN gs os X k) q]) := Lib.hid (tab_snoc k _)
      have hbk := hob.out k
      have hOl := hlo ▸ outsN_len gs os X k
      obtain ⟨O, hO⟩ : ∃ O, Hid (outsN gs os X k = O) := ⟨_, rfl⟩
      have hPk : Hid (pick (vals gs (bitsN k X) ng) os = O) := Lib.hid ((hon.out k).symm.trans hO.out)
      have hvk := hvl.out k
      obtain ⟨Z, hZ⟩ : ∃ Z, Hid (gi O q = Z) := ⟨_, rfl⟩
      rw [hO.out] at hbk hOl hsn
      rw [hZ.out] at hsn
      have hz := hb.size
      simp only [World.size_alloc] at hz
      have hbd := below_drewN hbw 1
      have hfar := hown.from_
      go_wp2_with fail
      go_region_law (first | (go_simp; go_at_call 35; refine (ciInputs_any x y Ag ng cg Ao no co _ hx hy).mono ?_; rintro e W0 ⟨rfl, hb0⟩; rw [hX]; have hs0 : w0.heap.size ≤ W0.heap.size := hb0.size; have k0 := cell_below (w := World.drew w0) k0 hb0; have k1 := cell_below (w := World.drew w0) k1 hb0; have k2 := cell_below (w := World.drew w0) k2 hb0; have k3 := cell_below (w := World.drew w0) k3 hb0) | (go_simp; go_at_call 71; refine (btOf_any k X _ (by omega) (by omega)).mono ?_; rintro e W1 hT; obtain ⟨A1, c1, rfl, ho1, hb1⟩ := hT.open_ (bitsN_len _ _); have hs1 : W0.heap.size ≤ W1.heap.size := hb1.size; have k0 := cell_below k0 hb1; have k1 := cell_below k1 hb1; have k2 := cell_below k2 hb1; have k3 := cell_below k3 hb1) | (go_simp; go_at_call 70; refine (ciOuts_any x y Ag ng cg Ao no co A1 X c1 gs os (bitsN k X) _ ⟨hr.1.below (hbd.trans ((bnext hb0 hb1).mono hbd.size)) (Nat.le_refl _), hr.2.below (hbd.trans ((bnext hb0 hb1).mono hbd.size)) (Nat.le_refl _)⟩ ho1.reads (bitsN_bd _ _) hgat hos' hng hno (by omega)).mono ?_; rintro e W2 hT; rw [hPk.out] at hT; obtain ⟨A2, c2, rfl, ho2, hb2⟩ := hT.open_ hOl; have hs2 := hb2.size; obtain ⟨g2, rfl, hg21, hg22, hg23⟩ := ho2.some_ (by omega); obtain ⟨e2, _⟩ := ho2.cellAt (k := q) (by omega); rw [hZ.out] at e2; have k0 := cell_below k0 hb2; have k1 := cell_below k1 hb2; have k2 := cell_below k2 hb2; have k3 := cell_below k3 hb2) | (refine step_appI _ (by rfl) _ _ (by rfl) (by rfl) ((hown.below (bnext (bnext (bnext (below_of_drewN 1) hb0) hb1) hb2) (.inl (Nat.le_refl _))).alloc _) (by rfl) (RI_one _ _ _ _ (by simp)) (by omega) (by first | omega | (simp; done) | (simp; omega)) ?_; intro A5 c5 w5 hown5 hg5 hat5 hk5))
      all_goals
        have hb5 := below_chain_app hb hz (bnext (bnext (bnext (below_of_drewN 1) hb0) hb1) hb2) ((hown.below (bnext (bnext (bnext (below_of_drewN 1) hb0) hb1) hb2) (.inl (Nat.le_refl _))).alloc _) hg5 (Nat.le_refl _)
        rw [← hsn.out] at hown5
        clear hown hb hb0 hb1 hb2 hg5 hk5 hat5 hbk hPk
        go_wp2
        go_roundw
        case rel => exact ⟨k + 1, _, _, by omega, by go_num, rfl, hown5, hb5⟩
        case measure => simp [intOf]; omega
    · obtain rfl : N = k := by omega
      go_wp2
      go_ret
      exact RetI.mk_ (tab_len _ _) rfl (hown.lo_ (by omega)) hbw
set_option maxRecDepth 100000 in
set_option maxHeartbeats 1600000 in
theorem Circuit_table_any (x y : Int) (Ag : Option Addr) (ng cg : Nat) (Ao : Option Addr) (no co : Nat) (gs : List G3) (os : List Int) (X N : Nat) (w : World) (hr : RG w Ag ng gs ∧ RI w Ao no os) (hx : 0 ≤ x ∧ x ≤ 20) (hy : 0 ≤ y ∧ y ≤ 20) (hX : x + y = X) (hX10 : X ≤ 10) (hN : N = 2 ^ X) (hgat : gatesB X gs gs.length = true) (hos : allB 0 ((X : Int) + gs.length - 1) os = true) (hng : ng ≤ 300) (hno : no ≤ 40) :
    Calls Try.prog 69 #[.agg #[.int .i64 x, .int .i64 y, .slice Ag ng cg, .slice Ao no co]] w (RetII w (tabL N (outsN gs os X))) := by
  have hB : Below w.heap.size w (w.alloc (.cells #[.int .i64 x, .int .i64 y, .slice Ag ng cg, .slice Ao no co] 26)) := (Below.refl _ _).alloc (Nat.le_refl _) _
  have hlg := hr.1.len
  have hlo := hr.2.len
  have hos' : allB 0 (((X + ng : Nat) : Int) - 1) os = true := by rw [show (((X + ng : Nat) : Int) - 1) = (X : Int) + gs.length - 1 from by omega]; exact hos
  have hob := Lib.hid fun n => outsN_bd hgat hos n
  have hvl := Lib.hid fun n => show (vals gs (bitsN n X) ng).length = X + ng from by rw [vals_len, bitsN_len]
  have hon := Lib.hid fun n => show outsN gs os X n = pick (vals gs (bitsN n X) ng) os from by rw [outsN, hlg]
  rw [hlg] at hgat
  obtain ⟨hP, hsh⟩ := pow_wrap hN hX10
  clear hN hos
  have hown1 := OwnII.new0 (w.alloc (.cells #[.int .i64 x, .int .i64 y, .slice Ag ng cg, .slice Ao no co] 26)) (w.heap.size + 1) (by simp)
  have hbA := (Below.refl (w.heap.size + 1) (w.alloc (.cells #[.int .i64 x, .int .i64 y, .slice Ag ng cg, .slice Ao no co] 26))).alloc (by simp) (.cells #[] 24)
  have hBA : Below w.heap.size w ((w.alloc (.cells #[.int .i64 x, .int .i64 y, .slice Ag ng cg, .slice Ao no co] 26)).alloc (.cells #[] 24)) := hB.alloc (by simp) _
  have q0 := box_at hbA
  obtain ⟨k0, k1, k2, k3⟩ := q0
  go_enter Try.func69, Try.ntmps69
  go_wp2_with fail
  refine (Circuit_inputs_any x y Ag ng cg Ao no co _ hx hy).mono ?_
  rintro e v1 ⟨rfl, hb1⟩
  rw [hX]
  have hz1 := hb1.size
  simp only [World.size_alloc] at hz1
  have hb1' := hbA.trans (hb1.mono (by simp))
  have hown2 := (hown1.hi_ (hi' := v1.heap.size) (by simp; omega)).below hb1 (Nat.le_refl _)
  clear hown1 hbA k0 k1 k2 k3
  go_wp2_with fail
  rw [hsh]
  go_loopw [3, 10] (fun v i wr => ∃ (k : Nat) (A' : Option Addr) (c' : Nat), k ≤ N ∧ i = .int .i64 k ∧ v = .slice A' k c' ∧ OwnII wr (w.heap.size + 1) wr.heap.size (.slice A' k c') k (tabL k (outsN gs os X)) ∧ Below (w.heap.size + 1) (w.alloc (.cells #[.int .i64 x, .int .i64 y, .slice Ag ng cg, .slice Ao no co] 26)) wr) (fun _ i _ => N - (intOf i).toNat)
  case atStart => exact ⟨0, _, _, Nat.zero_le _, rfl, rfl, by simpa [tabL] using hown2, hb1'⟩
  case round =>
    clear hb1 hb1' hz1 hown2 hBA
    obtain ⟨k, A', c', hk, rfl, rfl, hown, hb⟩ := hrel
    have hbw : Below w.heap.size w wr := hB.trans (hb.mono (by omega))
    obtain ⟨k0, k1, k2, k3⟩ := box_at hb
    by_cases hlt : k < N
    · have hsn : Hid (tabL (k + 1) (outsN gs os X) = tabL k (outsN gs os X) ++ [outsN gs os X k]) := Lib.hid (tabL_snoc k _)
      have hbk := hob.out k
      have hOl := hlo ▸ outsN_len gs os X k
      obtain ⟨O, hO⟩ : ∃ O, Hid (outsN gs os X k = O) := ⟨_, rfl⟩
      have hPk : Hid (pick (vals gs (bitsN k X) ng) os = O) := Lib.hid ((hon.out k).symm.trans hO.out)
      have hvk := hvl.out k
      rw [hO.out] at hbk hOl hsn
      have hz := hb.size
      simp only [World.size_alloc] at hz
      have hbd := below_drewN hbw 1
      have hfar := hown.from_
      go_wp2_with fail
      go_region_held3 (fun w' => w'.cell? ⟨w.heap.size, 0, none⟩ = some (.int .i64 x) ∧ w'.cell? ⟨w.heap.size, 1, none⟩ = some (.int .i64 y) ∧ w'.cell? ⟨w.heap.size, 2, none⟩ = some (.slice Ag ng cg) ∧ w'.cell? ⟨w.heap.size, 3, none⟩ = some (.slice Ao no co))
        (first | go_keep | (go_split_ands; exact ⟨hk5 _ _ _ (by assumption) (fun g9 hg9 he9 => by first | omega | (have := hfar _ hg9; omega) | (simp only [Option.some.injEq, Addr.mk.injEq, and_true] at hg9; omega)), hk5 _ _ _ (by assumption) (fun g9 hg9 he9 => by first | omega | (have := hfar _ hg9; omega) | (simp only [Option.some.injEq, Addr.mk.injEq, and_true] at hg9; omega)), hk5 _ _ _ (by assumption) (fun g9 hg9 he9 => by first | omega | (have := hfar _ hg9; omega) | (simp only [Option.some.injEq, Addr.mk.injEq, and_true] at hg9; omega)), hk5 _ _ _ (by assumption) (fun g9 hg9 he9 => by first | omega | (have := hfar _ hg9; omega) | (simp only [Option.some.injEq, Addr.mk.injEq, and_true] at hg9; omega))⟩) | (go_split_ands; exact ⟨cell_below (by assumption) hb3, cell_below (by assumption) hb3, cell_below (by assumption) hb3, cell_below (by assumption) hb3⟩) | (go_split_ands; exact ⟨cell_below (by assumption) hb2, cell_below (by assumption) hb2, cell_below (by assumption) hb2, cell_below (by assumption) hb2⟩) | (go_split_ands; exact ⟨cell_below (by assumption) hb1, cell_below (by assumption) hb1, cell_below (by assumption) hb1, cell_below (by assumption) hb1⟩) | (go_split_ands; exact ⟨cell_below (by assumption) hb0, cell_below (by assumption) hb0, cell_below (by assumption) hb0, cell_below (by assumption) hb0⟩))
        (first | (go_at_call 23; refine (Circuit_inputs_any x y Ag ng cg Ao no co _ hx hy).mono ?_; rintro e W0 ⟨rfl, hb0⟩; rw [hX]; have hs0 : wr.heap.size ≤ W0.heap.size := hb0.size) | (go_at_call 87; refine (bitsOf_any k X _ (by omega) (by omega)).mono ?_; rintro e W1 hT; obtain ⟨A1, c1, rfl, ho1, hb1⟩ := hT.open_ (bitsN_len _ _); have hs1 : W0.heap.size ≤ W1.heap.size := hb1.size) | (go_at_call 52; refine (Circuit_values_any x y Ag ng cg Ao no co A1 X c1 gs (bitsN k X) _ (hr.1.below (hbd.trans ((bnext hb0 hb1).mono hbd.size)) (Nat.le_refl _)) ho1.reads (bitsN_bd _ _) hgat (by omega) (by omega)).mono ?_; rintro e W2 hT; obtain ⟨A2, c2, rfl, ho2, hb2⟩ := hT.open_ hvk; have hs2 := hb2.size) | (go_at_call 30; refine (at_any A2 Ao (X + ng) c2 no co (vals gs (bitsN k X) ng) os _ ho2.reads (hr.2.below (hbd.trans ((bnext (bnext hb0 hb1) hb2).mono hbd.size)) (Nat.le_refl _)) (by omega) (by omega) hos').mono ?_; rintro e W3 hT; rw [hPk.out] at hT; obtain ⟨A3, c3, rfl, ho3, hb3⟩ := hT.open_ hOl; have hs3 := hb3.size) | (refine step_appL _ (by rfl) _ _ (by rfl) (by rfl) ((hown.below (bnext (bnext (bnext (bnext (below_of_drewN 1) hb0) hb1) hb2) hb3) (Nat.le_refl _)).alloc _) (by rfl) (ho3.alloc _) (box_cell _ _ 0 _ rfl) (by omega) (by omega) (by omega) (by first | omega | (simp; done) | (simp; omega)) ?_; intro A5 c5 w5 hown5 hg5 hk5))
      have hb5 := below_chain_appL hb hz (bnext (bnext (bnext (bnext (below_of_drewN 1) hb0) hb1) hb2) hb3) ((hown.below (bnext (bnext (bnext (bnext (below_of_drewN 1) hb0) hb1) hb2) hb3) (Nat.le_refl _)).alloc _) hg5 (Nat.le_refl _)
      rw [← hsn.out] at hown5
      clear hown hb hb0 hb1 hb2 hb3 hg5 hk5 hbk hPk
      go_wp2
      go_roundw
      case rel => exact ⟨k + 1, _, _, by omega, by go_num, rfl, hown5, hb5⟩
      case measure => simp [intOf]; omega
    · obtain rfl : N = k := by omega
      go_wp2
      go_ret
      exact RetII.mk_ (tabL_len _ _) rfl (hown.lo_ (by omega)) hbw
theorem grown_row {v wr w5 : World} {g0 : Nat} {row : Option Nat} (h : v.grownBy wr (some g0)) (hr : ∀ g, row = some g → g = g0 ∨ v.heap.size ≤ g) (hg : wr.grownBy w5 row) : v.grownBy w5 (some g0) :=
  ⟨hg.os.trans h.os, hg.tape.trans h.tape, hg.output.trans h.output, Nat.le_trans h.size hg.size, fun i hi hne => (hg.block i (Nat.lt_of_lt_of_le hi h.size) (fun he => by
    rcases hr i he.symm with h1 | h1
    · exact hne (by rw [h1])
    · omega)).trans (h.block i hi hne)⟩
theorem OwnII.grownAt {v wr : World} {lo hi n g0 : Nat} {val : Value} {xss : List (List Int)} (h : OwnII v lo hi val n xss) (hg : v.grownBy wr (some g0)) (hl : g0 < lo ∨ hi ≤ g0) : OwnII wr lo hi val n xss :=
  h.chg (lo' := g0) (hi' := g0 + 1) ⟨hg.os, hg.tape, hg.output, hg.size, fun i hi ho => hg.block i hi (fun he => by simp only [Option.some.injEq] at he; omega)⟩ (by omega)
theorem row_next {v v5 : Value} {g0 V H : Nat} (h : ∀ g, v.ownBlock = some g → g = g0 ∨ V ≤ g) (hat : v5.ownBlock = v.ownBlock ∨ v5.ownBlock = some H) (hH : V ≤ H) : ∀ g, v5.ownBlock = some g → g = g0 ∨ V ≤ g := by
  intro g hg
  rcases hat with h1 | h1
  · exact h g (h1.symm.trans hg)
  · rw [h1] at hg; simp only [Option.some.injEq] at hg; omega
def columnF (x y : Int) (gs : List G3) (os : List Int) (k : Int) : Option (List Int) :=
  if smallB x y gs os 40 && inB 0 ((os.length : Int) - 1) k then some (colN gs os (x + y).toNat k.toNat) else none
theorem smallB_bd {x y : Int} {gs : List G3} {os : List Int} {lim : Nat} (h : smallB x y gs os lim = true) : circB x y gs os = true ∧ x + y ≤ 10 ∧ os.length ≤ lim := by
  simp only [smallB, Bool.and_eq_true, decide_eq_true_eq] at h; exact h
set_option maxRecDepth 100000 in
set_option maxHeartbeats 1600000 in
theorem column_any (x y : Int) (Ag : Option Addr) (ng cg : Nat) (Ao : Option Addr) (no co : Nat) (k : Int) (gs : List G3) (os : List Int) (w : World) (hr : RG w Ag ng gs ∧ RI w Ao no os) (hng : ng ≤ 2097152) (hno : no ≤ 2097152) :
    Calls Try.prog 42 #[.agg #[.int .i64 x, .int .i64 y, .slice Ag ng cg, .slice Ao no co], .int .i64 k] w (RetO w (columnF x y gs os k)) := by
  have hB : Below w.heap.size w (w.alloc (.cells #[.int .i64 x, .int .i64 y, .slice Ag ng cg, .slice Ao no co] 26)) := (Below.refl _ _).alloc (Nat.le_refl _) _
  have hlg := hr.1.len
  have hlo := hr.2.len
  cases h0 : smallB x y gs os 40 with
  | false =>
    have HR : Hid (columnF x y gs os k = none) := Lib.hid (by simp [columnF, h0])
    have H0 := Lib.hid h0; clear h0
    go_enter Try.func42, Try.ntmps42
    go_wp2_with fail
    refine (isSmall_any x y Ag ng cg Ao no co gs os _ ⟨hr.1.below hB (Nat.le_refl _), hr.2.below hB (Nat.le_refl _)⟩ hng hno).mono ?_
    rintro e v1 ⟨rfl, hb1⟩
    rw [H0.out]
    go_wp2
    go_ret2
    exact RetO.none_ (hB.trans (hb1.mono hB.size)) HR.out rfl
  | true =>
    obtain ⟨h1, h2, h3⟩ := smallB_bd h0
    obtain ⟨⟨b1, b2⟩, ⟨b3, b4⟩, b5, b6, b7, b8⟩ := circB_bd h1
    cases h4 : inB 0 ((no : Int) - 1) k with
    | false =>
      have HR : Hid (columnF x y gs os k = none) := Lib.hid (by simp [columnF, h4, hlo])
      have H0 := Lib.hid h0; have H4 := Lib.hid h4; clear h0 h4 h1 b7 b8
      go_enter Try.func42, Try.ntmps42
      go_wp2_with fail
      refine (isSmall_any x y Ag ng cg Ao no co gs os _ ⟨hr.1.below hB (Nat.le_refl _), hr.2.below hB (Nat.le_refl _)⟩ hng hno).mono ?_
      rintro e v1 ⟨rfl, hb1⟩
      rw [H0.out]
      obtain ⟨hc1, hf1⟩ := bcell hb1
      have hz1 := hb1.size
      simp only [World.size_alloc] at hz1
      have hz1' : w.heap.size < v1.heap.size := by omega
      go_wp2_with fail
      refine (within_any k 0 ((no : Int) - 1) false H4.out _).mono ?_
      rintro e v2 ⟨rfl, rfl⟩
      go_wp2
      go_ret2
      exact RetO.none_ (hB.trans (hb1.mono hB.size)) HR.out rfl
    | true =>
      obtain ⟨c1, c2⟩ := inB_iff.1 h4
      obtain ⟨q, rfl⟩ := Int.eq_ofNat_of_zero_le c1
      obtain ⟨X, hX⟩ : ∃ X : Nat, x + y = X := ⟨(x + y).toNat, by omega⟩
      have hXt : (x + y).toNat = X := by omega
      rw [hX] at b7 b8
      obtain ⟨N, hN⟩ : ∃ N, N = 2 ^ X := ⟨_, rfl⟩
      have HR : Hid (columnF x y gs os q = some (tab N fun n => gi (outsN gs os X n) q)) := Lib.hid (by simp [columnF, h4, h0, hlo, hXt, colN, hN])
      have hP := (pow_wrap hN (by omega)).1
      have HN := Lib.hid hN; clear hN
      have H0 := Lib.hid h0; have H4 := Lib.hid h4; have H7 := Lib.hid b7; have H8 := Lib.hid b8; clear h0 h4 h1 b7 b8
      have hql : Hid (∀ n, (outsN gs os X n).length = no) := Lib.hid (fun n => by rw [outsN_len, hlo])
      go_enter Try.func42, Try.ntmps42
      go_wp2_with fail
      refine (isSmall_any x y Ag ng cg Ao no co gs os _ ⟨hr.1.below hB (Nat.le_refl _), hr.2.below hB (Nat.le_refl _)⟩ hng hno).mono ?_
      rintro e v1 ⟨rfl, hb1⟩
      rw [H0.out]
      obtain ⟨hc1, hf1⟩ := bcell hb1
      have hz1 := hb1.size
      simp only [World.size_alloc] at hz1
      have hz1' : w.heap.size < v1.heap.size := by omega
      have hB1 := hB.trans (hb1.mono hB.size)
      go_wp2_with fail
      refine (within_any q 0 ((no : Int) - 1) true H4.out _).mono ?_
      rintro e v2 ⟨rfl, rfl⟩
      have hB1A := hB1.alloc (Nat.le_of_lt hz1') (.cells #[] 3)
      go_wp2_with fail
      refine (Circuit_table_any x y Ag ng cg Ao no co gs os X N _ ⟨hr.1.below hB1A (Nat.le_refl _), hr.2.below hB1A (Nat.le_refl _)⟩ (by omega) (by omega) hX (by omega) HN.out H7.out H8.out (by omega) (by omega)).mono ?_
      rintro e v3 hT
      obtain ⟨At, ct, rfl, hownT, hb3⟩ := hT.open_ (tabL_len _ _)
      have hz3 := hb3.size
      simp only [World.size_alloc] at hz3 hownT
      have hB3 := hB1A.trans (hb3.mono hB1A.size)
      have hown0 := ((Own_new0 v1 (w.heap.size + 1) (by omega)).hi_ (hi' := (v1.alloc (.cells #[] 3)).heap.size) (by simp)).below hb3 (.inl (Nat.le_refl _))
      have hst := And.intro hown0.now (World.grownBy.refl v3 (some v1.heap.size))
      clear hown0
      go_wp2_with fail
      go_loopw [6, 25] (fun v i wr => ∃ (j : Nat) (A' : Option Addr) (c' : Nat), j ≤ N ∧ i = .int .i64 j ∧ v = .slice A' j c' ∧ Own wr (w.heap.size + 1) wr.heap.size (.slice A' j c') j (tab j fun n => gi (outsN gs os X n) q) ∧ v3.grownBy wr (some v1.heap.size) ∧ (∀ g, (Value.slice A' j c').ownBlock = some g → g = v1.heap.size ∨ v3.heap.size ≤ g)) (fun _ i _ => N - (intOf i).toNat)
      case atStart => exact ⟨0, _, _, Nat.zero_le _, rfl, rfl, hst.1, hst.2, fun g hg => by simp only [Value.ownBlock, Option.some.injEq] at hg; exact .inl hg.symm⟩
      case round =>
        clear hst
        obtain ⟨j, A', c', hj, rfl, rfl, hown, hgr, hrow⟩ := hrel
        have hzr := hgr.size
        by_cases hlt : j < N
        · have hsn : Hid (tab (j + 1) (fun n => gi (outsN gs os X n) q) = tab j (fun n => gi (outsN gs os X n) q) ++ [gi (outsN gs os X j) q]) := Lib.hid (tab_snoc j _)
          obtain ⟨b, o', A2, m, c2', rfl, hbB, e1, hr1⟩ := (hownT.grownAt hgr (by omega)).reads.at_ hlt
          rw [gl_tabL hlt] at hr1
          obtain rfl : m = no := by rw [← hr1.len, hql.out]
          obtain ⟨b2', o2, rfl, hbB2, e2⟩ := hr1.at_ (k := q) (by omega)
          generalize gi (outsN gs os X j) q = Z at *
          have hownA := hown.alloc (.cells #[.int .i64 Z] 3)
          clear hownT hr1
          go_wp2_with (at_builtin; refine wpList_app _ rfl _ _ rfl rfl hownA rfl (RI_one _ _ _ _ (by simp)) (by omega) (by first | omega | (simp; done) | (simp; omega)) ?_; intro A5 c5 w5 hown5 hg5 hat5)
          rw [← hsn.out] at hown5
          have hg6 : v3.grownBy w5 (some v1.heap.size) := grown_row (grown_row hgr (row := none) (fun g h => by cases h) (grownBy_of_below ((Below.refl _ _).alloc (Nat.le_refl _) (.cells #[.int .i64 Z] 3)) none)) hrow hg5
          have hrow6 := row_next hrow hat5 (V := v3.heap.size) (g0 := v1.heap.size) (by simp; omega)
          clear hownA hg5 hown hgr e1 e2
          go_wp2
          go_roundw
          case rel => exact ⟨j + 1, _, _, by omega, by go_num, rfl, hown5, hg6, hrow6⟩
          case measure => simp [intOf]; omega
        · obtain rfl : N = j := Nat.le_antisymm (Nat.le_of_not_lt hlt) hj
          go_wp2
          go_ret2
          exact RetO.some_ (below_grown hB3 hgr hB3.size (fun k hk => by simp only [Option.some.injEq] at hk; omega)) HR.out (tab_len _ _) rfl (hown.lo_ (by omega))
def RetZO (w : World) (o : Option Int) (e : Ending) (w' : World) : Prop := e = .returned (.tuple #[.int .i64 (o.getD 0), .bool o.isSome]) ∧ Below w.heap.size w w'
theorem RetZO.none_ {w : World} {o : Option Int} {e : Ending} {w' : World} (hb : Below w.heap.size w w') (ho : o = none) (he : e = .returned (.tuple #[.int .i64 0, .bool false])) : RetZO w o e w' := by subst ho; exact ⟨he, hb⟩
theorem RetZO.some_ {w : World} {o : Option Int} {z : Int} {e : Ending} {w' : World} (hb : Below w.heap.size w w') (ho : o = some z) (he : e = .returned (.tuple #[.int .i64 z, .bool true])) : RetZO w o e w' := by subst ho; exact ⟨he, hb⟩
theorem RI.grown_ {w w' : World} {A : Option Addr} {n : Nat} {xs : List Int} {row : Option Nat} (h : RI w A n xs) (hg : w.grownBy w' row) (hl : ∀ b o, A = some ⟨b, o, none⟩ → row ≠ some b) : RI w' A n xs :=
  ⟨h.1, fun hn => by
    obtain ⟨b, o, hA, hlt, hc⟩ := h.2 hn
    refine ⟨b, o, hA, Nat.lt_of_lt_of_le hlt hg.size, fun j hj => ?_⟩
    rw [← hc j hj]
    exact World.cell?_of_block (w := w) (a := ⟨b, o + j, none⟩) (hg.block b hlt (fun he => hl b o hA he.symm))⟩
def LII (w : World) (lo hi : Nat) (v : Value) (n : Nat) (xss : List (List Int)) (bad : Option Nat) : Prop :=
  ∃ vals : List Value, w.ownsRow lo 24 1 v n vals ∧ (∀ g, v.ownBlock = some g → g < hi) ∧ xss.length = n ∧
    ∀ j : Nat, j < n → ∃ A' m c', vals[j]? = some (.slice A' m c') ∧ RI w A' m (gl xss j) ∧ ∀ b o, A' = some ⟨b, o, none⟩ → bad ≠ some b ∧ b < w.heap.size ∧ v.ownBlock ≠ some b
theorem LII.len {w : World} {lo hi n : Nat} {v : Value} {xss : List (List Int)} {bad : Option Nat} (h : LII w lo hi v n xss bad) : xss.length = n := by obtain ⟨_, _, _, h3, _⟩ := h; exact h3
theorem LII.new0 (w : World) (lo : Nat) (hl : lo ≤ w.heap.size) (bad : Option Nat) : LII (w.alloc (.cells #[] 24)) lo (w.heap.size + 1) (.slice (some ⟨w.heap.size, 0, none⟩) 0 0) 0 [] bad := by
  have h := World.ownsRow_lit (base := lo) (e := 24) (size := 1) w #[] 0 hl (by unfold maxLen; omega) (by simp)
  exact ⟨[], by simpa using h, fun g hg => by simp [Value.ownBlock] at hg; omega, rfl, fun j hj => absurd hj (by omega)⟩
theorem LII.below {w w' : World} {lo hi n B : Nat} {v : Value} {xss : List (List Int)} {bad : Option Nat} (h : LII w lo hi v n xss bad) (hb : Below B w w') (hB : w.heap.size ≤ B) : LII w' lo hi v n xss bad := by
  obtain ⟨vals, h1, h2, h3, h4⟩ := h
  refine ⟨vals, h1.kept (grownBy_of_below (hb.mono hB) none) (by cases hv : v.ownBlock <;> simp), h2, h3, fun j hj => ?_⟩
  obtain ⟨A', m, c', h5, h6, h7⟩ := h4 j hj
  exact ⟨A', m, c', h5, h6.below hb hB, fun b o hA => ⟨(h7 b o hA).1, Nat.lt_of_lt_of_le (h7 b o hA).2.1 hb.size, (h7 b o hA).2.2⟩⟩
theorem LII.alloc {w : World} {lo hi n : Nat} {v : Value} {xss : List (List Int)} {bad : Option Nat} (h : LII w lo hi v n xss bad) (o : Obj) : LII (w.alloc o) lo hi v n xss bad := h.below ((Below.refl _ _).alloc (Nat.le_refl _) o) (Nat.le_refl _)
theorem LII.reads {w : World} {lo hi n c : Nat} {A : Option Addr} {xss : List (List Int)} {bad : Option Nat} (h : LII w lo hi (.slice A n c) n xss bad) : RII w A n xss := by
  obtain ⟨vals, h1, h2, h3, h4⟩ := h
  refine ⟨h3, fun hn => ?_⟩
  obtain ⟨g, cap, hv, _, hlt⟩ := h1.form hn
  simp only [Value.slice.injEq, true_and] at hv
  obtain ⟨rfl, rfl⟩ := hv
  refine ⟨g, 0, rfl, hlt, fun j hj => ?_⟩
  obtain ⟨A', m, c', h5, h6, _⟩ := h4 j hj
  exact ⟨A', m, c', by rw [Nat.zero_add, h1.cellAt j (by omega), h5], h6⟩
theorem LII.beside {w w' : World} {lo hi n lo2 hi2 m : Nat} {v v1 v2 : Value} {xss : List (List Int)} {xs : List Int} (h : LII w lo hi v n xss v1.ownBlock) (ho : Own w lo2 hi2 v1 m xs) (hg : w.grownBy w' v1.ownBlock) (hat : v2.ownBlock = v1.ownBlock ∨ v2.ownBlock = some w.heap.size) : LII w' lo hi v n xss v2.ownBlock := by
  obtain ⟨vals, h1, h2, h3, h4⟩ := h
  have hap := ownsRow_ne h1 ho.1 (by decide)
  refine ⟨vals, h1.kept hg (by
    cases hv : v.ownBlock with
    | none => exact .inl rfl
    | some g => exact .inr (fun he => hap g hv he.symm)), h2, h3, fun j hj => ?_⟩
  obtain ⟨A', m', c', h5, h6, h7⟩ := h4 j hj
  refine ⟨A', m', c', h5, h6.grown_ hg (fun b o hA => (h7 b o hA).1), fun b o hA => ⟨?_, Nat.lt_of_lt_of_le (h7 b o hA).2.1 hg.size, (h7 b o hA).2.2⟩⟩
  rcases hat with e | e
  · rw [e]; exact (h7 b o hA).1
  · rw [e]; intro he
    have := (h7 b o hA).2.1
    simp only [Option.some.injEq] at he
    omega
theorem Own.besideL {w w' : World} {lo hi n lo2 hi2 m : Nat} {v v1 : Value} {xss : List (List Int)} {xs : List Int} {bad : Option Nat} (ho : Own w lo2 hi2 v m xs) (h : LII w lo hi v1 n xss bad) (hg : w.grownBy w' v1.ownBlock) : Own w' lo2 hi2 v m xs := by
  obtain ⟨vals, h1, _⟩ := h
  exact ho.apart hg (ownsRow_ne ho.1 h1 (by decide))
theorem LII.reads_new {w w' : World} {lo hi n lo2 hi2 m c : Nat} {v : Value} {A : Option Addr} {xss : List (List Int)} {ys : List Int} {bad : Option Nat} (h : LII w lo hi v n xss bad) (hnew : Own w lo2 hi2 (.slice A m c) m ys) (hg : w.grownBy w' v.ownBlock) : RI w' A m ys :=
  (hnew.besideL h hg).reads
section
variable (w : World)
theorem run_appLL (ty : TypeId) (lo hi lo2 hi2 n c0 m c b q : Nat) (A0 A : Option Addr) (xss : List (List Int)) (ys : List Int) (bad : Option Nat) (hown : LII w lo hi (.slice A0 n c0) n xss bad) (hnew : Own w lo2 hi2 (.slice A m c) m ys) (hbad : ∀ g, (Value.slice A m c).ownBlock = some g → bad ≠ some g)
    (hc : w.cell? ⟨b, 0, none⟩ = some (.slice A m c)) (hlen : n ≤ 4194304) (hlo : lo ≤ w.heap.size) :
    ∃ A' c' w', (Builtin.append_ #[52, 52] ty #[.slice A0 n c0, .slice (some ⟨b, 0, none⟩) 1 q]).run Try.prog w = .ok (.slice A' (n + 1) c') w' ∧
      LII w' lo w'.heap.size (.slice A' (n + 1) c') (n + 1) (xss ++ [ys]) bad ∧ w.grownBy w' (Value.slice A0 n c0).ownBlock ∧ StayA A0 (n * 1) w w' := by
  have hown0 := hown
  obtain ⟨vals, h1, h2, h3, h4⟩ := hown
  obtain ⟨i, hi0, hz0, hz1, hz2⟩ := info_parts info_ints
  have hrv : RV w (some ⟨b, 0, none⟩) 1 1 [.slice A m c] := by
    refine ⟨rfl, fun _ => ⟨_, rfl, fun j u hu => ?_⟩⟩
    cases j with
    | zero => simp at hu; subst hu; rw [addr_add]; exact hc
    | succ j => simp at hu
  obtain ⟨A', c', w', hrun, hr, hg, hat, hs⟩ := run_appV (P := Try.prog) w 52 ty 24 i (.slice none 0 0) 1 24 Try.underlying52 hi0 hz0 hz1 hz2 rfl (by decide) lo n c0 1 q A0 (some ⟨b, 0, none⟩) _ _ h1 hrv (by intro u hu; simp at hu; subst hu; rfl) (by unfold maxLen; omega) (by omega) hlo
  have hl : vals.length = n := by simpa using h1.1
  have hnb : ∀ b, b < w.heap.size → (Value.slice A0 n c0).ownBlock ≠ some b → (Value.slice A' (n + 1) c').ownBlock ≠ some b := fun b hb hne => by
    rcases hat with e | e
    · rw [e]; exact hne
    · rw [e]; intro he; simp only [Option.some.injEq] at he; omega
  have hap := ownsRow_ne hnew.1 h1 (by decide)
  refine ⟨A', c', w', hrun, ⟨_, hr, fun g hg' => (hr.lt g hg').2, by simp [h3], fun j hj => ?_⟩, hg, hs⟩
  by_cases hjn : j < n
  · obtain ⟨A2, m', c'', h5, h6, h7⟩ := h4 j hjn
    refine ⟨A2, m', c'', by rw [List.getElem?_append_left (by omega)]; exact h5, ?_, fun b o hA => ⟨(h7 b o hA).1, Nat.lt_of_lt_of_le (h7 b o hA).2.1 hg.size, hnb b (h7 b o hA).2.1 (h7 b o hA).2.2⟩⟩
    rw [gl_append_lt (by omega)]
    exact h6.grown_ hg (fun b o hA => (h7 b o hA).2.2)
  · obtain rfl : j = n := by omega
    refine ⟨A, m, c, by rw [List.getElem?_append_right (by omega), hl, Nat.sub_self]; rfl, ?_, fun b o hA => ?_⟩
    · rw [← h3, gl_append_eq]
      exact (hown0.reads_new hnew hg)
    · have e : (Value.slice A m c).ownBlock = some b := by rw [hA]; rfl
      have := hnew.lt b e
      exact ⟨hbad b e, Nat.lt_of_lt_of_le this.2.2 hg.size, hnb b this.2.2 (fun he => hap b e he)⟩
theorem wpList_appLL {ops : Array Oper} {rest : List Oper} {o : Oper} {a : Act} {Q : Exit → Act → World → Prop} (hgd : o.guard = none) (s x : Operand)
    (ho : o.op = .call { callee := .builtin .append, args := #[s, x], argTypes := #[52, 52] })
    {lo hi lo2 hi2 n c0 m c b q : Nat} {A0 A : Option Addr} {xss : List (List Int)} {ys : List Int} {bad : Option Nat} (hs : a.eval s = .slice A0 n c0) (hown : LII w lo hi (.slice A0 n c0) n xss bad) (hx : a.eval x = .slice (some ⟨b, 0, none⟩) 1 q) (hnew : Own w lo2 hi2 (.slice A m c) m ys) (hbad : ∀ g, (Value.slice A m c).ownBlock = some g → bad ≠ some g) (hc : w.cell? ⟨b, 0, none⟩ = some (.slice A m c))
    (hlen : n ≤ 4194304) (hlo : lo ≤ w.heap.size)
    (h : ∀ A' c' w', LII w' lo w'.heap.size (.slice A' (n + 1) c') (n + 1) (xss ++ [ys]) bad → w.grownBy w' (Value.slice A0 n c0).ownBlock → StayA A0 (n * 1) w w' → wpList Try.prog ops Q rest (a.put o.dst (.slice A' (n + 1) c')) w') : wpList Try.prog ops Q (o :: rest) a w := by
  refine wpList_plain hgd fun _ hK => ?_
  obtain ⟨A', c', w', hrun, h2, h3, h5⟩ := run_appLL w o.type lo hi lo2 hi2 n c0 m c b q A0 A xss ys bad hown hnew hbad hc hlen hlo
  unfold Oper.wp execOp
  simp only [ho, resolve, invoke, builtin, Sem.run_bind, Sem.run_pure, Result.andThen_ok, List.map_toArray, List.map_cons, List.map_nil, hs, hx, hrun]
  exact hK _ _ (h A' c' w' h2 h3 h5)
end
end Go.Proofs.Ytcdhmcpocohbpaa
