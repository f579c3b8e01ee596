/- Contracts of the tables of a circuit's outs: all inputs in turn. -/
import Derived.Test.YtjjphaiomaiilaaQTable
import Derived.Deep.RegionLaw
namespace Go.Proofs.Ytjjphaiomaiilaa
open Go.RowKit
set_option linter.unusedVariables false
set_option linter.unusedSimpArgs false

/-- A circuit's k-th out for all inputs. -/
def colN (gs : List G3) (os : List Int) (X k : Nat) : List Int := tab (2 ^ X) fun n => gi (outsN gs os X n) k
theorem colN_len (gs : List G3) (os : List Int) (X k : Nat) : (colN gs os X k).length = 2 ^ X := tab_len _ _
/-- A circuit's outs for all inputs. -/
def tabL (N : Nat) (f : Nat → List Int) : List (List Int) := (List.range N).map f
theorem tabL_len (N : Nat) (f : Nat → List Int) : (tabL N f).length = N := by simp [tabL]
theorem tabL_snoc (N : Nat) (f : Nat → List Int) : tabL (N + 1) f = tabL N f ++ [f N] := by simp [tabL, List.range_succ]
theorem gl_tabL {N k : Nat} {f : Nat → List Int} (h : k < N) : gl (tabL N f) k = f k := by simp [gl, tabL, h]

set_option maxRecDepth 100000 in
set_option maxHeartbeats 1600000 in
theorem siOut_any (x y : Int) (Ag : Option Addr) (ng cg : Nat) (Ao : Option Addr) (no co : Nat) (gs : List G3) (os : List Int) (X N q : Nat) (w : World) (hr : RG w Ag ng gs ∧ RI w Ao no os) (hx : 0 ≤ x ∧ x ≤ 20) (hy : 0 ≤ y ∧ y ≤ 20) (hX : x + y = X) (hX10 : X ≤ 10) (hN : N = 2 ^ X) (hgat : gatesB X gs gs.length = true) (hos : allB 0 ((X : Int) + gs.length - 1) os = true) (hng : ng ≤ 300) (hno : no ≤ 40) (hq : q < no) :
    Calls Try.prog 17 #[.agg #[.int .i64 x, .int .i64 y, .slice Ag ng cg, .slice Ao no co], .int .i64 q] w (RetI w (tab N fun n => gi (outsN gs os X n) q)) := by
  have hB : Below w.heap.size w (w.alloc (.cells #[.int .i64 x, .int .i64 y, .slice Ag ng cg, .slice Ao no co] 26)) := (Below.refl _ _).alloc (Nat.le_refl _) _
  have hlg := hr.1.len
  have hlo := hr.2.len
  have hos' : allB 0 (((X + ng : Nat) : Int) - 1) os = true := by rw [show (((X + ng : Nat) : Int) - 1) = (X : Int) + gs.length - 1 from by omega]; exact hos
  have hob := Lib.hid fun n => outsN_bd hgat hos n
  have hvl := Lib.hid fun n => show (vals gs (bitsN n X) ng).length = X + ng from by rw [vals_len, bitsN_len]
  have hon := Lib.hid fun n => show outsN gs os X n = pick (vals gs (bitsN n X) ng) os from by rw [outsN, hlg]
  rw [hlg] at hgat
  obtain ⟨hP, hsh⟩ := pow_wrap hN hX10
  clear hN hos
  have hb1' := Below.refl (w.heap.size + 1) (w.alloc (.cells #[.int .i64 x, .int .i64 y, .slice Ag ng cg, .slice Ao no co] 26))
  have hz1 := trivial
  have hb1 := trivial
  go_enter Try.func17, Try.ntmps17
  go_wp2_with fail
  go_loopw [5, 6] (fun v i wr => ∃ (k : Nat) (A' : Option Addr) (c' : Nat), k ≤ N ∧ i = .int .i64 k ∧ v = .slice A' k c' ∧ Own wr (w.heap.size + 1) wr.heap.size (.slice A' k c') k (tab k fun n => gi (outsN gs os X n) q) ∧ Below (w.heap.size + 1) (w.alloc (.cells #[.int .i64 x, .int .i64 y, .slice Ag ng cg, .slice Ao no co] 26)) wr) (fun _ i _ => N - (intOf i).toNat)
  case atStart => exact ⟨0, _, _, Nat.zero_le _, rfl, rfl, Own.none_ _ _ _, hb1'⟩
  case round =>
    clear hb1 hb1' hz1
    obtain ⟨k, A', c', hk, rfl, rfl, hown, hb⟩ := hrel
    have hbw : Below w.heap.size w wr := hB.trans (hb.mono (by omega))
    obtain ⟨k0, k1, k2, k3⟩ := box_at hb
    go_wp2_with fail
    refine (ciInputs_any x y Ag ng cg Ao no co _ hx hy).mono ?_
    rintro e w0 ⟨rfl, hb0⟩
    rw [hX]
    have hown0 := hown.below hb0 (.inl (Nat.le_refl _))
    have hB0 := hb.trans (hb0.mono (by have := hb.size; simpa using this))
    have hbw0 := hbw.trans (hb0.mono hbw.size)
    clear k0 k1 k2 k3 hown hb hbw hb0
    have hown := hown0.now; have hb := hB0; have hbw := hbw0; clear hown0 hB0 hbw0
    obtain ⟨k0, k1, k2, k3⟩ := box_at hb
    by_cases hlt : k < N
    · have hlt' : (k : Int) < wrap64 (2 ^ X) := by rw [hsh]; omega
      have hsn : Hid (tab (k + 1) (fun n => gi (outsN gs os X n) q) = tab k (fun n => gi (outsN gs os X n) q) ++ [gi (outsN gs os X k) q]) := Lib.hid (tab_snoc k _)
      have hbk := hob.out k
      have hOl := hlo ▸ outsN_len gs os X k
      obtain ⟨O, hO⟩ : ∃ O, Hid (outsN gs os X k = O) := ⟨_, rfl⟩
      have hPk : Hid (pick (vals gs (bitsN k X) ng) os = O) := Lib.hid ((hon.out k).symm.trans hO.out)
      have hvk := hvl.out k
      obtain ⟨Z, hZ⟩ : ∃ Z, Hid (gi O q = Z) := ⟨_, rfl⟩
      rw [hO.out] at hbk hOl hsn
      rw [hZ.out] at hsn
      have hz := hb.size
      simp only [World.size_alloc] at hz
      have hbd := below_drewN hbw 1
      have hfar := hown.from_
      go_wp2_with fail
      go_region_law (first | (go_simp; go_at_call 18; refine (ciInputs_any x y Ag ng cg Ao no co _ hx hy).mono ?_; rintro e W0 ⟨rfl, hb0⟩; rw [hX]; have hs0 : w0.heap.size ≤ W0.heap.size := hb0.size; have k0 := cell_below (w := World.drew w0) k0 hb0; have k1 := cell_below (w := World.drew w0) k1 hb0; have k2 := cell_below (w := World.drew w0) k2 hb0; have k3 := cell_below (w := World.drew w0) k3 hb0) | (go_simp; go_at_call 33; refine (btOf_any k X _ (by omega) (by omega)).mono ?_; rintro e W1 hT; obtain ⟨A1, c1, rfl, ho1, hb1⟩ := hT.open_ (bitsN_len _ _); have hs1 : W0.heap.size ≤ W1.heap.size := hb1.size; have k0 := cell_below k0 hb1; have k1 := cell_below k1 hb1; have k2 := cell_below k2 hb1; have k3 := cell_below k3 hb1) | (go_simp; go_at_call 32; refine (ciOuts_any x y Ag ng cg Ao no co A1 X c1 gs os (bitsN k X) _ ⟨hr.1.below (hbd.trans ((bnext hb0 hb1).mono hbd.size)) (Nat.le_refl _), hr.2.below (hbd.trans ((bnext hb0 hb1).mono hbd.size)) (Nat.le_refl _)⟩ ho1.reads (bitsN_bd _ _) hgat hos' hng hno (by omega)).mono ?_; rintro e W2 hT; rw [hPk.out] at hT; obtain ⟨A2, c2, rfl, ho2, hb2⟩ := hT.open_ hOl; have hs2 := hb2.size; obtain ⟨g2, rfl, hg21, hg22, hg23⟩ := ho2.some_ (by omega); obtain ⟨e2, _⟩ := ho2.cellAt (k := q) (by omega); rw [hZ.out] at e2; have k0 := cell_below k0 hb2; have k1 := cell_below k1 hb2; have k2 := cell_below k2 hb2; have k3 := cell_below k3 hb2) | (refine step_appI _ (by rfl) _ _ (by rfl) (by rfl) ((hown.below (bnext (bnext (bnext (below_of_drewN 1) hb0) hb1) hb2) (.inl (Nat.le_refl _))).alloc _) (by rfl) (RI_one _ _ _ _ (by simp)) (by omega) (by first | omega | (simp; done) | (simp; omega)) ?_; intro A5 c5 w5 hown5 hg5 hat5 hk5))
      all_goals
        have hb5 := below_chain_app hb hz (bnext (bnext (bnext (below_of_drewN 1) hb0) hb1) hb2) ((hown.below (bnext (bnext (bnext (below_of_drewN 1) hb0) hb1) hb2) (.inl (Nat.le_refl _))).alloc _) hg5 (Nat.le_refl _)
        rw [← hsn.out] at hown5
        clear hown hb hb0 hb1 hb2 hg5 hk5 hat5 hbk hPk
        go_wp2
        go_roundw
        case rel => exact ⟨k + 1, _, _, by omega, by go_num, rfl, hown5, hb5⟩
        case measure => simp [intOf]; omega
    · obtain rfl : N = k := by omega
      go_wp2
      go_ret
      exact RetI.mk_ (tab_len _ _) rfl (hown.lo_ (by omega)) hbw

set_option maxRecDepth 100000 in
set_option maxHeartbeats 1600000 in
theorem Circuit_table_any (x y : Int) (Ag : Option Addr) (ng cg : Nat) (Ao : Option Addr) (no co : Nat) (gs : List G3) (os : List Int) (X N : Nat) (w : World) (hr : RG w Ag ng gs ∧ RI w Ao no os) (hx : 0 ≤ x ∧ x ≤ 20) (hy : 0 ≤ y ∧ y ≤ 20) (hX : x + y = X) (hX10 : X ≤ 10) (hN : N = 2 ^ X) (hgat : gatesB X gs gs.length = true) (hos : allB 0 ((X : Int) + gs.length - 1) os = true) (hng : ng ≤ 300) (hno : no ≤ 40) :
    Calls Try.prog 31 #[.agg #[.int .i64 x, .int .i64 y, .slice Ag ng cg, .slice Ao no co]] w (RetII w (tabL N (outsN gs os X))) := by
  have hB : Below w.heap.size w (w.alloc (.cells #[.int .i64 x, .int .i64 y, .slice Ag ng cg, .slice Ao no co] 26)) := (Below.refl _ _).alloc (Nat.le_refl _) _
  have hlg := hr.1.len
  have hlo := hr.2.len
  have hos' : allB 0 (((X + ng : Nat) : Int) - 1) os = true := by rw [show (((X + ng : Nat) : Int) - 1) = (X : Int) + gs.length - 1 from by omega]; exact hos
  have hob := Lib.hid fun n => outsN_bd hgat hos n
  have hvl := Lib.hid fun n => show (vals gs (bitsN n X) ng).length = X + ng from by rw [vals_len, bitsN_len]
  have hon := Lib.hid fun n => show outsN gs os X n = pick (vals gs (bitsN n X) ng) os from by rw [outsN, hlg]
  rw [hlg] at hgat
  obtain ⟨hP, hsh⟩ := pow_wrap hN hX10
  clear hN hos
  have hown1 := OwnII.new0 (w.alloc (.cells #[.int .i64 x, .int .i64 y, .slice Ag ng cg, .slice Ao no co] 26)) (w.heap.size + 1) (by simp)
  have hbA := (Below.refl (w.heap.size + 1) (w.alloc (.cells #[.int .i64 x, .int .i64 y, .slice Ag ng cg, .slice Ao no co] 26))).alloc (by simp) (.cells #[] 24)
  have hBA : Below w.heap.size w ((w.alloc (.cells #[.int .i64 x, .int .i64 y, .slice Ag ng cg, .slice Ao no co] 26)).alloc (.cells #[] 24)) := hB.alloc (by simp) _
  have q0 := box_at hbA
  obtain ⟨k0, k1, k2, k3⟩ := q0
  go_enter Try.func31, Try.ntmps31
  go_wp2_with fail
  refine (Circuit_inputs_any x y Ag ng cg Ao no co _ hx hy).mono ?_
  rintro e v1 ⟨rfl, hb1⟩
  rw [hX]
  have hz1 := hb1.size
  simp only [World.size_alloc] at hz1
  have hb1' := hbA.trans (hb1.mono (by simp))
  have hown2 := (hown1.hi_ (hi' := v1.heap.size) (by simp; omega)).below hb1 (Nat.le_refl _)
  clear hown1 hbA k0 k1 k2 k3
  go_wp2_with fail
  rw [hsh]
  go_loopw [3, 10] (fun v i wr => ∃ (k : Nat) (A' : Option Addr) (c' : Nat), k ≤ N ∧ i = .int .i64 k ∧ v = .slice A' k c' ∧ OwnII wr (w.heap.size + 1) wr.heap.size (.slice A' k c') k (tabL k (outsN gs os X)) ∧ Below (w.heap.size + 1) (w.alloc (.cells #[.int .i64 x, .int .i64 y, .slice Ag ng cg, .slice Ao no co] 26)) wr) (fun _ i _ => N - (intOf i).toNat)
  case atStart => exact ⟨0, _, _, Nat.zero_le _, rfl, rfl, by simpa [tabL] using hown2, hb1'⟩
  case round =>
    clear hb1 hb1' hz1 hown2 hBA
    obtain ⟨k, A', c', hk, rfl, rfl, hown, hb⟩ := hrel
    have hbw : Below w.heap.size w wr := hB.trans (hb.mono (by omega))
    obtain ⟨k0, k1, k2, k3⟩ := box_at hb
    by_cases hlt : k < N
    · have hsn : Hid (tabL (k + 1) (outsN gs os X) = tabL k (outsN gs os X) ++ [outsN gs os X k]) := Lib.hid (tabL_snoc k _)
      have hbk := hob.out k
      have hOl := hlo ▸ outsN_len gs os X k
      obtain ⟨O, hO⟩ : ∃ O, Hid (outsN gs os X k = O) := ⟨_, rfl⟩
      have hPk : Hid (pick (vals gs (bitsN k X) ng) os = O) := Lib.hid ((hon.out k).symm.trans hO.out)
      have hvk := hvl.out k
      rw [hO.out] at hbk hOl hsn
      have hz := hb.size
      simp only [World.size_alloc] at hz
      have hbd := below_drewN hbw 1
      have hfar := hown.from_
      go_wp2_with fail
      go_region_held3 (fun w' => w'.cell? ⟨w.heap.size, 0, none⟩ = some (.int .i64 x) ∧ w'.cell? ⟨w.heap.size, 1, none⟩ = some (.int .i64 y) ∧ w'.cell? ⟨w.heap.size, 2, none⟩ = some (.slice Ag ng cg) ∧ w'.cell? ⟨w.heap.size, 3, none⟩ = some (.slice Ao no co))
        (first | go_keep | (go_split_ands; exact ⟨hk5 _ _ _ (by assumption) (fun g9 hg9 he9 => by first | omega | (have := hfar _ hg9; omega) | (simp only [Option.some.injEq, Addr.mk.injEq, and_true] at hg9; omega)), hk5 _ _ _ (by assumption) (fun g9 hg9 he9 => by first | omega | (have := hfar _ hg9; omega) | (simp only [Option.some.injEq, Addr.mk.injEq, and_true] at hg9; omega)), hk5 _ _ _ (by assumption) (fun g9 hg9 he9 => by first | omega | (have := hfar _ hg9; omega) | (simp only [Option.some.injEq, Addr.mk.injEq, and_true] at hg9; omega)), hk5 _ _ _ (by assumption) (fun g9 hg9 he9 => by first | omega | (have := hfar _ hg9; omega) | (simp only [Option.some.injEq, Addr.mk.injEq, and_true] at hg9; omega))⟩) | (go_split_ands; exact ⟨cell_below (by assumption) hb3, cell_below (by assumption) hb3, cell_below (by assumption) hb3, cell_below (by assumption) hb3⟩) | (go_split_ands; exact ⟨cell_below (by assumption) hb2, cell_below (by assumption) hb2, cell_below (by assumption) hb2, cell_below (by assumption) hb2⟩) | (go_split_ands; exact ⟨cell_below (by assumption) hb1, cell_below (by assumption) hb1, cell_below (by assumption) hb1, cell_below (by assumption) hb1⟩) | (go_split_ands; exact ⟨cell_below (by assumption) hb0, cell_below (by assumption) hb0, cell_below (by assumption) hb0, cell_below (by assumption) hb0⟩))
        (first | (go_at_call 14; refine (Circuit_inputs_any x y Ag ng cg Ao no co _ hx hy).mono ?_; rintro e W0 ⟨rfl, hb0⟩; rw [hX]; have hs0 : wr.heap.size ≤ W0.heap.size := hb0.size) | (go_at_call 41; refine (bitsOf_any k X _ (by omega) (by omega)).mono ?_; rintro e W1 hT; obtain ⟨A1, c1, rfl, ho1, hb1⟩ := hT.open_ (bitsN_len _ _); have hs1 : W0.heap.size ≤ W1.heap.size := hb1.size) | (go_at_call 40; refine (Circuit_values_any x y Ag ng cg Ao no co A1 X c1 gs (bitsN k X) _ (hr.1.below (hbd.trans ((bnext hb0 hb1).mono hbd.size)) (Nat.le_refl _)) ho1.reads (bitsN_bd _ _) hgat (by omega) (by omega)).mono ?_; rintro e W2 hT; obtain ⟨A2, c2, rfl, ho2, hb2⟩ := hT.open_ hvk; have hs2 := hb2.size) | (go_at_call 39; refine (at_any A2 Ao (X + ng) c2 no co (vals gs (bitsN k X) ng) os _ ho2.reads (hr.2.below (hbd.trans ((bnext (bnext hb0 hb1) hb2).mono hbd.size)) (Nat.le_refl _)) (by omega) (by omega) hos').mono ?_; rintro e W3 hT; rw [hPk.out] at hT; obtain ⟨A3, c3, rfl, ho3, hb3⟩ := hT.open_ hOl; have hs3 := hb3.size) | (refine step_appL _ (by rfl) _ _ (by rfl) (by rfl) ((hown.below (bnext (bnext (bnext (bnext (below_of_drewN 1) hb0) hb1) hb2) hb3) (Nat.le_refl _)).alloc _) (by rfl) (ho3.alloc _) (box_cell _ _ 0 _ rfl) (by omega) (by omega) (by omega) (by first | omega | (simp; done) | (simp; omega)) ?_; intro A5 c5 w5 hown5 hg5 hk5))
      have hb5 := below_chain_appL hb hz (bnext (bnext (bnext (bnext (below_of_drewN 1) hb0) hb1) hb2) hb3) ((hown.below (bnext (bnext (bnext (bnext (below_of_drewN 1) hb0) hb1) hb2) hb3) (Nat.le_refl _)).alloc _) hg5 (Nat.le_refl _)
      rw [← hsn.out] at hown5
      clear hown hb hb0 hb1 hb2 hb3 hg5 hk5 hbk hPk
      go_wp2
      go_roundw
      case rel => exact ⟨k + 1, _, _, by omega, by go_num, rfl, hown5, hb5⟩
      case measure => simp [intOf]; omega
    · obtain rfl : N = k := by omega
      go_wp2
      go_ret
      exact RetII.mk_ (tabL_len _ _) rfl (hown.lo_ (by omega)) hbw

end Go.Proofs.Ytjjphaiomaiilaa
