/- Words and lemmas on memory and lists that the contracts of this seat's functions share. No condition: plain theorems. What the rows' steps of this seat's laws share: the arguments' readings as the walks ask them. The laws' own helpers on slices of ints: copying, comparing, marking and asking for marks. No condition beyond lengths below 2^21. Lists given place by place; no program in sight. Worlds that differ in some blocks alone; marking as the laws do it. Plain functions: the values of a circuit's wires, of an arithmetic circuit's wires, places of a list; carrying what is read from world to world. No condition. Contracts of the values of a circuit's wires, of an arithmetic circuit's wires, and of the elements of a list at places. Contracts of the values of an arithmetic circuit's wires, and of the elements of a list at places. Plain functions: bits of numbers, numbers of bits, tables of a circuit's outs; no program in sight. Contracts of the bits of a number, the number of bits, the outs of a circuit. Contracts of equality of lists, of small circuits, of the tables of a circuit's outs. Whether lines are a program; the tests of inputs and results. Thirty lines at most, texts below 2^21 bytes. The language: the widths of inputs and results by lines; numbers that fit widths. No program in sight. The widths of inputs and of results. Thirty lines at most, texts below 2^21 bytes. Compiled programs: gates only grow, outs are as many as the results' bits, numbers and their bits. No program in sight. Whether lines are a program, the reference's; numbers that fit widths. Texts below 2^21 bytes. -/
import Derived.Test.YtjjphaiomaiilaaGreatQB44
import Derived.WalkKit
import Derived.WalkLawsBesides
import Derived.WalkSpells
import Derived.Deep.QuietTactic
import Derived.BigQuiet
import Derived.Outline
import Derived.Lib.Hide
import Derived.Deep.AppendLies
import Derived.Deep.RegionHeld3
import Derived.Deep.RegionWith
import Derived.Deep.LoopGhost
import Derived.Laws.MakeOwn
import Derived.KernelRfl
import Derived.ProofKit
import Derived.OpenShut
import Derived.ShutString
import Derived.ChangeOld
import Derived.Below
import Derived.StillTailTactics
namespace Go.Proofs.YtjjphaiomaiilaaGreat
open Go.RowKit
set_option linter.unusedVariables false
set_option linter.unusedSimpArgs false
theorem gi_eq {xs ys : List Int} (h : xs.length = ys.length) (hg : ∀ j, j < xs.length → gi xs j = gi ys j) : xs = ys := by
  refine List.ext_getElem h fun i h1 h2 => ?_
  have := hg i h1
  rwa [gi_lt h1, gi_lt h2] at this
end Go.Proofs.YtjjphaiomaiilaaGreat
namespace Go.Proofs.YtjjphaiomaiilaaGreat
open Go.ChangeShapes Go.WideShapes Go.ChangeAt Go.RowKit
open Go.ChangeMaps (open_string shut_string)
set_option linter.unusedVariables false
set_option linter.unusedSimpArgs false
theorem RI_of_trod {H : Type} {enc : TypeId × Value → H} {W : World} {a : Option Addr} {n c : Nat} {d : DataW H} {p : List MemPlace}
    (h : DataW.Trod enc Tryz.prog W 0 (fun _ => true) true 30 (.slice a n c) d p) : ∃ xs, RI W a n xs := by
  obtain ⟨fuel, hf⟩ := h
  rcases open_ints Tryz.underlying30 Tryz.underlying3 (by kernel_rfl) hf with ⟨hcs, _⟩ | ⟨x, l, c', zs, hcs, _, hl, hm, hz, _, hcell, hwz⟩
  · simp [Value.cells] at hcs
    obtain ⟨rfl, rfl, rfl⟩ := hcs
    exact ⟨[], RI.nil _⟩
  · simp [Value.cells] at hcs
    obtain ⟨rfl, rfl, rfl⟩ := hcs
    simp only [if_true] at hz
    refine ⟨zs.take n, by simp; omega, fun hn => ?_⟩
    obtain ⟨b, o, spot⟩ := x
    have hc := hcell 0 (by omega)
    have hspot : spot = none := by simpa [Addr.add] using World.cell?_spot hc
    subst hspot
    refine ⟨b, o, rfl, World.block_lt_of_cell? W _ (by simpa [Addr.add] using hc), fun j hj => ?_⟩
    have h1 := hcell j (by omega)
    have h2 : (⟨b, o, none⟩ : Addr).add j = ⟨b, o + j, none⟩ := by
      unfold Addr.add; split
      · rename_i h; subst h; rfl
      · rfl
    rw [h2] at h1
    rw [h1]
    simp [gi, List.getElem?_take, hj]
end Go.Proofs.YtjjphaiomaiilaaGreat
namespace Go.Proofs.YtjjphaiomaiilaaGreat
open Go.RowKit
set_option linter.unusedVariables false
set_option linter.unusedSimpArgs false
theorem toIntS_any (A : Option Addr) (n c : Nat) (xs : List Int) (w : World) (ha : RI w A n xs) (hn : n ≤ 2097152) :
    Calls Tryz.prog 26 #[.slice A n c] w fun e w' => ∃ B, e = .returned (.slice (some B) n n) ∧ Own w' w.heap.size w'.heap.size (.slice (some B) n n) n xs ∧ Below w.heap.size w w' := by
  obtain ⟨i0, hi, hz0, hz1, hz2⟩ := info_parts info_int
  have hl := ha.len
  go_enter Tryz.func26, Tryz.ntmps26
  go_wp2_with (at_make; refine wpList_make_full _ rfl _ _ 30 rfl w.heap.size 3 i0 (.int .i64 0) 1 Tryz.underlying30 hi hz0 hz1 _ _ _ _ n rfl rfl rfl rfl (by rw [hz2]; omega) (by unfold maxLen; omega) (Nat.le_refl _) ?_; intro w1 hown hgrow)
  have hrep : w1.ownsRow w.heap.size 3 1 (.slice (some ⟨w.heap.size, 0, none⟩) n n) n ((xs.take 0 ++ List.replicate (n - 0) 0).map (Value.int .i64)) := by
    have h : (madeCells (Value.int .i64 0).cells (n * 1)).toList = (xs.take 0 ++ List.replicate (n - 0) 0).map (Value.int .i64) := by
      simp [Value.cells, toList_madeCells_one]
    rw [← h]; exact hown
  have hb1 : Below w.heap.size w w1 := below_of_grownBy hgrow
  clear hown hgrow
  go_loopw [4] (fun i wr => ∃ k : Nat, k ≤ n ∧ i = .int .i64 k ∧ wr.ownsRow w.heap.size 3 1 (.slice (some ⟨w.heap.size, 0, none⟩) n n) n ((xs.take k ++ List.replicate (n - k) 0).map (Value.int .i64)) ∧ Below w.heap.size w wr) (fun i _ => n - (intOf i).toNat)
  case atStart => exact ⟨0, Nat.zero_le _, rfl, hrep, hb1⟩
  case round =>
    clear hrep hb1
    obtain ⟨k, hk, rfl, hown, hb⟩ := hrel
    by_cases hlt : k < n
    · obtain ⟨b, o, rfl, hbB, hc⟩ := ha.at_ hlt
      have hc' := (hb.cell (p := ⟨b, o + k, none⟩) hbB).trans hc
      have hof := hown.frozenAt k
      have hoc := hown.cellAt k (by omega)
      rw [List.getElem?_eq_getElem (by simp; omega)] at hoc
      obtain ⟨hs1, hs2⟩ := hown.stored k (.int .i64 (gi xs k))
      have hs3 : ((xs.take k ++ List.replicate (n - k) 0).map (Value.int .i64)).set k (.int .i64 (gi xs k)) = (xs.take (k + 1) ++ List.replicate (n - (k + 1)) 0).map (Value.int .i64) := by
        rw [← List.map_set, gi_take_snoc (by omega)]
        refine congrArg (List.map (Value.int .i64)) ?_
        rw [List.set_append_right _ _ (by simp; omega)]
        have : k - (xs.take k).length = 0 := by simp; omega
        rw [this, show n - k = (n - (k + 1)) + 1 from by omega, List.replicate_succ]
        simp
      have HS : Hid _ := Lib.hid hs3
      rw [hs3] at hs1
      have hb2 := hb.trans (Below.setCell (Below.refl _ wr) (p := ⟨w.heap.size, k, none⟩) (Nat.le_refl _) (.int .i64 (gi xs k)))
      clear hs3 hc hown hs2 hb
      go_wp2
      go_roundw
      case rel => exact ⟨k + 1, by omega, by go_num, hs1, hb2⟩
      case measure => simp [intOf]; omega
    · obtain rfl : k = n := by omega
      go_wp2
      go_ret
      refine ⟨_, rfl, ⟨?_, ?_⟩, hb⟩
      · simpa [List.take_of_length_le (Nat.le_of_eq hl)] using hown
      · intro g hg
        exact (hown.lt g hg).2
end Go.Proofs.YtjjphaiomaiilaaGreat
namespace Go.Proofs.YtjjphaiomaiilaaGreat
open Go.RowKit
set_option linter.unusedVariables false
set_option linter.unusedSimpArgs false
theorem mem_tab {n : Nat} {f : Nat → Int} {x : Int} (h : x ∈ tab n f) : ∃ j, j < n ∧ x = f j := by
  obtain ⟨j, hj, rfl⟩ := List.mem_map.1 h
  exact ⟨j, List.mem_range.1 hj, rfl⟩
theorem bxor_bit {a b : Int} (ha : 0 ≤ a ∧ a ≤ 1) (hb : 0 ≤ b ∧ b ≤ 1) : bxor a b = (a + b) % 2 := by
  rcases (show a = 0 ∨ a = 1 by omega) with rfl | rfl <;> rcases (show b = 0 ∨ b = 1 by omega) with rfl | rfl <;> decide
theorem bxor_bd {a b : Int} (ha : 0 ≤ a ∧ a ≤ 1) (hb : 0 ≤ b ∧ b ≤ 1) : 0 ≤ bxor a b ∧ bxor a b ≤ 1 := by
  rw [bxor_bit ha hb]; omega
end Go.Proofs.YtjjphaiomaiilaaGreat
namespace Go.Proofs.YtjjphaiomaiilaaGreat
open Go.RowKit
set_option linter.unusedVariables false
set_option linter.unusedSimpArgs false
theorem markIntS_c (A : Option Addr) (n c lo hi : Nat) (q : Int) (xs : List Int) (w : World) (ha : Own w lo hi (.slice A n c) n xs) (hn : n ≤ 2097152) (h0 : 0 ≤ q) (h1 : q ≤ 1000000000000) :
    Calls Tryz.prog 21 #[.slice A n c, .int .i64 q] w fun e w' => e = .returned (.int .i64 (q + n)) ∧ Own w' lo hi (.slice A n c) n (marks q n) ∧ Chg lo hi w w' :=
  (markIntS_any A n c lo hi q xs w ha hn h0 h1).mono fun _ _ ⟨h1, h2, h3⟩ => ⟨h1, h2, Chg.of_grown ha h3⟩
end Go.Proofs.YtjjphaiomaiilaaGreat
namespace Go.Proofs.YtjjphaiomaiilaaGreat
open Go.RowKit
set_option linter.unusedVariables false
set_option linter.unusedSimpArgs false
theorem allB_append {lo hi : Int} {xs ys : List Int} : allB lo hi (xs ++ ys) = (allB lo hi xs && allB lo hi ys) := by simp [allB]
theorem allB_snoc {lo hi x : Int} {xs : List Int} (h : allB lo hi xs = true) (hx : lo ≤ x ∧ x ≤ hi) : allB lo hi (xs ++ [x]) = true := by
  rw [allB_append, h]; simp [allB, inB_t hx]
theorem band_bd {a b : Int} (ha : 0 ≤ a ∧ a ≤ 1) (hb : 0 ≤ b ∧ b ≤ 1) : 0 ≤ band a b ∧ band a b ≤ 1 := by
  rcases (show a = 0 ∨ a = 1 by omega) with rfl | rfl <;> rcases (show b = 0 ∨ b = 1 by omega) with rfl | rfl <;> decide
theorem gateB_is {g : G3} {n : Int} (h : gateB g n = true) : GateIs g n := by
  unfold gateB at h
  split at h
  · rename_i hk
    simp only [Bool.and_eq_true, inB_iff] at h
    rcases hk with hk | hk
    · exact .xor_ hk (by omega) (by omega) (by omega) (by omega)
    · exact .and_ hk (by omega) (by omega) (by omega) (by omega)
  · split at h
    · rename_i hk
      simp only [Bool.and_eq_true, inB_iff, decide_eq_true_eq] at h
      exact .not_ hk (by omega) (by omega) h.2
    · simp only [Bool.and_eq_true, decide_eq_true_eq] at h
      exact .one_ h.1 h.2.1 h.2.2
theorem gatesB_at {n : Int} {gs : List G3} {k m : Nat} (h : gatesB n gs m = true) (hk : k < m) : GateIs (gg gs k) (n + k) :=
  gateB_is (List.all_eq_true.1 h k (List.mem_range.2 hk))
theorem vals_len (gs : List G3) (inp : List Int) (k : Nat) : (vals gs inp k).length = inp.length + k := by
  induction k with
  | zero => rfl
  | succ k ih => simp [vals, ih]; omega
theorem vals_succ (gs : List G3) (inp : List Int) (k : Nat) : vals gs inp (k + 1) = vals gs inp k ++ [gval (gg gs k) (vals gs inp k)] := rfl
theorem gval_bd {g : G3} {n : Nat} {out : List Int} (h : GateIs g n) (hn : out.length = n) (ho : allB 0 1 out = true) : 0 ≤ gval g out ∧ gval g out ≤ 1 := by
  cases h with
  | xor_ hk a1 a2 b1 b2 =>
    rw [gval, if_pos hk]
    exact bxor_bd (allB_gi ho (by omega)) (allB_gi ho (by omega))
  | and_ hk a1 a2 b1 b2 =>
    rw [gval, if_neg (by omega), if_pos hk]
    exact band_bd (allB_gi ho (by omega)) (allB_gi ho (by omega))
  | not_ hk a1 a2 b1 =>
    rw [gval, if_neg (by omega), if_neg (by omega), if_pos hk]
    have := allB_gi ho (j := g.a.toNat) (by omega)
    omega
  | one_ hk a1 b1 =>
    rw [gval, if_neg (by omega), if_neg (by omega), if_neg (by omega)]
    omega
theorem vals_bd {gs : List G3} {inp : List Int} {n : Int} (hn : (inp.length : Int) = n) (hi : allB 0 1 inp = true) : ∀ k m, k ≤ m → gatesB n gs m = true → allB 0 1 (vals gs inp k) = true := by
  intro k
  induction k with
  | zero => intro m _ _; exact hi
  | succ k ih =>
    intro m hk hg
    have h1 := ih m (by omega) hg
    rw [vals_succ]
    refine allB_snoc h1 (gval_bd (n := inp.length + k) ?_ (vals_len _ _ _) h1)
    have := gatesB_at hg (k := k) (by omega)
    rwa [← hn, show ((inp.length : Int) + k) = ((inp.length + k : Nat) : Int) from by omega] at this
def pick (l os : List Int) : List Int := os.map fun o => gi l o.toNat
theorem pick_len (l os : List Int) : (pick l os).length = os.length := by simp [pick]
theorem gi_map {os : List Int} {f : Int → Int} {k : Nat} (h : k < os.length) : gi (os.map f) k = f (gi os k) := by simp [gi, h]
theorem pick_tab {l os : List Int} {n : Nat} (h : os.length = n) : pick l os = tab n fun i => gi l (gi os i).toNat := by
  subst h
  exact gi_eq (by simp [pick, tab_len]) fun j hj => by
    have hj' : j < os.length := by simpa [pick] using hj
    rw [pick, gi_map hj', gi_tab hj']
end Go.Proofs.YtjjphaiomaiilaaGreat
namespace Go.Proofs.YtjjphaiomaiilaaGreat
open Go.RowKit
set_option linter.unusedVariables false
set_option linter.unusedSimpArgs false
set_option maxRecDepth 100000 in
set_option maxHeartbeats 4000000 in
theorem ciValues_any (x y : Int) (Ag : Option Addr) (ng cg : Nat) (Ao : Option Addr) (no co : Nat) (A : Option Addr) (n c : Nat) (gs : List G3) (inp : List Int) (w : World) (hg : RG w Ag ng gs) (ha : RI w A n inp) (hi : allB 0 1 inp = true) (hgat : gatesB n gs ng = true) (hng : ng ≤ 300) (hn : n ≤ 40) :
    Calls Tryz.prog 114 #[.agg #[.int .i64 x, .int .i64 y, .slice Ag ng cg, .slice Ao no co], .slice A n c] w (RetI w (vals gs inp ng)) := by
  have hB : Below w.heap.size w (w.alloc (.cells #[.int .i64 x, .int .i64 y, .slice Ag ng cg, .slice Ao no co] 46)) := (Below.refl _ _).alloc (Nat.le_refl _) _
  have hla := ha.len
  have hvb : ∀ k, k ≤ ng → allB 0 1 (vals gs inp k) = true := fun k hk => vals_bd (n := n) (by omega) hi k ng hk hgat
  have hvl : ∀ k, (vals gs inp k).length = n + k := fun k => by rw [vals_len]; omega
  have HV := Lib.hid hvb; have HL := Lib.hid hvl; clear hvb hvl
  go_enter Tryz.func114, Tryz.ntmps114
  go_wp2_with fail
  refine (l1Own_any A n c inp _ (ha.below hB (Nat.le_refl _)) (by omega)).mono ?_
  rintro e w1 ⟨A1, c1, rfl, hown1, hb1⟩
  have hz1 := hb1.size
  simp only [World.size_alloc] at hz1 hown1
  have hz1' : w.heap.size < w1.heap.size := by omega
  obtain ⟨hc1, hf1⟩ := bcell hb1
  have hb1' := hb1
  simp only [World.size_alloc] at hb1'
  go_wp2_with fail
  go_loopw [5, 13] (fun v i wr => ∃ (k : Nat) (A' : Option Addr) (c' : Nat), k ≤ ng ∧ i = .int .i64 k ∧ v = .slice A' (n + k : Nat) c' ∧ Own wr (w.heap.size + 1) wr.heap.size (.slice A' (n + k) c') (n + k) (vals gs inp k) ∧ Below (w.heap.size + 1) (w.alloc (.cells #[.int .i64 x, .int .i64 y, .slice Ag ng cg, .slice Ao no co] 46)) wr) (fun _ i _ => ng - (intOf i).toNat)
  case atStart => exact ⟨0, _, _, Nat.zero_le _, rfl, rfl, hown1, hb1'⟩
  case round =>
    obtain ⟨k, A', c', hk, rfl, rfl, hown, hb⟩ := hrel
    clear hown1 hc1 hf1 hb1 hb1' hz1 hz1'
    have hbw : Below w.heap.size w wr := hB.trans (hb.mono (by omega))
    by_cases hlt : k < ng
    · obtain ⟨b, o, rfl, hbB, c1, c2, c3⟩ := (hg.below hbw (Nat.le_refl _)).at_ hlt
      have hgt := gatesB_at hgat hlt
      have hsn := Lib.hid (vals_succ gs inp k)
      have hvk := HV.out k (by omega)
      have hlk := HL.out k
      have hz := hb.size
      simp only [World.size_alloc] at hz
      generalize vals gs inp k = vs at *
      generalize gg gs k = G at *
      obtain ⟨gk, ga, gb⟩ := G
      dsimp only at c1 c2 c3
      cases hgt with
      | xor_ hk0 a0 a1 b0 b1 =>
        dsimp only at hk0 a0 a1 b0 b1
        obtain ⟨a, rfl⟩ := Int.eq_ofNat_of_zero_le a0
        obtain ⟨b', rfl⟩ := Int.eq_ofNat_of_zero_le b0
        subst hk0
        obtain ⟨g, rfl, hg1, hg2, hg3⟩ := hown.some_ (by omega)
        obtain ⟨d1, _⟩ := hown.cellAt (k := a) (by omega)
        obtain ⟨d2, _⟩ := hown.cellAt (k := b') (by omega)
        have hsn' : Hid (vals gs inp (k + 1) = vs ++ [bits .xor .i64 (gi vs a) (gi vs b')]) := Lib.hid (by rw [hsn.out, gval, if_pos rfl]; rfl)
        have hbx : Below wr.heap.size wr (wr.alloc (.cells #[.int .i64 0, .int .i64 a, .int .i64 b'] 81)) := (Below.refl _ _).alloc (Nat.le_refl _) _
        have e1 := cell_below d1 hbx
        have e2 := cell_below d2 hbx
        have hownA := fun q => ((hown.below hbx (.inl (Nat.le_refl _))).drewN q).alloc (.cells #[.int .i64 (bits .xor .i64 (gi vs a) (gi vs b'))] 3)
        have hbA := fun q => (below_drewN (hb.alloc hz (.cells #[.int .i64 0, .int .i64 a, .int .i64 b'] 81)) q).alloc (by simp; omega) (.cells #[.int .i64 (bits .xor .i64 (gi vs a) (gi vs b'))] 3)
        clear d1 d2
        go_wp2_with fail
        go_region_held3 (fun w' => w'.cell? ⟨wr.heap.size, 1, none⟩ = some (.int .i64 a) ∧ w'.cell? ⟨wr.heap.size, 2, none⟩ = some (.int .i64 b') ∧ w'.cell? ⟨g, a, none⟩ = some (.int .i64 (gi vs a)) ∧ w'.cell? ⟨g, b', none⟩ = some (.int .i64 (gi vs b')))
          (first | go_keep | (go_split_ands; exact ⟨hk5 _ _ _ (by assumption) (fun g9 hg9 he9 => by first | omega | (simp only [Option.some.injEq, Addr.mk.injEq, and_true] at hg9; omega)), hk5 _ _ _ (by assumption) (fun g9 hg9 he9 => by first | omega | (simp only [Option.some.injEq, Addr.mk.injEq, and_true] at hg9; omega)), hk5 _ _ _ (by assumption) (fun g9 hg9 he9 => by first | omega | (simp only [Option.some.injEq, Addr.mk.injEq, and_true] at hg9; omega)), hk5 _ _ _ (by assumption) (fun g9 hg9 he9 => by first | omega | (simp only [Option.some.injEq, Addr.mk.injEq, and_true] at hg9; omega))⟩))
          (first | (refine step_appI _ (by rfl) _ _ (by rfl) (by rfl) (hownA 1) (by rfl) (RI_one _ _ _ _ (by simp)) (by omega) (by first | omega | (simp; done) | (simp; omega)) ?_; intro A5 c5 w5 hown5 hg5 hat5 hk5))
        have hb5 := below_app (hbA 1) (hownA 1) hg5 (by simp; omega) (Nat.le_refl _)
        rw [← hsn'.out] at hown5
        clear hownA hbA hg5 hat5 hk5 e1 e2 hown hb
        go_wp2
        go_roundw
        case rel => exact ⟨k + 1, _, _, by omega, by go_num, rfl, hown5, hb5⟩
        case measure => simp [intOf]; omega
      | and_ hk0 a0 a1 b0 b1 =>
        dsimp only at hk0 a0 a1 b0 b1
        obtain ⟨a, rfl⟩ := Int.eq_ofNat_of_zero_le a0
        obtain ⟨b', rfl⟩ := Int.eq_ofNat_of_zero_le b0
        subst hk0
        obtain ⟨g, rfl, hg1, hg2, hg3⟩ := hown.some_ (by omega)
        obtain ⟨d1, _⟩ := hown.cellAt (k := a) (by omega)
        obtain ⟨d2, _⟩ := hown.cellAt (k := b') (by omega)
        have hsn' : Hid (vals gs inp (k + 1) = vs ++ [bits .and .i64 (gi vs a) (gi vs b')]) := Lib.hid (by rw [hsn.out, gval, if_neg (by show ¬ ((1 : Int) = 0); decide), if_pos rfl]; rfl)
        have hbx : Below wr.heap.size wr (wr.alloc (.cells #[.int .i64 1, .int .i64 a, .int .i64 b'] 81)) := (Below.refl _ _).alloc (Nat.le_refl _) _
        have e1 := cell_below d1 hbx
        have e2 := cell_below d2 hbx
        have hownA := fun q => ((hown.below hbx (.inl (Nat.le_refl _))).drewN q).alloc (.cells #[.int .i64 (bits .and .i64 (gi vs a) (gi vs b'))] 3)
        have hbA := fun q => (below_drewN (hb.alloc hz (.cells #[.int .i64 1, .int .i64 a, .int .i64 b'] 81)) q).alloc (by simp; omega) (.cells #[.int .i64 (bits .and .i64 (gi vs a) (gi vs b'))] 3)
        clear d1 d2
        go_wp2_with fail
        go_region_held3 (fun w' => w'.cell? ⟨wr.heap.size, 1, none⟩ = some (.int .i64 a) ∧ w'.cell? ⟨wr.heap.size, 2, none⟩ = some (.int .i64 b') ∧ w'.cell? ⟨g, a, none⟩ = some (.int .i64 (gi vs a)) ∧ w'.cell? ⟨g, b', none⟩ = some (.int .i64 (gi vs b')))
          (first | go_keep | (go_split_ands; exact ⟨hk5 _ _ _ (by assumption) (fun g9 hg9 he9 => by first | omega | (simp only [Option.some.injEq, Addr.mk.injEq, and_true] at hg9; omega)), hk5 _ _ _ (by assumption) (fun g9 hg9 he9 => by first | omega | (simp only [Option.some.injEq, Addr.mk.injEq, and_true] at hg9; omega)), hk5 _ _ _ (by assumption) (fun g9 hg9 he9 => by first | omega | (simp only [Option.some.injEq, Addr.mk.injEq, and_true] at hg9; omega)), hk5 _ _ _ (by assumption) (fun g9 hg9 he9 => by first | omega | (simp only [Option.some.injEq, Addr.mk.injEq, and_true] at hg9; omega))⟩))
          (first | (refine step_appI _ (by rfl) _ _ (by rfl) (by rfl) (hownA 1) (by rfl) (RI_one _ _ _ _ (by simp)) (by omega) (by first | omega | (simp; done) | (simp; omega)) ?_; intro A5 c5 w5 hown5 hg5 hat5 hk5))
        have hb5 := below_app (hbA 1) (hownA 1) hg5 (by simp; omega) (Nat.le_refl _)
        rw [← hsn'.out] at hown5
        clear hownA hbA hg5 hat5 hk5 e1 e2 hown hb
        go_wp2
        go_roundw
        case rel => exact ⟨k + 1, _, _, by omega, by go_num, rfl, hown5, hb5⟩
        case measure => simp [intOf]; omega
      | not_ hk0 a0 a1 b0 =>
        dsimp only at hk0 a0 a1 b0
        obtain ⟨a, rfl⟩ := Int.eq_ofNat_of_zero_le a0
        subst hk0
        subst b0
        obtain ⟨g, rfl, hg1, hg2, hg3⟩ := hown.some_ (by omega)
        obtain ⟨d1, _⟩ := hown.cellAt (k := a) (by omega)
        have hvx := allB_gi hvk (j := a) (by omega)
        obtain ⟨hv0, hv1⟩ := hvx
        have hsn' : Hid (vals gs inp (k + 1) = vs ++ [1 - gi vs a]) := Lib.hid (by rw [hsn.out, gval, if_neg (by show ¬ ((2 : Int) = 0); decide), if_neg (by show ¬ ((2 : Int) = 1); decide), if_pos rfl]; rfl)
        have hbx : Below wr.heap.size wr (wr.alloc (.cells #[.int .i64 2, .int .i64 a, .int .i64 0] 81)) := (Below.refl _ _).alloc (Nat.le_refl _) _
        have e1 := cell_below d1 hbx
        have hownA := (hown.below hbx (.inl (Nat.le_refl _))).alloc (.cells #[.int .i64 (1 - gi vs a)] 3)
        have hbA := (hb.alloc hz (.cells #[.int .i64 2, .int .i64 a, .int .i64 0] 81)).alloc (by simp; omega) (.cells #[.int .i64 (1 - gi vs a)] 3)
        clear d1
        go_wp2_with (at_builtin; refine wpList_app _ rfl _ _ rfl rfl hownA rfl (RI_one _ _ _ _ (by simp)) (by omega) (by first | omega | (simp; done) | (simp; omega)) ?_; intro A5 c5 w5 hown5 hg5 hat5)
        have hb5 := below_app hbA hownA hg5 (by simp; omega) (Nat.le_refl _)
        rw [← hsn'.out] at hown5
        clear hownA hbA hg5 hat5 e1 hown hb
        go_wp2
        go_roundw
        case rel => exact ⟨k + 1, _, _, by omega, by go_num, rfl, hown5, hb5⟩
        case measure => simp [intOf]; omega
      | one_ hk0 a0 b0 =>
        dsimp only at hk0 a0 b0
        subst hk0
        subst a0
        subst b0
        have hsn' : Hid (vals gs inp (k + 1) = vs ++ [1]) := Lib.hid (by rw [hsn.out, gval, if_neg (by show ¬ ((3 : Int) = 0); decide), if_neg (by show ¬ ((3 : Int) = 1); decide), if_neg (by show ¬ ((3 : Int) = 2); decide)])
        have hbx : Below wr.heap.size wr (wr.alloc (.cells #[.int .i64 3, .int .i64 0, .int .i64 0] 81)) := (Below.refl _ _).alloc (Nat.le_refl _) _
        have hownA := (hown.below hbx (.inl (Nat.le_refl _))).alloc (.cells #[.int .i64 1] 3)
        have hbA := (hb.alloc hz (.cells #[.int .i64 3, .int .i64 0, .int .i64 0] 81)).alloc (by simp; omega) (.cells #[.int .i64 1] 3)
        go_wp2_with (at_builtin; refine wpList_app _ rfl _ _ rfl rfl hownA rfl (RI_one _ _ _ _ (by simp)) (by omega) (by first | omega | (simp; done) | (simp; omega)) ?_; intro A5 c5 w5 hown5 hg5 hat5)
        have hb5 := below_app hbA hownA hg5 (by simp; omega) (Nat.le_refl _)
        rw [← hsn'.out] at hown5
        clear hownA hbA hg5 hat5 hown hb
        go_wp2
        go_roundw
        case rel => exact ⟨k + 1, _, _, by omega, by go_num, rfl, hown5, hb5⟩
        case measure => simp [intOf]; omega
    · obtain rfl : ng = k := by omega
      go_wp2
      go_ret
      exact RetI.mk_ (HL.out ng) rfl (hown.lo_ (by omega)) hbw
set_option maxRecDepth 100000 in
set_option maxHeartbeats 4000000 in
theorem Circuit_values_any (x y : Int) (Ag : Option Addr) (ng cg : Nat) (Ao : Option Addr) (no co : Nat) (A : Option Addr) (n c : Nat) (gs : List G3) (inp : List Int) (w : World) (hg : RG w Ag ng gs) (ha : RI w A n inp) (hi : allB 0 1 inp = true) (hgat : gatesB n gs ng = true) (hng : ng ≤ 300) (hn : n ≤ 40) :
    Calls Tryz.prog 80 #[.agg #[.int .i64 x, .int .i64 y, .slice Ag ng cg, .slice Ao no co], .slice A n c] w (RetI w (vals gs inp ng)) := by
  have hB : Below w.heap.size w (w.alloc (.cells #[.int .i64 x, .int .i64 y, .slice Ag ng cg, .slice Ao no co] 46)) := (Below.refl _ _).alloc (Nat.le_refl _) _
  have hla := ha.len
  have hvb : ∀ k, k ≤ ng → allB 0 1 (vals gs inp k) = true := fun k hk => vals_bd (n := n) (by omega) hi k ng hk hgat
  have hvl : ∀ k, (vals gs inp k).length = n + k := fun k => by rw [vals_len]; omega
  have HV := Lib.hid hvb; have HL := Lib.hid hvl; clear hvb hvl
  go_enter Tryz.func80, Tryz.ntmps80
  go_wp2_with fail
  refine (Clone_any A n c inp _ (ha.below hB (Nat.le_refl _)) (by omega)).mono ?_
  rintro e w1 ⟨A1, c1, rfl, hown1, hb1⟩
  have hz1 := hb1.size
  simp only [World.size_alloc] at hz1 hown1
  have hz1' : w.heap.size < w1.heap.size := by omega
  obtain ⟨hc1, hf1⟩ := bcell hb1
  have hb1' := hb1
  simp only [World.size_alloc] at hb1'
  go_wp2_with fail
  go_loopw [5, 14] (fun v i wr => ∃ (k : Nat) (A' : Option Addr) (c' : Nat), k ≤ ng ∧ i = .int .i64 k ∧ v = .slice A' (n + k : Nat) c' ∧ Own wr (w.heap.size + 1) wr.heap.size (.slice A' (n + k) c') (n + k) (vals gs inp k) ∧ Below (w.heap.size + 1) (w.alloc (.cells #[.int .i64 x, .int .i64 y, .slice Ag ng cg, .slice Ao no co] 46)) wr) (fun _ i _ => ng - (intOf i).toNat)
  case atStart => exact ⟨0, _, _, Nat.zero_le _, rfl, rfl, hown1, hb1'⟩
  case round =>
    obtain ⟨k, A', c', hk, rfl, rfl, hown, hb⟩ := hrel
    clear hown1 hc1 hf1 hb1 hb1' hz1 hz1'
    have hbw : Below w.heap.size w wr := hB.trans (hb.mono (by omega))
    by_cases hlt : k < ng
    · obtain ⟨b, o, rfl, hbB, c1, c2, c3⟩ := (hg.below hbw (Nat.le_refl _)).at_ hlt
      have hgt := gatesB_at hgat hlt
      have hsn := Lib.hid (vals_succ gs inp k)
      have hvk := HV.out k (by omega)
      have hlk := HL.out k
      have hz := hb.size
      simp only [World.size_alloc] at hz
      generalize vals gs inp k = vs at *
      generalize gg gs k = G at *
      obtain ⟨gk, ga, gb⟩ := G
      dsimp only at c1 c2 c3
      cases hgt with
      | xor_ hk0 a0 a1 b0 b1 =>
        dsimp only at hk0 a0 a1 b0 b1
        obtain ⟨a, rfl⟩ := Int.eq_ofNat_of_zero_le a0
        obtain ⟨b', rfl⟩ := Int.eq_ofNat_of_zero_le b0
        subst hk0
        obtain ⟨g, rfl, hg1, hg2, hg3⟩ := hown.some_ (by omega)
        obtain ⟨d1, _⟩ := hown.cellAt (k := a) (by omega)
        obtain ⟨d2, _⟩ := hown.cellAt (k := b') (by omega)
        have hsn' : Hid (vals gs inp (k + 1) = vs ++ [bits .xor .i64 (gi vs a) (gi vs b')]) := Lib.hid (by rw [hsn.out, gval, if_pos rfl]; rfl)
        have hbx : Below wr.heap.size wr (wr.alloc (.cells #[.int .i64 0, .int .i64 a, .int .i64 b'] 81)) := (Below.refl _ _).alloc (Nat.le_refl _) _
        have e1 := cell_below d1 hbx
        have e2 := cell_below d2 hbx
        have hownA := fun q => ((hown.below hbx (.inl (Nat.le_refl _))).drewN q).alloc (.cells #[.int .i64 (bits .xor .i64 (gi vs a) (gi vs b'))] 3)
        have hbA := fun q => (below_drewN (hb.alloc hz (.cells #[.int .i64 0, .int .i64 a, .int .i64 b'] 81)) q).alloc (by simp; omega) (.cells #[.int .i64 (bits .xor .i64 (gi vs a) (gi vs b'))] 3)
        clear d1 d2
        go_wp2_with fail
        go_quiet (fail)
        go_wp2_with (at_builtin; refine wpList_appI _ rfl _ _ rfl rfl (hownA _) rfl (RI_one _ _ _ _ (by simp)) (by omega) (by first | omega | (simp; done) | (simp; omega)) ?_; intro A5 c5 w5 hown5 hg5 hat5 hk5)
        have hb5 := below_app (hbA _) (hownA _) hg5 (by simp; omega) (Nat.le_refl _)
        rw [← hsn'.out] at hown5
        clear hownA hbA hg5 hat5 hk5 e1 e2 hown hb
        go_wp2
        go_roundw
        case rel => exact ⟨k + 1, _, _, by omega, by go_num, rfl, hown5, hb5⟩
        case measure => simp [intOf]; omega
      | and_ hk0 a0 a1 b0 b1 =>
        dsimp only at hk0 a0 a1 b0 b1
        obtain ⟨a, rfl⟩ := Int.eq_ofNat_of_zero_le a0
        obtain ⟨b', rfl⟩ := Int.eq_ofNat_of_zero_le b0
        subst hk0
        obtain ⟨g, rfl, hg1, hg2, hg3⟩ := hown.some_ (by omega)
        obtain ⟨d1, _⟩ := hown.cellAt (k := a) (by omega)
        obtain ⟨d2, _⟩ := hown.cellAt (k := b') (by omega)
        have hsn' : Hid (vals gs inp (k + 1) = vs ++ [bits .and .i64 (gi vs a) (gi vs b')]) := Lib.hid (by rw [hsn.out, gval, if_neg (by show ¬ ((1 : Int) = 0); decide), if_pos rfl]; rfl)
        have hbx : Below wr.heap.size wr (wr.alloc (.cells #[.int .i64 1, .int .i64 a, .int .i64 b'] 81)) := (Below.refl _ _).alloc (Nat.le_refl _) _
        have e1 := cell_below d1 hbx
        have e2 := cell_below d2 hbx
        have hownA := fun q => ((hown.below hbx (.inl (Nat.le_refl _))).drewN q).alloc (.cells #[.int .i64 (bits .and .i64 (gi vs a) (gi vs b'))] 3)
        have hbA := fun q => (below_drewN (hb.alloc hz (.cells #[.int .i64 1, .int .i64 a, .int .i64 b'] 81)) q).alloc (by simp; omega) (.cells #[.int .i64 (bits .and .i64 (gi vs a) (gi vs b'))] 3)
        clear d1 d2
        go_wp2_with fail
        go_quiet (fail)
        go_wp2_with (at_builtin; refine wpList_appI _ rfl _ _ rfl rfl (hownA _) rfl (RI_one _ _ _ _ (by simp)) (by omega) (by first | omega | (simp; done) | (simp; omega)) ?_; intro A5 c5 w5 hown5 hg5 hat5 hk5)
        have hb5 := below_app (hbA _) (hownA _) hg5 (by simp; omega) (Nat.le_refl _)
        rw [← hsn'.out] at hown5
        clear hownA hbA hg5 hat5 hk5 e1 e2 hown hb
        go_wp2
        go_roundw
        case rel => exact ⟨k + 1, _, _, by omega, by go_num, rfl, hown5, hb5⟩
        case measure => simp [intOf]; omega
      | not_ hk0 a0 a1 b0 =>
        dsimp only at hk0 a0 a1 b0
        obtain ⟨a, rfl⟩ := Int.eq_ofNat_of_zero_le a0
        subst hk0
        subst b0
        obtain ⟨g, rfl, hg1, hg2, hg3⟩ := hown.some_ (by omega)
        obtain ⟨d1, _⟩ := hown.cellAt (k := a) (by omega)
        have hvx := allB_gi hvk (j := a) (by omega)
        obtain ⟨hv0, hv1⟩ := hvx
        have hsn' : Hid (vals gs inp (k + 1) = vs ++ [1 - gi vs a]) := Lib.hid (by rw [hsn.out, gval, if_neg (by show ¬ ((2 : Int) = 0); decide), if_neg (by show ¬ ((2 : Int) = 1); decide), if_pos rfl]; rfl)
        have hbx : Below wr.heap.size wr (wr.alloc (.cells #[.int .i64 2, .int .i64 a, .int .i64 0] 81)) := (Below.refl _ _).alloc (Nat.le_refl _) _
        have e1 := cell_below d1 hbx
        have hownA := (hown.below hbx (.inl (Nat.le_refl _))).alloc (.cells #[.int .i64 (1 - gi vs a)] 3)
        have hbA := (hb.alloc hz (.cells #[.int .i64 2, .int .i64 a, .int .i64 0] 81)).alloc (by simp; omega) (.cells #[.int .i64 (1 - gi vs a)] 3)
        clear d1
        go_wp2_with (at_builtin; refine wpList_app _ rfl _ _ rfl rfl hownA rfl (RI_one _ _ _ _ (by simp)) (by omega) (by first | omega | (simp; done) | (simp; omega)) ?_; intro A5 c5 w5 hown5 hg5 hat5)
        have hb5 := below_app hbA hownA hg5 (by simp; omega) (Nat.le_refl _)
        rw [← hsn'.out] at hown5
        clear hownA hbA hg5 hat5 e1 hown hb
        go_wp2
        go_roundw
        case rel => exact ⟨k + 1, _, _, by omega, by go_num, rfl, hown5, hb5⟩
        case measure => simp [intOf]; omega
      | one_ hk0 a0 b0 =>
        dsimp only at hk0 a0 b0
        subst hk0
        subst a0
        subst b0
        have hsn' : Hid (vals gs inp (k + 1) = vs ++ [1]) := Lib.hid (by rw [hsn.out, gval, if_neg (by show ¬ ((3 : Int) = 0); decide), if_neg (by show ¬ ((3 : Int) = 1); decide), if_neg (by show ¬ ((3 : Int) = 2); decide)])
        have hbx : Below wr.heap.size wr (wr.alloc (.cells #[.int .i64 3, .int .i64 0, .int .i64 0] 81)) := (Below.refl _ _).alloc (Nat.le_refl _) _
        have hownA := (hown.below hbx (.inl (Nat.le_refl _))).alloc (.cells #[.int .i64 1] 3)
        have hbA := (hb.alloc hz (.cells #[.int .i64 3, .int .i64 0, .int .i64 0] 81)).alloc (by simp; omega) (.cells #[.int .i64 1] 3)
        go_wp2_with (at_builtin; refine wpList_app _ rfl _ _ rfl rfl hownA rfl (RI_one _ _ _ _ (by simp)) (by omega) (by first | omega | (simp; done) | (simp; omega)) ?_; intro A5 c5 w5 hown5 hg5 hat5)
        have hb5 := below_app hbA hownA hg5 (by simp; omega) (Nat.le_refl _)
        rw [← hsn'.out] at hown5
        clear hownA hbA hg5 hat5 hown hb
        go_wp2
        go_roundw
        case rel => exact ⟨k + 1, _, _, by omega, by go_num, rfl, hown5, hb5⟩
        case measure => simp [intOf]; omega
    · obtain rfl : ng = k := by omega
      go_wp2
      go_ret
      exact RetI.mk_ (HL.out ng) rfl (hown.lo_ (by omega)) hbw
end Go.Proofs.YtjjphaiomaiilaaGreat
namespace Go.Proofs.YtjjphaiomaiilaaGreat
open Go.RowKit
set_option linter.unusedVariables false
set_option linter.unusedSimpArgs false
set_option maxRecDepth 100000 in
set_option maxHeartbeats 800000 in
theorem ciPick_any (A B : Option Addr) (n c m d : Nat) (l os : List Int) (w : World) (ha : RI w A n l) (hb : RI w B m os) (hn : n ≤ 2097152) (hm : m ≤ 2097152) (hos : allB 0 ((n : Int) - 1) os = true) :
    Calls Tryz.prog 113 #[.slice A n c, .slice B m d] w (RetI w (pick l os)) := by
  have hl := ha.len
  have hlo := hb.len
  have HP := Lib.hid (pick_tab (l := l) hlo)
  go_enter Tryz.func113, Tryz.ntmps113
  go_wp2
  go_loopw [5, 10] (fun v i wr => ∃ (k : Nat) (A' : Option Addr) (c' : Nat), k ≤ m ∧ i = .int .i64 k ∧ v = .slice A' k c' ∧ Own wr w.heap.size wr.heap.size (.slice A' k c') k (tab k fun i => gi l (gi os i).toNat) ∧ Below w.heap.size w wr) (fun _ i _ => m - (intOf i).toNat)
  case atStart => first | exact ⟨0, _, _, Nat.zero_le _, rfl, rfl, Own.none_ _ _ _, Below.refl _ _⟩ | exact ⟨0, _, _, Nat.zero_le _, rfl, rfl, by simpa [tab_zero] using Own_new0 w w.heap.size (Nat.le_refl _), (Below.refl _ _).alloc (Nat.le_refl _) _⟩
  case round =>
    obtain ⟨k, A', c', hk, rfl, rfl, hown, hbw⟩ := hrel
    by_cases hlt : k < m
    · have hsn : Hid (tab (k + 1) (fun i => gi l (gi os i).toNat) = tab k (fun i => gi l (gi os i).toNat) ++ [gi l (gi os k).toNat]) := Lib.hid (tab_snoc k _)
      obtain ⟨h0, h1⟩ := allB_gi hos (j := k) (by omega)
      obtain ⟨b, o, rfl, hbB, c1⟩ := hb.at_ hlt
      have e1 := (hbw.cell (p := ⟨b, o + k, none⟩) hbB).trans c1
      have hz := hbw.size
      generalize gi os k = X at *
      obtain ⟨a, rfl⟩ := Int.eq_ofNat_of_zero_le h0
      obtain ⟨b', o', rfl, hbB', c2⟩ := ha.at_ (k := a) (by omega)
      have e2 := (hbw.cell (p := ⟨b', o' + a, none⟩) hbB').trans c2
      have hlt2 : (a : Int) < n := by omega
      have hst : ((a : Int).toNat) = a := rfl
      rw [hst] at hsn
      clear ha hb c1 c2 hst
      generalize gi l a = Y at *
      have hownA := hown.alloc (.cells #[.int .i64 Y] 3)
      have hbA := hbw.alloc hz (.cells #[.int .i64 Y] 3)
      clear hown hbw
      go_wp2_with (at_builtin; refine wpList_app _ rfl _ _ rfl rfl hownA rfl (RI_one _ _ _ _ (by simp)) (by omega) (by first | omega | (simp; done) | (simp; omega)) ?_; intro A5 c5 w5 hown5 hg5 hat5)
      have hb5 := below_app hbA hownA hg5 (by simp; omega) (Nat.le_refl _)
      rw [← hsn.out] at hown5
      clear hbA hownA hg5 hat5
      go_wp2
      go_roundw
      case rel => exact ⟨k + 1, _, _, by omega, by go_num, rfl, hown5, hb5⟩
      case measure => simp [intOf]; omega
    · obtain rfl : k = m := by omega
      rw [← HP.out] at hown
      go_wp2
      go_ret
      exact RetI.mk_ (by rw [pick_len]; exact hlo) rfl hown hbw
set_option maxRecDepth 100000 in
set_option maxHeartbeats 800000 in
theorem at_any (A B : Option Addr) (n c m d : Nat) (l os : List Int) (w : World) (ha : RI w A n l) (hb : RI w B m os) (hn : n ≤ 2097152) (hm : m ≤ 2097152) (hos : allB 0 ((n : Int) - 1) os = true) :
    Calls Tryz.prog 83 #[.slice A n c, .slice B m d] w (RetI w (pick l os)) := by
  have hl := ha.len
  have hlo := hb.len
  have HP := Lib.hid (pick_tab (l := l) hlo)
  go_enter Tryz.func83, Tryz.ntmps83
  go_wp2
  go_loopw [5, 11] (fun v i wr => ∃ (k : Nat) (A' : Option Addr) (c' : Nat), k ≤ m ∧ i = .int .i64 k ∧ v = .slice A' k c' ∧ Own wr w.heap.size wr.heap.size (.slice A' k c') k (tab k fun i => gi l (gi os i).toNat) ∧ Below w.heap.size w wr) (fun _ i _ => m - (intOf i).toNat)
  case atStart => first | exact ⟨0, _, _, Nat.zero_le _, rfl, rfl, Own.none_ _ _ _, Below.refl _ _⟩ | exact ⟨0, _, _, Nat.zero_le _, rfl, rfl, by simpa [tab_zero] using Own_new0 w w.heap.size (Nat.le_refl _), (Below.refl _ _).alloc (Nat.le_refl _) _⟩
  case round =>
    obtain ⟨k, A', c', hk, rfl, rfl, hown, hbw⟩ := hrel
    by_cases hlt : k < m
    · have hsn : Hid (tab (k + 1) (fun i => gi l (gi os i).toNat) = tab k (fun i => gi l (gi os i).toNat) ++ [gi l (gi os k).toNat]) := Lib.hid (tab_snoc k _)
      obtain ⟨h0, h1⟩ := allB_gi hos (j := k) (by omega)
      obtain ⟨b, o, rfl, hbB, c1⟩ := hb.at_ hlt
      have e1 := (hbw.cell (p := ⟨b, o + k, none⟩) hbB).trans c1
      have hz := hbw.size
      generalize gi os k = X at *
      obtain ⟨a, rfl⟩ := Int.eq_ofNat_of_zero_le h0
      obtain ⟨b', o', rfl, hbB', c2⟩ := ha.at_ (k := a) (by omega)
      have e2 := (hbw.cell (p := ⟨b', o' + a, none⟩) hbB').trans c2
      have hlt2 : (a : Int) < n := by omega
      have hst : ((a : Int).toNat) = a := rfl
      rw [hst] at hsn
      clear ha hb c1 c2 hst
      generalize gi l a = Y at *
      have hownA := hown.alloc (.cells #[.int .i64 Y] 3)
      have hbA := hbw.alloc hz (.cells #[.int .i64 Y] 3)
      clear hown hbw
      go_wp2_with (at_builtin; refine wpList_app _ rfl _ _ rfl rfl hownA rfl (RI_one _ _ _ _ (by simp)) (by omega) (by first | omega | (simp; done) | (simp; omega)) ?_; intro A5 c5 w5 hown5 hg5 hat5)
      have hb5 := below_app hbA hownA hg5 (by simp; omega) (Nat.le_refl _)
      rw [← hsn.out] at hown5
      clear hbA hownA hg5 hat5
      go_wp2
      go_roundw
      case rel => exact ⟨k + 1, _, _, by omega, by go_num, rfl, hown5, hb5⟩
      case measure => simp [intOf]; omega
    · obtain rfl : k = m := by omega
      rw [← HP.out] at hown
      go_wp2
      go_ret
      exact RetI.mk_ (by rw [pick_len]; exact hlo) rfl hown hbw
end Go.Proofs.YtjjphaiomaiilaaGreat
namespace Go.Proofs.YtjjphaiomaiilaaGreat
open Go.RowKit
set_option linter.unusedVariables false
set_option linter.unusedSimpArgs false
theorem bor_nat {a b : Nat} (ha : a < 4611686018427387904) (hb : b < 4611686018427387904) : bits .or .i64 (a : Int) (b : Int) = ((a ||| b : Nat) : Int) := by
  have hx : a ||| b < 2 ^ 62 := Nat.or_lt_two_pow (by omega) (by omega)
  show IntKind.i64.wrap ((BitVec.ofInt 64 (a : Int) ||| BitVec.ofInt 64 (b : Int)).toNat : Int) = _
  rw [BitVec.toNat_or, ofInt_i64 (by omega), ofInt_i64 (by omega)]
  exact IntWalk.i64_in _ (by omega)
theorem or_place {a b i : Nat} (h : a < 2 ^ i) : a ||| (b * 2 ^ i) = a + b * 2 ^ i := by
  rw [Nat.or_comm, ← Nat.shiftLeft_eq, ← Nat.shiftLeft_add_eq_or_of_lt h, Nat.add_comm]
theorem bitsN_bd (n k : Nat) : allB 0 1 (bitsN n k) = true := allB_iff.2 fun x hx => by
  obtain ⟨j, _, rfl⟩ := mem_tab hx; omega
def numN : List Int → Int
  | [] => 0
  | b :: l => b + 2 * numN l
theorem numN_snoc (l : List Int) (b : Int) : numN (l ++ [b]) = numN l + b * 2 ^ l.length := by
  induction l with
  | nil => simp [numN]
  | cons c l ih =>
    simp only [List.cons_append, numN, ih, List.length_cons, Int.pow_succ]
    have : 2 * (b * 2 ^ l.length) = b * (2 ^ l.length * 2) := by rw [Int.mul_comm 2, Int.mul_assoc]
    omega
theorem numN_bd {l : List Int} (h : allB 0 1 l = true) : 0 ≤ numN l ∧ numN l < 2 ^ l.length := by
  induction l with
  | nil => simp [numN]
  | cons c l ih =>
    simp only [allB, List.all_cons, Bool.and_eq_true] at h
    have h1 := inB_iff.1 h.1
    obtain ⟨h2, h3⟩ := ih h.2
    simp only [numN, List.length_cons, Int.pow_succ]
    omega
theorem allB_take_ {lo hi : Int} {l : List Int} (h : allB lo hi l = true) (k : Nat) : allB lo hi (l.take k) = true := allB_iff.2 fun x hx => allB_iff.1 h x (List.mem_of_mem_take hx)
theorem allB_drop_ {lo hi : Int} {l : List Int} (h : allB lo hi l = true) (k : Nat) : allB lo hi (l.drop k) = true := allB_iff.2 fun x hx => allB_iff.1 h x (List.mem_of_mem_drop hx)
theorem pick_bd {lo hi : Int} {l os : List Int} (h : allB lo hi l = true) (ho : allB 0 (l.length - 1) os = true) : allB lo hi (pick l os) = true := allB_iff.2 fun x hx => by
  simp only [pick, List.mem_map] at hx
  obtain ⟨o, hm, rfl⟩ := hx
  have := allB_iff.1 ho o hm
  exact allB_gi h (by omega)
end Go.Proofs.YtjjphaiomaiilaaGreat
namespace Go.Proofs.YtjjphaiomaiilaaGreat
open Go.RowKit
set_option linter.unusedVariables false
set_option linter.unusedSimpArgs false
theorem or_shift {z x : Int} {i : Nat} (hz : 0 ≤ z ∧ z < 2 ^ i) (hx : 0 ≤ x ∧ x ≤ 1) (hi : i < 40) : bits .or .i64 z (wrap64 (x * 2 ^ i)) = z + x * 2 ^ i := by
  obtain ⟨Z, rfl⟩ := Int.eq_ofNat_of_zero_le hz.1
  obtain ⟨X, rfl⟩ := Int.eq_ofNat_of_zero_le hx.1
  have hX : X ≤ 1 := by omega
  have h1 : Z < 2 ^ i := by have := hz.2; exact_mod_cast this
  have h2 : 2 ^ i ≤ 2 ^ 40 := Nat.pow_le_pow_right (by omega) (by omega)
  have h3 : (2 : Nat) ^ 40 = 1099511627776 := by decide
  have h5 : X * 2 ^ i ≤ 1 * 2 ^ i := Nat.mul_le_mul_right _ hX
  have h4 : ((X : Int) * 2 ^ i) = ((X * 2 ^ i : Nat) : Int) := by rw [Int.natCast_mul, Int.natCast_pow]; rfl
  have h6 : wrap64 ((X : Int) * 2 ^ i) = ((X * 2 ^ i : Nat) : Int) := by rw [h4]; exact IntWalk.wrap64_in ((X * 2 ^ i : Nat) : Int) (by omega)
  rw [h6, h4, bor_nat (by omega) (by omega), or_place h1]; omega
theorem bnext {a b c : World} (h : Below a.heap.size a b) (k : Below b.heap.size b c) : Below a.heap.size a c := h.trans (k.mono h.size)
theorem number_any (A : Option Addr) (n c : Nat) (xs : List Int) (w : World) (ha : RI w A n xs) (hn : n ≤ 40) (hx : allB 0 1 xs = true) : Calls Tryz.prog 110 #[.slice A n c] w fun e w' => e = .returned (.int .i64 (numN xs)) ∧ w = w' := by
  have hl := ha.len
  have HB := Lib.hid fun i => numN_bd (allB_take_ hx i)
  go_enter Tryz.func110, Tryz.ntmps110
  go_wp2
  go_loop [3, 8] (fun v b => ∃ i : Nat, i ≤ n ∧ b = .int .i64 i ∧ v = .int .i64 (numN (xs.take i))) (fun _ b => n - (intOf b).toNat)
  case atStart => exact ⟨0, Nat.zero_le _, rfl, rfl⟩
  case round =>
    obtain ⟨i, hi, rfl, rfl⟩ := hrel
    by_cases hlt : i < n
    · obtain ⟨b, o, rfl, hbB, e1⟩ := ha.at_ (k := i) hlt
      clear ha
      obtain ⟨c1, c2⟩ := allB_gi hx (j := i) (by omega)
      obtain ⟨b1, b2⟩ := HB.out i
      have hs : Hid (numN (xs.take (i + 1)) = numN (xs.take i) + gi xs i * 2 ^ i) := Lib.hid (by
        rw [gi_take_snoc (by omega), numN_snoc, List.length_take, Nat.min_eq_left (by omega)])
      have hln : (xs.take i).length = i := by simp; omega
      rw [hln] at b2
      generalize numN (xs.take i) = z at *
      generalize gi xs i = x at *
      have hq : Hid (bits .or .i64 z (wrap64 (x * 2 ^ i)) = z + x * 2 ^ i) := Lib.hid (or_shift ⟨b1, b2⟩ ⟨c1, c2⟩ (by omega))
      clear b1 b2
      go_wp2
      go_round
      case rel => exact ⟨i + 1, by omega, by go_num, by rw [hs.out, hq.out]⟩
      case measure => simp [intOf]; omega
    · obtain rfl : i = n := by omega
      have ht : Hid (numN (xs.take i) = numN xs) := Lib.hid (by rw [List.take_of_length_le (by omega)])
      go_wp2
      go_ret
      exact ⟨by rw [← ht.out]; rfl, rfl⟩
set_option maxRecDepth 100000 in
set_option maxHeartbeats 800000 in
theorem ciOuts_any (x y : Int) (Ag : Option Addr) (ng cg : Nat) (Ao : Option Addr) (no co : Nat) (A : Option Addr) (n c : Nat) (gs : List G3) (os inp : List Int) (w : World) (hr : RG w Ag ng gs ∧ RI w Ao no os) (ha : RI w A n inp) (hi : allB 0 1 inp = true) (hgat : gatesB n gs ng = true) (hos : allB 0 (((n + ng : Nat) : Int) - 1) os = true) (hng : ng ≤ 300) (hno : no ≤ 40) (hn : n ≤ 40) :
    Calls Tryz.prog 77 #[.agg #[.int .i64 x, .int .i64 y, .slice Ag ng cg, .slice Ao no co], .slice A n c] w (RetI w (pick (vals gs inp ng) os)) := by
  have hB : Below w.heap.size w (w.alloc (.cells #[.int .i64 x, .int .i64 y, .slice Ag ng cg, .slice Ao no co] 46)) := (Below.refl _ _).alloc (Nat.le_refl _) _
  have hvl : Hid ((vals gs inp ng).length = n + ng) := Lib.hid (by rw [vals_len, ha.len])
  have hB1 := below_drewN hB 1
  go_enter Tryz.func77, Tryz.ntmps77
  go_wp2_with fail
  go_region_held3 (fun w' => w'.cell? ⟨w.heap.size, 0, none⟩ = some (.int .i64 x) ∧ w'.cell? ⟨w.heap.size, 1, none⟩ = some (.int .i64 y) ∧ w'.cell? ⟨w.heap.size, 2, none⟩ = some (.slice Ag ng cg) ∧ w'.cell? ⟨w.heap.size, 3, none⟩ = some (.slice Ao no co))
    (first | go_keep | (go_split_ands; exact ⟨cell_below (by assumption) hbP, cell_below (by assumption) hbP, cell_below (by assumption) hbP, cell_below (by assumption) hbP⟩) | (go_split_ands; exact ⟨cell_below (by assumption) hbV, cell_below (by assumption) hbV, cell_below (by assumption) hbV, cell_below (by assumption) hbV⟩) | ((try dsimp only); (repeat' apply And.intro) <;> go_keep))
    (first | (go_at_call 114; refine (ciValues_any x y Ag ng cg Ao no co A n c gs inp _ (hr.1.below hB1 (Nat.le_refl _)) (ha.below hB1 (Nat.le_refl _)) hi hgat (by omega) (by omega)).mono ?_; rintro e W3 hV; obtain ⟨AV, cV, rfl, hownV, hbV⟩ := hV.open_ hvl.out) | (go_at_call 113; refine (ciPick_any AV Ao (n + ng) cV no co (vals gs inp ng) os _ hownV.reads (hr.2.below (hB1.trans (hbV.mono hB1.size)) (Nat.le_refl _)) (by omega) (by omega) hos).mono ?_; rintro e W4 hP; obtain ⟨AP, cP, rfl, hownP, hbP⟩ := hP.open_ (pick_len _ _)))
  have hB2 := hB1.trans (hbV.mono hB1.size)
  go_wp2
  go_ret
  exact RetI.mk_ (pick_len _ _) rfl (hownP.lo_ hB2.size) (hB2.trans (hbP.mono hB2.size))
end Go.Proofs.YtjjphaiomaiilaaGreat
namespace Go.Proofs.YtjjphaiomaiilaaGreat
open Go.RowKit
set_option linter.unusedVariables false
set_option linter.unusedSimpArgs false
def sameB (xs ys : List Int) : Bool := decide (xs = ys)
theorem sameB_len {xs ys : List Int} (h : xs.length ≠ ys.length) : sameB xs ys = false := by
  simp only [sameB, decide_eq_false_iff_not]; intro hc; exact h (by rw [hc])
theorem sameB_at {xs ys : List Int} {k : Nat} (h : gi xs k ≠ gi ys k) : sameB xs ys = false := by
  simp only [sameB, decide_eq_false_iff_not]; intro hc; exact h (by rw [hc])
theorem sameB_all {xs ys : List Int} (h : xs.length = ys.length) (hg : ∀ j, j < xs.length → gi xs j = gi ys j) : sameB xs ys = true := by
  simp only [sameB, decide_eq_true_eq]; exact gi_eq h hg
set_option maxHeartbeats 400000 in
theorem l1Same_any (A B : Option Addr) (n c m d : Nat) (xs ys : List Int) (w : World) (ha : RI w A n xs) (hb : RI w B m ys) (hn : n ≤ 2097152) (hm : m ≤ 2097152) :
    Calls Tryz.prog 76 #[.slice A n c, .slice B m d] w fun e w' => e = .returned (.bool (sameB xs ys)) ∧ ∃ j, w' = w.drewN j := by
  have hl := ha.len
  have hm' := hb.len
  by_cases h0 : n = m
  · subst h0
    have hne : ((n : Int) != n) = false := by simp
    go_enter Tryz.func76, Tryz.ntmps76
    go_wp2
    go_loopw [13] (fun i wr => ∃ k j : Nat, k ≤ n ∧ i = .int .i64 k ∧ wr = w.drewN j ∧ Hid (∀ q, q < k → gi xs q = gi ys q)) (fun i _ => n - (intOf i).toNat)
    case atStart => exact ⟨0, 0, Nat.zero_le _, rfl, rfl, Lib.hid fun q hq => absurd hq (by omega)⟩
    case round =>
      obtain ⟨k, j, hk, rfl, rfl, hq⟩ := hrel
      by_cases hlt : k < n
      · obtain ⟨b, o, rfl, hbB, e1⟩ := ha.at_ hlt
        obtain ⟨b', o', rfl, hbB', e2⟩ := hb.at_ hlt
        by_cases h1 : gi xs k = gi ys k
        · have H1 := Lib.hid h1
          rw [← h1] at e2
          clear h1
          have hnx : (gi xs k != gi xs k) = false := by simp
          generalize hX : gi xs k = X at *
          clear ha hb
          go_wp2_with fail
          go_quiet (fail)
          go_wp2
          go_roundw
          case rel => exact ⟨k + 1, _, by omega, by go_num, by first | rfl | exact World.drewN_drewN _ _ _, Lib.hid fun q hq' => by
            rcases Nat.lt_or_ge q k with h | h
            · exact hq.out q h
            · obtain rfl : q = k := by omega
              exact hX.trans H1.out⟩
          case measure => simp [intOf]; omega
        · have H1 := Lib.hid h1
          have hnx : (gi xs k != gi ys k) = true := by simpa using h1
          clear h1
          have HR : Hid (sameB xs ys = false) := Lib.hid (sameB_at H1.out)
          generalize gi xs k = X at *
          generalize gi ys k = Y at *
          clear ha hb
          go_wp2_with fail
          go_quiet (fail)
          go_wp2
          go_ret
          exact ⟨by rw [HR.out]; rfl, _, by first | rfl | exact World.drewN_drewN _ _ _⟩
      · obtain rfl : k = n := by omega
        have HR : Hid (sameB xs ys = true) := Lib.hid (sameB_all (by omega) fun q hq' => hq.out q (by omega))
        go_wp2
        go_ret
        exact ⟨by rw [HR.out]; rfl, _, rfl⟩
  · have h1 : ((n : Int) != m) = true := by simp; omega
    have HR : Hid (sameB xs ys = false) := Lib.hid (sameB_len (by omega))
    go_enter Tryz.func76, Tryz.ntmps76
    go_wp2
    go_ret
    exact ⟨by rw [HR.out]; rfl, 0, rfl⟩
set_option maxHeartbeats 400000 in
theorem Equal_any (A B : Option Addr) (n c m d : Nat) (xs ys : List Int) (w : World) (ha : RI w A n xs) (hb : RI w B m ys) (hn : n ≤ 2097152) (hm : m ≤ 2097152) :
    Calls Tryz.prog 82 #[.slice A n c, .slice B m d] w fun e w' => e = .returned (.bool (sameB xs ys)) ∧ ∃ j, w' = w.drewN j := by
  have hl := ha.len
  have hm' := hb.len
  by_cases h0 : n = m
  · subst h0
    have hne : ((n : Int) != n) = false := by simp
    go_enter Tryz.func82, Tryz.ntmps82
    go_wp2
    go_loopw [13] (fun i wr => ∃ k j : Nat, k ≤ n ∧ i = .int .i64 k ∧ wr = w.drewN j ∧ Hid (∀ q, q < k → gi xs q = gi ys q)) (fun i _ => n - (intOf i).toNat)
    case atStart => exact ⟨0, 0, Nat.zero_le _, rfl, rfl, Lib.hid fun q hq => absurd hq (by omega)⟩
    case round =>
      obtain ⟨k, j, hk, rfl, rfl, hq⟩ := hrel
      by_cases hlt : k < n
      · obtain ⟨b, o, rfl, hbB, e1⟩ := ha.at_ hlt
        obtain ⟨b', o', rfl, hbB', e2⟩ := hb.at_ hlt
        by_cases h1 : gi xs k = gi ys k
        · have H1 := Lib.hid h1
          rw [← h1] at e2
          clear h1
          have hnx : (gi xs k != gi xs k) = false := by simp
          generalize hX : gi xs k = X at *
          clear ha hb
          go_wp2_with fail
          go_quiet (fail)
          go_wp2
          go_roundw
          case rel => exact ⟨k + 1, _, by omega, by go_num, by first | rfl | exact World.drewN_drewN _ _ _, Lib.hid fun q hq' => by
            rcases Nat.lt_or_ge q k with h | h
            · exact hq.out q h
            · obtain rfl : q = k := by omega
              exact hX.trans H1.out⟩
          case measure => simp [intOf]; omega
        · have H1 := Lib.hid h1
          have hnx : (gi xs k != gi ys k) = true := by simpa using h1
          clear h1
          have HR : Hid (sameB xs ys = false) := Lib.hid (sameB_at H1.out)
          generalize gi xs k = X at *
          generalize gi ys k = Y at *
          clear ha hb
          go_wp2_with fail
          go_quiet (fail)
          go_wp2
          go_ret
          exact ⟨by rw [HR.out]; rfl, _, by first | rfl | exact World.drewN_drewN _ _ _⟩
      · obtain rfl : k = n := by omega
        have HR : Hid (sameB xs ys = true) := Lib.hid (sameB_all (by omega) fun q hq' => hq.out q (by omega))
        go_wp2
        go_ret
        exact ⟨by rw [HR.out]; rfl, _, rfl⟩
  · have h1 : ((n : Int) != m) = true := by simp; omega
    have HR : Hid (sameB xs ys = false) := Lib.hid (sameB_len (by omega))
    go_enter Tryz.func82, Tryz.ntmps82
    go_wp2
    go_ret
    exact ⟨by rw [HR.out]; rfl, 0, rfl⟩
end Go.Proofs.YtjjphaiomaiilaaGreat
namespace Go.Proofs.YtjjphaiomaiilaaGreat
open Go.RowKit
set_option linter.unusedVariables false
set_option linter.unusedSimpArgs false
theorem OutWidths1_any (x : Ln) (P : Option Addr) (q : Nat) (w : World) :
    Calls Tryz.prog 107 #[lnV x P q] w fun e w' => e = .returned (.bool (decide (x.kind = 6))) ∧ Below w.heap.size w w' := by
  by_cases h : x.kind = 6
  · have HR : Hid (decide (x.kind = 6) = true) := Lib.hid (decide_eq_true h)
    have t : (x.kind == 6) = true := by simp [h]
    clear h
    go_enter Tryz.func107, Tryz.ntmps107
    go_wp2
    go_ret
    exact ⟨by rw [HR.out]; rfl, (Below.refl _ _).alloc (Nat.le_refl _) _⟩
  · have HR : Hid (decide (x.kind = 6) = false) := Lib.hid (decide_eq_false h)
    have t : (x.kind == 6) = false := by simp [h]
    clear h
    go_enter Tryz.func107, Tryz.ntmps107
    go_wp2
    go_ret
    exact ⟨by rw [HR.out]; rfl, (Below.refl _ _).alloc (Nat.le_refl _) _⟩
end Go.Proofs.YtjjphaiomaiilaaGreat
namespace Go.Proofs.YtjjphaiomaiilaaGreat
open Go.RowKit
set_option linter.unusedVariables false
set_option linter.unusedSimpArgs false
theorem outsL_bd {l : List Ln} (h : allW l) : ∀ z ∈ outsL l, 1 ≤ z ∧ z ≤ 10 := byK_all (fun k hk => wid_bd h hk) _ (Nat.le_refl _)
theorem byO_out (l : List Ln) : byO (fun x => decide (x.kind = 6)) l = if goodP l then some (outsL l) else none := rfl
def fitB (ws ns : List Int) : Bool := decide (ws.length = ns.length) && (List.range ws.length).all fun i => inB 0 (2 ^ (gi ws i).toNat - 1) (gi ns i)
theorem fitB_len {ws ns : List Int} (h : ¬ ws.length = ns.length) : fitB ws ns = false := by simp [fitB, h]
theorem fitB_bad {ws ns : List Int} {k : Nat} (hk : k < ws.length) (h : inB 0 (2 ^ (gi ws k).toNat - 1) (gi ns k) = false) : fitB ws ns = false := by
  cases hc : fitB ws ns with
  | false => rfl
  | true =>
    simp only [fitB, Bool.and_eq_true, List.all_eq_true, List.mem_range] at hc
    rw [hc.2 k hk] at h; cases h
theorem fitB_ok {ws ns : List Int} (hl : ws.length = ns.length) (h : ∀ k, k < ws.length → inB 0 (2 ^ (gi ws k).toNat - 1) (gi ns k) = true) : fitB ws ns = true := by
  simp only [fitB, Bool.and_eq_true, List.all_eq_true, List.mem_range, decide_eq_true_eq]
  exact ⟨hl, h⟩
theorem fitB_at {ws ns : List Int} (h : fitB ws ns = true) : ws.length = ns.length ∧ ∀ k, k < ws.length → 0 ≤ gi ns k ∧ gi ns k ≤ 2 ^ (gi ws k).toNat - 1 := by
  simp only [fitB, Bool.and_eq_true, List.all_eq_true, List.mem_range, decide_eq_true_eq] at h
  exact ⟨h.1, fun k hk => inB_iff.1 (h.2 k hk)⟩
end Go.Proofs.YtjjphaiomaiilaaGreat
namespace Go.Proofs.YtjjphaiomaiilaaGreat
open Go.RowKit
set_option linter.unusedVariables false
set_option linter.unusedSimpArgs false
theorem OutWidths_any (A : Option Addr) (n c : Nat) (l : List Ln) (w : World) (ha : RLn w A n l) (hn : n ≤ 2097152) (hcap : n ≤ c) (hsh : ∀ x ∈ l, shortL x) :
    Calls Tryz.prog 61 #[.slice A n c] w (RetO w (byO (fun x => decide (x.kind = 6)) l)) := by
  go_enter Tryz.func61, Tryz.ntmps61
  go_wp2_with fail
  refine (widthsBy_any 107 Tryz.call107 #[] (fun x => decide (x.kind = 6)) A n c l _ ha hn hcap hsh (Lib.hid fun x P q w1 _ => OutWidths1_any x P q w1)).mono ?_
  rintro e w1 ⟨A1, c1, rfl, hown, hb⟩
  go_wp2
  go_ret2
  exact ⟨A1, c1, rfl, hown, hb⟩
end Go.Proofs.YtjjphaiomaiilaaGreat
namespace Go.Proofs.YtjjphaiomaiilaaGreat
open Go.RowKit
set_option linter.unusedVariables false
set_option linter.unusedSimpArgs false
theorem os_byK {l : List Ln} (x y : Int) (h : allW l) : ∀ k, k ≤ l.length → ((cS l x y k).os.length : Int) = sumI (byK outP l (wids sW l) k) := by
  intro k
  induction k with
  | zero => intro _; rfl
  | succ k ih =>
    intro hk
    have hi := ih (by omega)
    have hv := (cS_inv x y h (k + 1) hk).wid k (by omega)
    have hw := (cS_inv x y h k (by omega)).ws
    have hr : (stepG l x y k (cS l x y k)).o = gl (cS l x y (k + 1)).ws k := by
      show _ = gl (stepC l (stepG l x y k (cS l x y k)) k (cS l x y k)).ws k
      simp only [stepC]
      rw [gl_snoc_eq hw]
    show ((stepC l (stepG l x y k (cS l x y k)) k (cS l x y k)).os.length : Int) = _
    rw [byK]
    by_cases h6 : (lx l k).kind = 6
    · simp only [stepC, if_pos h6, List.length_append]
      rw [if_pos (show outP (lx l k) = true by simp [outP, h6]), sumI_snoc, ← hi, hr, ← hv.1]
      omega
    · simp only [stepC, if_neg h6]
      rw [if_neg (by simp [outP, h6]), ← hi]
theorem coB_os {l : List Ln} (h : goodP l) : ((cc l).os.length : Int) = sumI (outsL l) := os_byK _ _ h.2.1 _ (Nat.le_refl _)
def offs (ws : List Int) (k : Nat) : Nat := (sumI (ws.take k)).toNat
theorem offs_zero (ws : List Int) : offs ws 0 = 0 := rfl
theorem offs_succ {ws : List Int} {k : Nat} (h : ∀ z ∈ ws, 1 ≤ z ∧ z ≤ 10) (hk : k < ws.length) : offs ws (k + 1) = offs ws k + (gi ws k).toNat := by
  unfold offs
  have h1 := (sumI_le (M := 10) (fun z hz => by have := h z hz; omega) k (by omega)).1
  have h2 := h _ (gi_mem hk)
  rw [sumI_snoc2 hk]; omega
theorem offs_le {ws : List Int} (h : ∀ z ∈ ws, 1 ≤ z ∧ z ≤ 10) {k m : Nat} (hk : k ≤ m) (hm : m ≤ ws.length) : offs ws k ≤ offs ws m := by
  induction m with
  | zero => obtain rfl : k = 0 := by omega
            exact Nat.le_refl _
  | succ m ih =>
    rcases Nat.lt_or_ge k (m + 1) with h1 | h1
    · have := ih (by omega) (by omega); rw [offs_succ h (by omega)]; omega
    · obtain rfl : k = m + 1 := by omega
      exact Nat.le_refl _
theorem offs_all {ws : List Int} (h : ∀ z ∈ ws, 1 ≤ z ∧ z ≤ 10) : (offs ws ws.length : Int) = sumI ws := by
  unfold offs
  have h1 := (sumI_le (M := 10) (fun z hz => by have := h z hz; omega) ws.length (Nat.le_refl _)).1
  rw [List.take_of_length_le (Nat.le_refl _)] at *
  omega
def numK (ws bits : List Int) (k : Nat) : List Int := tab k fun i => numN ((bits.drop (offs ws i)).take (gi ws i).toNat)
theorem numK_len (ws bits : List Int) (k : Nat) : (numK ws bits k).length = k := tab_len _ _
theorem numK_snoc (ws bits : List Int) (k : Nat) : numK ws bits (k + 1) = numK ws bits k ++ [numN ((bits.drop (offs ws k)).take (gi ws k).toNat)] := tab_snoc _ _
def bitsK (ws ns : List Int) : Nat → List Int
  | 0 => []
  | k + 1 => bitsK ws ns k ++ bitsN (gi ns k).toNat (gi ws k).toNat
theorem bitsK_len {ws : List Int} (h : ∀ z ∈ ws, 1 ≤ z ∧ z ≤ 10) (ns : List Int) : ∀ k, k ≤ ws.length → (bitsK ws ns k).length = offs ws k := by
  intro k
  induction k with
  | zero => intro _; rfl
  | succ k ih => intro hk; rw [bitsK, List.length_append, ih (by omega), bitsN_len, offs_succ h (by omega)]
theorem bitsK_bd (ws ns : List Int) : ∀ k, allB 0 1 (bitsK ws ns k) = true := by
  intro k
  induction k with
  | zero => rfl
  | succ k ih =>
    rw [bitsK]
    exact allB_iff.2 fun z hz => by
      rcases List.mem_append.1 hz with hz | hz
      · exact allB_iff.1 ih z hz
      · exact allB_iff.1 (bitsN_bd _ _) z hz
theorem bitsN_cons (n k : Nat) : bitsN n (k + 1) = ((n % 2 : Nat) : Int) :: bitsN (n / 2) k := by
  unfold bitsN tab
  rw [List.range_succ_eq_map, List.map_cons, List.map_map]
  congr 1
  · simp
  · refine List.map_congr_left fun i _ => ?_
    show ((n / 2 ^ (i + 1) % 2 : Nat) : Int) = ((n / 2 / 2 ^ i % 2 : Nat) : Int)
    rw [Nat.div_div_eq_div_mul, Nat.pow_succ, Nat.mul_comm]
theorem numN_bitsN (n k : Nat) (h : n < 2 ^ k) : numN (bitsN n k) = n := by
  induction k generalizing n with
  | zero => simp at h; subst h; rfl
  | succ k ih =>
    rw [bitsN_cons, numN, ih (n / 2) (by rw [Nat.pow_succ] at h; omega)]
    omega
theorem bitsN_numN {xs : List Int} (h : allB 0 1 xs = true) : bitsN (numN xs).toNat xs.length = xs := by
  induction xs with
  | nil => rfl
  | cons b l ih =>
    have h1 := allB_iff.1 h
    have hb := h1 b (by simp)
    have hl : allB 0 1 l = true := allB_iff.2 fun z hz => h1 z (by simp [hz])
    have hn := (numN_bd hl).1
    rw [List.length_cons, bitsN_cons, numN]
    have e1 : (b + 2 * numN l).toNat / 2 = (numN l).toNat := by omega
    rw [e1, ih hl]
    congr 1
    omega
theorem num_bits {ws ns bits : List Int} (hw : ∀ z ∈ ws, 1 ≤ z ∧ z ≤ 10) (hl : ws.length = ns.length) (hf : ∀ k, k < ws.length → 0 ≤ gi ns k ∧ gi ns k ≤ 2 ^ (gi ws k).toNat - 1) (hb : allB 0 1 bits = true) (hs : bits.length = offs ws ws.length) :
    numK ws bits ws.length = ns ↔ bits = bitsK ws ns ws.length := by
  constructor
  · intro he
    have key : ∀ k, k ≤ ws.length → bits.take (offs ws k) = bitsK ws ns k := by
      intro k
      induction k with
      | zero => intro _; rfl
      | succ k ih =>
        intro hk
        have h1 := offs_succ hw (by omega : k < ws.length)
        have h2 := offs_le hw (by omega : k + 1 ≤ ws.length) (Nat.le_refl _)
        have hg : gi ns k = numN ((bits.drop (offs ws k)).take (gi ws k).toNat) := by rw [← he]; exact gi_tab (by omega)
        have hlen : ((bits.drop (offs ws k)).take (gi ws k).toNat).length = (gi ws k).toNat := by simp; omega
        rw [bitsK, h1, List.take_add, ih (by omega), hg]
        congr 1
        have := bitsN_numN (xs := (bits.drop (offs ws k)).take (gi ws k).toNat) (allB_iff.2 fun z hz => allB_iff.1 hb z (List.mem_of_mem_drop (List.mem_of_mem_take hz)))
        rw [hlen] at this
        exact this.symm
    have := key ws.length (Nat.le_refl _)
    rwa [← hs, List.take_of_length_le (Nat.le_refl _)] at this
  · rintro rfl
    refine gi_eq (by rw [numK_len]; exact hl) fun j hj => ?_
    rw [numK_len] at hj
    have key : ∀ m, m ≤ ws.length → j < m → ((bitsK ws ns m).drop (offs ws j)).take (gi ws j).toNat = bitsN (gi ns j).toNat (gi ws j).toNat := by
      intro m
      induction m with
      | zero => intro _ h; omega
      | succ m ih =>
        intro hm hjm
        have hlm := bitsK_len hw ns m (by omega)
        rcases Nat.lt_or_ge j m with h1 | h1
        · have h2 := offs_succ hw (by omega : j < ws.length)
          have h3 := offs_le hw (by omega : j + 1 ≤ m) (by omega)
          rw [bitsK, List.drop_append_of_le_length (by omega), List.take_append_of_le_length (by simp; omega)]
          exact ih (by omega) h1
        · obtain rfl : j = m := by omega
          rw [bitsK, ← hlm, List.drop_left, List.take_of_length_le (by rw [bitsN_len]; exact Nat.le_refl _)]
    have hfj := hf j hj
    rw [show gi (numK ws (bitsK ws ns ws.length) ws.length) j = numN (((bitsK ws ns ws.length).drop (offs ws j)).take (gi ws j).toNat) from gi_tab hj, key _ (Nat.le_refl _) hj, numN_bitsN]
    · omega
    · have e : ((2 ^ (gi ws j).toNat : Nat) : Int) = (2 : Int) ^ (gi ws j).toNat := by rw [Int.natCast_pow]; rfl
      have h2 : ((gi ns j).toNat : Int) < ((2 ^ (gi ws j).toNat : Nat) : Int) := by rw [e]; omega
      exact Int.ofNat_lt.1 h2
def candK (p : Nat → Bool) : Nat → List Int
  | 0 => []
  | k + 1 => if p k = true then candK p k ++ [(k : Int)] else candK p k
theorem candK_len (p : Nat → Bool) (k : Nat) : (candK p k).length ≤ k := by
  induction k with
  | zero => simp [candK]
  | succ k ih =>
    rw [candK]
    split
    · simp; omega
    · omega
end Go.Proofs.YtjjphaiomaiilaaGreat
namespace Go.Proofs.YtjjphaiomaiilaaGreat
open Go.RowKit
set_option linter.unusedVariables false
set_option linter.unusedSimpArgs false
set_option maxHeartbeats 1600000 in
theorem laFit_any (A B : Option Addr) (n c m d : Nat) (ws ns : List Int) (w : World) (ha : RI w A n ws) (hb : RI w B m ns) (hn : n ≤ 2097152) (hm : m ≤ 2097152) (hw : ∀ z ∈ ws, 1 ≤ z ∧ z ≤ 10) :
    Calls Tryz.prog 66 #[.slice A n c, .slice B m d] w fun e w' => e = .returned (.bool (fitB ws ns)) ∧ w = w' := by
  have hl := ha.len
  have hl2 := hb.len
  by_cases hnm : n = m
  rotate_left
  · have HR : Hid (fitB ws ns = false) := Lib.hid (fitB_len (by omega))
    have t1 : ((n : Int) != m) = true := by simp; omega
    have t2 : ((m : Int) != n) = true := by simp; omega
    go_enter Tryz.func66, Tryz.ntmps66
    go_wp2
    go_ret
    exact ⟨by rw [HR.out]; rfl, rfl⟩
  subst hnm
  have t1 : ((n : Int) != n) = false := by simp
  go_enter Tryz.func66, Tryz.ntmps66
  go_wp2
  go_loopw [14] (fun i wr => ∃ (k : Nat), k ≤ n ∧ i = .int .i64 k ∧ Hid (∀ j, j < k → inB 0 (2 ^ (gi ws j).toNat - 1) (gi ns j) = true) ∧ w = wr) (fun i _ => n - (intOf i).toNat)
  case atStart => exact ⟨0, Nat.zero_le _, rfl, Lib.hid fun j hj => by omega, rfl⟩
  case round =>
    obtain ⟨k, hk, rfl, hall, rfl⟩ := hrel
    by_cases hlt : k < n
    · obtain ⟨ab, ao, rfl, hab, ca⟩ := ha.at_ hlt
      obtain ⟨bb, bo, rfl, hbb, cb⟩ := hb.at_ hlt
      have hz := hw _ (gi_mem (xs := ws) (j := k) (by omega))
      have hbad : Hid (inB 0 (2 ^ (gi ws k).toNat - 1) (gi ns k) = false → fitB ws ns = false) := Lib.hid (fitB_bad (by omega))
      obtain ⟨X, hX⟩ := Int.eq_ofNat_of_zero_le (show 0 ≤ gi ws k by omega)
      have hgk : Hid (inB 0 (2 ^ (gi ws k).toNat - 1) (gi ns k) = inB 0 (2 ^ X - 1) (gi ns k)) := Lib.hid (by rw [hX]; rfl)
      rw [hX] at ca hz
      have hX10 : X ≤ 10 := by omega
      obtain ⟨N2, hN⟩ : ∃ N2, Hid (N2 = 2 ^ X) := ⟨_, Lib.hid rfl⟩
      have hN2 : Hid ((2 : Int) ^ X = (N2 : Int)) := Lib.hid (by rw [hN.out, Int.natCast_pow]; rfl)
      have hNb := (pow_wrap hN.out hX10).1
      have hXt : Hid (((X : Nat) : Int).toNat = X) := Lib.hid (by omega)
      rw [hgk.out] at hbad
      obtain ⟨v, hv⟩ : ∃ v, Hid (gi ns k = v) := ⟨_, Lib.hid rfl⟩
      rw [hv.out] at cb hbad hgk
      rw [hN2.out] at hbad hgk
      clear hX hw ha hb hN
      cases hG : inB 0 ((N2 : Int) - 1) v with
      | false =>
        have HG := Lib.hid hG
        have HR : Hid (fitB ws ns = false) := Lib.hid (hbad.out hG)
        have hs := hN2.out
        have hs2 := hXt.out
        clear hG
        go_wp2_with fail
        refine (l1In_any v 0 ((N2 : Int) - 1) false HG.out _).mono ?_
        rintro e w6 ⟨rfl, rfl⟩
        clear hs hs2
        go_wp2
        go_ret
        exact ⟨by rw [HR.out]; rfl, rfl⟩
      | true =>
        have HG := Lib.hid hG
        have hs := hN2.out
        have hs2 := hXt.out
        clear hG
        go_wp2_with fail
        refine (l1In_any v 0 ((N2 : Int) - 1) true HG.out _).mono ?_
        rintro e w6 ⟨rfl, rfl⟩
        clear hs hs2
        have hall2 : Hid (∀ j, j < k + 1 → inB 0 (2 ^ (gi ws j).toNat - 1) (gi ns j) = true) := Lib.hid (fun j hj => by
          rcases Nat.lt_or_ge j k with h1 | h1
          · exact hall.out j h1
          · obtain rfl : j = k := by omega
            have := hgk.out; rw [hv.out]; rw [this]; exact HG.out)
        go_wp2
        go_roundw
        case rel => exact ⟨k + 1, by omega, by go_num, hall2, by trivial⟩
        case measure => simp [intOf]; omega
    · obtain rfl : n = k := Nat.le_antisymm (Nat.le_of_not_lt hlt) hk
      have HR : Hid (fitB ws ns = true) := Lib.hid (fitB_ok (by omega) (fun j hj => hall.out j (by omega)))
      go_wp2
      go_ret
      exact ⟨by rw [HR.out]; rfl, rfl⟩
set_option maxHeartbeats 1600000 in
theorem fitWidths_any (A B : Option Addr) (n c m d : Nat) (ws ns : List Int) (w : World) (ha : RI w A n ws) (hb : RI w B m ns) (hn : n ≤ 2097152) (hm : m ≤ 2097152) (hw : ∀ z ∈ ws, 1 ≤ z ∧ z ≤ 10) :
    Calls Tryz.prog 70 #[.slice B m d, .slice A n c] w fun e w' => e = .returned (.bool (fitB ws ns)) ∧ w = w' := by
  have hl := ha.len
  have hl2 := hb.len
  by_cases hnm : n = m
  rotate_left
  · have HR : Hid (fitB ws ns = false) := Lib.hid (fitB_len (by omega))
    have t1 : ((n : Int) != m) = true := by simp; omega
    have t2 : ((m : Int) != n) = true := by simp; omega
    go_enter Tryz.func70, Tryz.ntmps70
    go_wp2
    go_ret
    exact ⟨by rw [HR.out]; rfl, rfl⟩
  subst hnm
  have t1 : ((n : Int) != n) = false := by simp
  go_enter Tryz.func70, Tryz.ntmps70
  go_wp2
  go_loopw [14] (fun i wr => ∃ (k : Nat), k ≤ n ∧ i = .int .i64 k ∧ Hid (∀ j, j < k → inB 0 (2 ^ (gi ws j).toNat - 1) (gi ns j) = true) ∧ w = wr) (fun i _ => n - (intOf i).toNat)
  case atStart => exact ⟨0, Nat.zero_le _, rfl, Lib.hid fun j hj => by omega, rfl⟩
  case round =>
    obtain ⟨k, hk, rfl, hall, rfl⟩ := hrel
    by_cases hlt : k < n
    · obtain ⟨ab, ao, rfl, hab, ca⟩ := ha.at_ hlt
      obtain ⟨bb, bo, rfl, hbb, cb⟩ := hb.at_ hlt
      have hz := hw _ (gi_mem (xs := ws) (j := k) (by omega))
      have hbad : Hid (inB 0 (2 ^ (gi ws k).toNat - 1) (gi ns k) = false → fitB ws ns = false) := Lib.hid (fitB_bad (by omega))
      obtain ⟨X, hX⟩ := Int.eq_ofNat_of_zero_le (show 0 ≤ gi ws k by omega)
      have hgk : Hid (inB 0 (2 ^ (gi ws k).toNat - 1) (gi ns k) = inB 0 (2 ^ X - 1) (gi ns k)) := Lib.hid (by rw [hX]; rfl)
      rw [hX] at ca hz
      have hX10 : X ≤ 10 := by omega
      obtain ⟨N2, hN⟩ : ∃ N2, Hid (N2 = 2 ^ X) := ⟨_, Lib.hid rfl⟩
      have hN2 : Hid ((2 : Int) ^ X = (N2 : Int)) := Lib.hid (by rw [hN.out, Int.natCast_pow]; rfl)
      have hNb := (pow_wrap hN.out hX10).1
      have hXt : Hid (((X : Nat) : Int).toNat = X) := Lib.hid (by omega)
      rw [hgk.out] at hbad
      obtain ⟨v, hv⟩ : ∃ v, Hid (gi ns k = v) := ⟨_, Lib.hid rfl⟩
      rw [hv.out] at cb hbad hgk
      rw [hN2.out] at hbad hgk
      clear hX hw ha hb hN
      cases hG : inB 0 ((N2 : Int) - 1) v with
      | false =>
        have HG := Lib.hid hG
        have HR : Hid (fitB ws ns = false) := Lib.hid (hbad.out hG)
        have hs := hN2.out
        have hs2 := hXt.out
        clear hG
        go_wp2_with fail
        refine (within_any v 0 ((N2 : Int) - 1) false HG.out _).mono ?_
        rintro e w6 ⟨rfl, rfl⟩
        clear hs hs2
        go_wp2
        go_ret
        exact ⟨by rw [HR.out]; rfl, rfl⟩
      | true =>
        have HG := Lib.hid hG
        have hs := hN2.out
        have hs2 := hXt.out
        clear hG
        go_wp2_with fail
        refine (within_any v 0 ((N2 : Int) - 1) true HG.out _).mono ?_
        rintro e w6 ⟨rfl, rfl⟩
        clear hs hs2
        have hall2 : Hid (∀ j, j < k + 1 → inB 0 (2 ^ (gi ws j).toNat - 1) (gi ns j) = true) := Lib.hid (fun j hj => by
          rcases Nat.lt_or_ge j k with h1 | h1
          · exact hall.out j h1
          · obtain rfl : j = k := by omega
            have := hgk.out; rw [hv.out]; rw [this]; exact HG.out)
        go_wp2
        go_roundw
        case rel => exact ⟨k + 1, by omega, by go_num, hall2, by trivial⟩
        case measure => simp [intOf]; omega
    · obtain rfl : n = k := Nat.le_antisymm (Nat.le_of_not_lt hlt) hk
      have HR : Hid (fitB ws ns = true) := Lib.hid (fitB_ok (by omega) (fun j hj => hall.out j (by omega)))
      go_wp2
      go_ret
      exact ⟨by rw [HR.out]; rfl, rfl⟩
end Go.Proofs.YtjjphaiomaiilaaGreat
