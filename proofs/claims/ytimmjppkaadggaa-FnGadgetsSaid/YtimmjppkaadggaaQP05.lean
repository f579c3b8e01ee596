/- Plain functions: the values of a circuit's wires, of an arithmetic circuit's wires, places of a list; carrying what is read from world to world. No condition. Contracts of copies of lists and of the keyed digest. Lengths up to 2^21, numbers up to 2^40. Contracts of the values of a circuit's wires, of an arithmetic circuit's wires, and of the elements of a list at places. -/
import Derived.Test.YtimmjppkaadggaaQP02
import Derived.Test.YtimmjppkaadggaaQP03
import Derived.Test.YtimmjppkaadggaaQP01
import Derived.StillTailTactics
namespace Go.Proofs.Ytimmjppkaadggaa
open Go.RowKit
set_option linter.unusedVariables false
set_option linter.unusedSimpArgs false
theorem cell_on {w w' : World} {B : Nat} {p : Addr} {v : Value} (hb : Below B w w') (h : w.cell? p = some v) (hB : w.heap.size ≤ B) : w'.cell? p = some v :=
  (hb.cell (Nat.lt_of_lt_of_le (World.block_lt_of_cell? w _ h) hB)).trans h
theorem cell_below {w w' : World} {p : Addr} {v : Value} (h : w.cell? p = some v) (hb : Below w.heap.size w w') : w'.cell? p = some v := cell_on hb h (Nat.le_refl _)
theorem RI_one (w : World) (x : Int) (t : TypeId) (g : Nat) (hg : w.heap.size = g) : RI (w.alloc (.cells #[.int .i64 x] t)) (some ⟨g, 0, none⟩) 1 [x] := by
  subst hg; exact RI_new1 w x t
theorem gi_append_lt {xs ys : List Int} {j : Nat} (h : j < xs.length) : gi (xs ++ ys) j = gi xs j := by
  unfold gi; rw [List.getD_eq_getElem?_getD, List.getD_eq_getElem?_getD, List.getElem?_append_left h]
theorem gi_append_at {xs : List Int} {x : Int} : gi (xs ++ [x]) xs.length = x := by
  unfold gi; rw [List.getD_eq_getElem?_getD, List.getElem?_append_right (Nat.le_refl _)]; simp
theorem allB_append {lo hi : Int} {xs ys : List Int} : allB lo hi (xs ++ ys) = (allB lo hi xs && allB lo hi ys) := by simp [allB]
theorem allB_snoc {lo hi x : Int} {xs : List Int} (h : allB lo hi xs = true) (hx : lo ≤ x ∧ x ≤ hi) : allB lo hi (xs ++ [x]) = true := by
  rw [allB_append, h]; simp [allB, inB_t hx]
def band (a b : Int) : Int := bits .and .i64 a b
theorem band_bit {a b : Int} (ha : 0 ≤ a ∧ a ≤ 1) (hb : 0 ≤ b ∧ b ≤ 1) : band a b = a * b := by
  rcases (show a = 0 ∨ a = 1 by omega) with rfl | rfl <;> rcases (show b = 0 ∨ b = 1 by omega) with rfl | rfl <;> decide
theorem band_bd {a b : Int} (ha : 0 ≤ a ∧ a ≤ 1) (hb : 0 ≤ b ∧ b ≤ 1) : 0 ≤ band a b ∧ band a b ≤ 1 := by
  rcases (show a = 0 ∨ a = 1 by omega) with rfl | rfl <;> rcases (show b = 0 ∨ b = 1 by omega) with rfl | rfl <;> decide
inductive GateIs (g : G3) (n : Int) : Prop where
  | xor_ : g.k = 0 → 0 ≤ g.a → g.a < n → 0 ≤ g.b → g.b < n → GateIs g n
  | and_ : g.k = 1 → 0 ≤ g.a → g.a < n → 0 ≤ g.b → g.b < n → GateIs g n
  | not_ : g.k = 2 → 0 ≤ g.a → g.a < n → g.b = 0 → GateIs g n
  | one_ : g.k = 3 → g.a = 0 → g.b = 0 → GateIs g n
theorem gateB_is {g : G3} {n : Int} (h : gateB g n = true) : GateIs g n := by
  unfold gateB at h
  split at h
  · rename_i hk
    simp only [Bool.and_eq_true, inB_iff] at h
    rcases hk with hk | hk
    · exact .xor_ hk (by omega) (by omega) (by omega) (by omega)
    · exact .and_ hk (by omega) (by omega) (by omega) (by omega)
  · split at h
    · rename_i hk
      simp only [Bool.and_eq_true, inB_iff, decide_eq_true_eq] at h
      exact .not_ hk (by omega) (by omega) h.2
    · simp only [Bool.and_eq_true, decide_eq_true_eq] at h
      exact .one_ h.1 h.2.1 h.2.2
theorem gatesB_at {n : Int} {gs : List G3} {k m : Nat} (h : gatesB n gs m = true) (hk : k < m) : GateIs (gg gs k) (n + k) :=
  gateB_is (List.all_eq_true.1 h k (List.mem_range.2 hk))
theorem circB_bd {x y : Int} {gs : List G3} {os : List Int} (h : circB x y gs os = true) :
    (0 ≤ x ∧ x ≤ 20) ∧ (0 ≤ y ∧ y ≤ 20) ∧ gs.length ≤ 300 ∧ os.length ≤ 40 ∧ gatesB (x + y) gs gs.length = true ∧ allB 0 (x + y + gs.length - 1) os = true := by
  simp only [circB, Bool.and_eq_true, inB_iff, decide_eq_true_eq] at h
  exact ⟨h.1, h.2.1, h.2.2.1, h.2.2.2.1, h.2.2.2.2.1, h.2.2.2.2.2⟩
def gval (g : G3) (out : List Int) : Int :=
  if g.k = 0 then bxor (gi out g.a.toNat) (gi out g.b.toNat) else if g.k = 1 then band (gi out g.a.toNat) (gi out g.b.toNat) else if g.k = 2 then 1 - gi out g.a.toNat else 1
def vals (gs : List G3) (inp : List Int) : Nat → List Int
  | 0 => inp
  | k + 1 => vals gs inp k ++ [gval (gg gs k) (vals gs inp k)]
theorem vals_len (gs : List G3) (inp : List Int) (k : Nat) : (vals gs inp k).length = inp.length + k := by
  induction k with
  | zero => rfl
  | succ k ih => simp [vals, ih]; omega
theorem vals_succ (gs : List G3) (inp : List Int) (k : Nat) : vals gs inp (k + 1) = vals gs inp k ++ [gval (gg gs k) (vals gs inp k)] := rfl
theorem gval_bd {g : G3} {n : Nat} {out : List Int} (h : GateIs g n) (hn : out.length = n) (ho : allB 0 1 out = true) : 0 ≤ gval g out ∧ gval g out ≤ 1 := by
  cases h with
  | xor_ hk a1 a2 b1 b2 =>
    rw [gval, if_pos hk]
    exact bxor_bd (allB_gi ho (by omega)) (allB_gi ho (by omega))
  | and_ hk a1 a2 b1 b2 =>
    rw [gval, if_neg (by omega), if_pos hk]
    exact band_bd (allB_gi ho (by omega)) (allB_gi ho (by omega))
  | not_ hk a1 a2 b1 =>
    rw [gval, if_neg (by omega), if_neg (by omega), if_pos hk]
    have := allB_gi ho (j := g.a.toNat) (by omega)
    omega
  | one_ hk a1 b1 =>
    rw [gval, if_neg (by omega), if_neg (by omega), if_neg (by omega)]
    omega
theorem vals_bd {gs : List G3} {inp : List Int} {n : Int} (hn : (inp.length : Int) = n) (hi : allB 0 1 inp = true) : ∀ k m, k ≤ m → gatesB n gs m = true → allB 0 1 (vals gs inp k) = true := by
  intro k
  induction k with
  | zero => intro m _ _; exact hi
  | succ k ih =>
    intro m hk hg
    have h1 := ih m (by omega) hg
    rw [vals_succ]
    refine allB_snoc h1 (gval_bd (n := inp.length + k) ?_ (vals_len _ _ _) h1)
    have := gatesB_at hg (k := k) (by omega)
    rwa [← hn, show ((inp.length : Int) + k) = ((inp.length + k : Nat) : Int) from by omega] at this
def pick (l os : List Int) : List Int := os.map fun o => gi l o.toNat
theorem pick_len (l os : List Int) : (pick l os).length = os.length := by simp [pick]
theorem gi_map {os : List Int} {f : Int → Int} {k : Nat} (h : k < os.length) : gi (os.map f) k = f (gi os k) := by simp [gi, h]
theorem pick_tab {l os : List Int} {n : Nat} (h : os.length = n) : pick l os = tab n fun i => gi l (gi os i).toNat := by
  subst h
  exact gi_eq (by simp [pick, tab_len]) fun j hj => by
    have hj' : j < os.length := by simpa [pick] using hj
    rw [pick, gi_map hj', gi_tab hj']
def dstep (a x : Int) : Int := ((25214 * a + x + 17) % 1000003) * (((25214 * a + x + 17) % 1000003) / 64 + 5) % 1000003
def dfold (a : Int) (l : List Int) : Int := l.foldl dstep a
def dg (l : List Int) : Int := dfold (40503 + l.length) (l ++ [8, 1]) % 65536
theorem Clone_any (A : Option Addr) (n c : Nat) (xs : List Int) (w : World) (ha : RI w A n xs) (hn : n ≤ 2097152) :
    Calls Try.prog 65 #[.slice A n c] w fun e w' => ∃ A' c', e = .returned (.slice A' n c') ∧ Own w' w.heap.size w'.heap.size (.slice A' n c') n xs ∧ Below w.heap.size w w' := by
  have hl := ha.len
  rcases A with _ | ad
  · have h0 : n = 0 := by
      rcases Nat.eq_zero_or_pos n with h | h
      · exact h
      · obtain ⟨b, o, h', _⟩ := ha.2 h
        cases h'
    subst h0
    obtain rfl : xs = [] := List.eq_nil_of_length_eq_zero hl
    have he := fun W => Lib.run_eql_slice_nil (P := Try.prog) W (t := 25) (e := 3) none 0 c 0 0 Try.underlying25
    go_enter Try.func65, Try.ntmps65
    go_wp2
    go_ret
    exact ⟨_, _, rfl, Own.none_ _ _ _, Below.refl _ _⟩
  · have he := fun W => Lib.run_eql_slice_nil (P := Try.prog) W (t := 25) (e := 3) (some ad) n c 0 0 Try.underlying25
    have hB : Below w.heap.size w (w.alloc (.cells #[] 3)) := (Below.refl _ _).alloc (Nat.le_refl _) _
    have h0 := Own_new0 w w.heap.size (Nat.le_refl _)
    go_enter Try.func65, Try.ntmps65
    go_wp2_with (at_builtin; refine wpList_app _ rfl _ _ rfl rfl h0 rfl (ha.alloc _) (by omega) (by simp) ?_; intro A' c' w1 hown hg hat)
    simp only [Nat.zero_add, List.nil_append] at hown
    go_wp2
    go_ret
    exact ⟨_, _, by simp, hown, below_app hB h0 hg (by simp) (Nat.le_refl _)⟩
theorem l1Own_any (A : Option Addr) (n c : Nat) (xs : List Int) (w : World) (ha : RI w A n xs) (hn : n ≤ 2097152) :
    Calls Try.prog 71 #[.slice A n c] w fun e w' => ∃ A' c', e = .returned (.slice A' n c') ∧ Own w' w.heap.size w'.heap.size (.slice A' n c') n xs ∧ Below w.heap.size w w' := by
  have hl := ha.len
  have hB : Below w.heap.size w (w.alloc (.cells #[] 3)) := (Below.refl _ _).alloc (Nat.le_refl _) _
  have h0 := Own_new0 w w.heap.size (Nat.le_refl _)
  go_enter Try.func71, Try.ntmps71
  go_wp2_with (at_builtin; refine wpList_app _ rfl _ _ rfl rfl h0 rfl (ha.alloc _) (by omega) (by simp) ?_; intro A' c' w1 hown hg hat)
  simp only [Nat.zero_add, List.nil_append] at hown
  go_wp2
  go_ret
  exact ⟨_, _, by simp, hown, below_app hB h0 hg (by simp) (Nat.le_refl _)⟩
theorem with_any (A B : Option Addr) (n c m d : Nat) (xs ys : List Int) (w : World) (ha : RI w A n xs) (hb : RI w B m ys) (hn : n ≤ 2097152) (hm : m ≤ 2097152) :
    Calls Try.prog 31 #[.slice A n c, .slice B m d] w fun e w' => ∃ A' c', e = .returned (.slice A' (n + m) c') ∧ Own w' w.heap.size w'.heap.size (.slice A' (n + m) c') (n + m) (xs ++ ys) ∧ Below w.heap.size w w' := by
  have hl := ha.len
  go_enter Try.func31, Try.ntmps31
  go_wp2_with fail
  refine (Clone_any _ _ _ _ _ ha hn).mono ?_
  rintro e w1 ⟨A1, c1, rfl, hown1, hb1⟩
  have hz := hb1.size
  go_wp2_with (at_builtin; refine wpList_app _ rfl _ _ rfl rfl hown1 rfl (hb.below hb1 (Nat.le_refl _)) (by omega) hz ?_; intro A' c' w2 hown hg hat)
  go_wp2
  go_ret
  exact ⟨_, _, rfl, hown, below_app hb1 hown1 hg hz (Nat.le_refl _)⟩
set_option maxRecDepth 100000 in
set_option maxHeartbeats 4000000 in
theorem ciValues_any (x y : Int) (Ag : Option Addr) (ng cg : Nat) (Ao : Option Addr) (no co : Nat) (A : Option Addr) (n c : Nat) (gs : List G3) (inp : List Int) (w : World) (hg : RG w Ag ng gs) (ha : RI w A n inp) (hi : allB 0 1 inp = true) (hgat : gatesB n gs ng = true) (hng : ng ≤ 300) (hn : n ≤ 40) :
    Calls Try.prog 70 #[.agg #[.int .i64 x, .int .i64 y, .slice Ag ng cg, .slice Ao no co], .slice A n c] w (RetI w (vals gs inp ng)) := by
  have hB : Below w.heap.size w (w.alloc (.cells #[.int .i64 x, .int .i64 y, .slice Ag ng cg, .slice Ao no co] 27)) := (Below.refl _ _).alloc (Nat.le_refl _) _
  have hla := ha.len
  have hvb : ∀ k, k ≤ ng → allB 0 1 (vals gs inp k) = true := fun k hk => vals_bd (n := n) (by omega) hi k ng hk hgat
  have hvl : ∀ k, (vals gs inp k).length = n + k := fun k => by rw [vals_len]; omega
  have HV := Lib.hid hvb; have HL := Lib.hid hvl; clear hvb hvl
  go_enter Try.func70, Try.ntmps70
  go_wp2_with fail
  refine (l1Own_any A n c inp _ (ha.below hB (Nat.le_refl _)) (by omega)).mono ?_
  rintro e w1 ⟨A1, c1, rfl, hown1, hb1⟩
  have hz1 := hb1.size
  simp only [World.size_alloc] at hz1 hown1
  have hz1' : w.heap.size < w1.heap.size := by omega
  obtain ⟨hc1, hf1⟩ := bcell hb1
  have hb1' := hb1
  simp only [World.size_alloc] at hb1'
  go_wp2_with fail
  go_loopw [5, 13] (fun v i wr => ∃ (k : Nat) (A' : Option Addr) (c' : Nat), k ≤ ng ∧ i = .int .i64 k ∧ v = .slice A' (n + k : Nat) c' ∧ Own wr (w.heap.size + 1) wr.heap.size (.slice A' (n + k) c') (n + k) (vals gs inp k) ∧ Below (w.heap.size + 1) (w.alloc (.cells #[.int .i64 x, .int .i64 y, .slice Ag ng cg, .slice Ao no co] 27)) wr) (fun _ i _ => ng - (intOf i).toNat)
  case atStart => exact ⟨0, _, _, Nat.zero_le _, rfl, rfl, hown1, hb1'⟩
  case round =>
    obtain ⟨k, A', c', hk, rfl, rfl, hown, hb⟩ := hrel
    clear hown1 hc1 hf1 hb1 hb1' hz1 hz1'
    have hbw : Below w.heap.size w wr := hB.trans (hb.mono (by omega))
    by_cases hlt : k < ng
    · obtain ⟨b, o, rfl, hbB, c1, c2, c3⟩ := (hg.below hbw (Nat.le_refl _)).at_ hlt
      have hgt := gatesB_at hgat hlt
      have hsn := Lib.hid (vals_succ gs inp k)
      have hvk := HV.out k (by omega)
      have hlk := HL.out k
      have hz := hb.size
      simp only [World.size_alloc] at hz
      generalize vals gs inp k = vs at *
      generalize gg gs k = G at *
      obtain ⟨gk, ga, gb⟩ := G
      dsimp only at c1 c2 c3
      cases hgt with
      | xor_ hk0 a0 a1 b0 b1 =>
        dsimp only at hk0 a0 a1 b0 b1
        obtain ⟨a, rfl⟩ := Int.eq_ofNat_of_zero_le a0
        obtain ⟨b', rfl⟩ := Int.eq_ofNat_of_zero_le b0
        subst hk0
        obtain ⟨g, rfl, hg1, hg2, hg3⟩ := hown.some_ (by omega)
        obtain ⟨d1, _⟩ := hown.cellAt (k := a) (by omega)
        obtain ⟨d2, _⟩ := hown.cellAt (k := b') (by omega)
        have hsn' : Hid (vals gs inp (k + 1) = vs ++ [bits .xor .i64 (gi vs a) (gi vs b')]) := Lib.hid (by rw [hsn.out, gval, if_pos rfl]; rfl)
        have hbx : Below wr.heap.size wr (wr.alloc (.cells #[.int .i64 0, .int .i64 a, .int .i64 b'] 64)) := (Below.refl _ _).alloc (Nat.le_refl _) _
        have e1 := cell_below d1 hbx
        have e2 := cell_below d2 hbx
        have hownA := fun q => ((hown.below hbx (.inl (Nat.le_refl _))).drewN q).alloc (.cells #[.int .i64 (bits .xor .i64 (gi vs a) (gi vs b'))] 3)
        have hbA := fun q => (below_drewN (hb.alloc hz (.cells #[.int .i64 0, .int .i64 a, .int .i64 b'] 64)) q).alloc (by simp; omega) (.cells #[.int .i64 (bits .xor .i64 (gi vs a) (gi vs b'))] 3)
        clear d1 d2
        go_wp2_with fail
        go_region_held3 (fun w' => w'.cell? ⟨wr.heap.size, 1, none⟩ = some (.int .i64 a) ∧ w'.cell? ⟨wr.heap.size, 2, none⟩ = some (.int .i64 b') ∧ w'.cell? ⟨g, a, none⟩ = some (.int .i64 (gi vs a)) ∧ w'.cell? ⟨g, b', none⟩ = some (.int .i64 (gi vs b')))
          (first | go_keep | (go_split_ands; exact ⟨hk5 _ _ _ (by assumption) (fun g9 hg9 he9 => by first | omega | (simp only [Option.some.injEq, Addr.mk.injEq, and_true] at hg9; omega)), hk5 _ _ _ (by assumption) (fun g9 hg9 he9 => by first | omega | (simp only [Option.some.injEq, Addr.mk.injEq, and_true] at hg9; omega)), hk5 _ _ _ (by assumption) (fun g9 hg9 he9 => by first | omega | (simp only [Option.some.injEq, Addr.mk.injEq, and_true] at hg9; omega)), hk5 _ _ _ (by assumption) (fun g9 hg9 he9 => by first | omega | (simp only [Option.some.injEq, Addr.mk.injEq, and_true] at hg9; omega))⟩))
          (first | (refine step_appI _ (by rfl) _ _ (by rfl) (by rfl) (hownA 1) (by rfl) (RI_one _ _ _ _ (by simp)) (by omega) (by first | omega | (simp; done) | (simp; omega)) ?_; intro A5 c5 w5 hown5 hg5 hat5 hk5))
        have hb5 := below_app (hbA 1) (hownA 1) hg5 (by simp; omega) (Nat.le_refl _)
        rw [← hsn'.out] at hown5
        clear hownA hbA hg5 hat5 hk5 e1 e2 hown hb
        go_wp2
        go_roundw
        case rel => exact ⟨k + 1, _, _, by omega, by go_num, rfl, hown5, hb5⟩
        case measure => simp [intOf]; omega
      | and_ hk0 a0 a1 b0 b1 =>
        dsimp only at hk0 a0 a1 b0 b1
        obtain ⟨a, rfl⟩ := Int.eq_ofNat_of_zero_le a0
        obtain ⟨b', rfl⟩ := Int.eq_ofNat_of_zero_le b0
        subst hk0
        obtain ⟨g, rfl, hg1, hg2, hg3⟩ := hown.some_ (by omega)
        obtain ⟨d1, _⟩ := hown.cellAt (k := a) (by omega)
        obtain ⟨d2, _⟩ := hown.cellAt (k := b') (by omega)
        have hsn' : Hid (vals gs inp (k + 1) = vs ++ [bits .and .i64 (gi vs a) (gi vs b')]) := Lib.hid (by rw [hsn.out, gval, if_neg (by show ¬ ((1 : Int) = 0); decide), if_pos rfl]; rfl)
        have hbx : Below wr.heap.size wr (wr.alloc (.cells #[.int .i64 1, .int .i64 a, .int .i64 b'] 64)) := (Below.refl _ _).alloc (Nat.le_refl _) _
        have e1 := cell_below d1 hbx
        have e2 := cell_below d2 hbx
        have hownA := fun q => ((hown.below hbx (.inl (Nat.le_refl _))).drewN q).alloc (.cells #[.int .i64 (bits .and .i64 (gi vs a) (gi vs b'))] 3)
        have hbA := fun q => (below_drewN (hb.alloc hz (.cells #[.int .i64 1, .int .i64 a, .int .i64 b'] 64)) q).alloc (by simp; omega) (.cells #[.int .i64 (bits .and .i64 (gi vs a) (gi vs b'))] 3)
        clear d1 d2
        go_wp2_with fail
        go_region_held3 (fun w' => w'.cell? ⟨wr.heap.size, 1, none⟩ = some (.int .i64 a) ∧ w'.cell? ⟨wr.heap.size, 2, none⟩ = some (.int .i64 b') ∧ w'.cell? ⟨g, a, none⟩ = some (.int .i64 (gi vs a)) ∧ w'.cell? ⟨g, b', none⟩ = some (.int .i64 (gi vs b')))
          (first | go_keep | (go_split_ands; exact ⟨hk5 _ _ _ (by assumption) (fun g9 hg9 he9 => by first | omega | (simp only [Option.some.injEq, Addr.mk.injEq, and_true] at hg9; omega)), hk5 _ _ _ (by assumption) (fun g9 hg9 he9 => by first | omega | (simp only [Option.some.injEq, Addr.mk.injEq, and_true] at hg9; omega)), hk5 _ _ _ (by assumption) (fun g9 hg9 he9 => by first | omega | (simp only [Option.some.injEq, Addr.mk.injEq, and_true] at hg9; omega)), hk5 _ _ _ (by assumption) (fun g9 hg9 he9 => by first | omega | (simp only [Option.some.injEq, Addr.mk.injEq, and_true] at hg9; omega))⟩))
          (first | (refine step_appI _ (by rfl) _ _ (by rfl) (by rfl) (hownA 1) (by rfl) (RI_one _ _ _ _ (by simp)) (by omega) (by first | omega | (simp; done) | (simp; omega)) ?_; intro A5 c5 w5 hown5 hg5 hat5 hk5))
        have hb5 := below_app (hbA 1) (hownA 1) hg5 (by simp; omega) (Nat.le_refl _)
        rw [← hsn'.out] at hown5
        clear hownA hbA hg5 hat5 hk5 e1 e2 hown hb
        go_wp2
        go_roundw
        case rel => exact ⟨k + 1, _, _, by omega, by go_num, rfl, hown5, hb5⟩
        case measure => simp [intOf]; omega
      | not_ hk0 a0 a1 b0 =>
        dsimp only at hk0 a0 a1 b0
        obtain ⟨a, rfl⟩ := Int.eq_ofNat_of_zero_le a0
        subst hk0
        subst b0
        obtain ⟨g, rfl, hg1, hg2, hg3⟩ := hown.some_ (by omega)
        obtain ⟨d1, _⟩ := hown.cellAt (k := a) (by omega)
        have hvx := allB_gi hvk (j := a) (by omega)
        obtain ⟨hv0, hv1⟩ := hvx
        have hsn' : Hid (vals gs inp (k + 1) = vs ++ [1 - gi vs a]) := Lib.hid (by rw [hsn.out, gval, if_neg (by show ¬ ((2 : Int) = 0); decide), if_neg (by show ¬ ((2 : Int) = 1); decide), if_pos rfl]; rfl)
        have hbx : Below wr.heap.size wr (wr.alloc (.cells #[.int .i64 2, .int .i64 a, .int .i64 0] 64)) := (Below.refl _ _).alloc (Nat.le_refl _) _
        have e1 := cell_below d1 hbx
        have hownA := (hown.below hbx (.inl (Nat.le_refl _))).alloc (.cells #[.int .i64 (1 - gi vs a)] 3)
        have hbA := (hb.alloc hz (.cells #[.int .i64 2, .int .i64 a, .int .i64 0] 64)).alloc (by simp; omega) (.cells #[.int .i64 (1 - gi vs a)] 3)
        clear d1
        go_wp2_with (at_builtin; refine wpList_app _ rfl _ _ rfl rfl hownA rfl (RI_one _ _ _ _ (by simp)) (by omega) (by first | omega | (simp; done) | (simp; omega)) ?_; intro A5 c5 w5 hown5 hg5 hat5)
        have hb5 := below_app hbA hownA hg5 (by simp; omega) (Nat.le_refl _)
        rw [← hsn'.out] at hown5
        clear hownA hbA hg5 hat5 e1 hown hb
        go_wp2
        go_roundw
        case rel => exact ⟨k + 1, _, _, by omega, by go_num, rfl, hown5, hb5⟩
        case measure => simp [intOf]; omega
      | one_ hk0 a0 b0 =>
        dsimp only at hk0 a0 b0
        subst hk0
        subst a0
        subst b0
        have hsn' : Hid (vals gs inp (k + 1) = vs ++ [1]) := Lib.hid (by rw [hsn.out, gval, if_neg (by show ¬ ((3 : Int) = 0); decide), if_neg (by show ¬ ((3 : Int) = 1); decide), if_neg (by show ¬ ((3 : Int) = 2); decide)])
        have hbx : Below wr.heap.size wr (wr.alloc (.cells #[.int .i64 3, .int .i64 0, .int .i64 0] 64)) := (Below.refl _ _).alloc (Nat.le_refl _) _
        have hownA := (hown.below hbx (.inl (Nat.le_refl _))).alloc (.cells #[.int .i64 1] 3)
        have hbA := (hb.alloc hz (.cells #[.int .i64 3, .int .i64 0, .int .i64 0] 64)).alloc (by simp; omega) (.cells #[.int .i64 1] 3)
        go_wp2_with (at_builtin; refine wpList_app _ rfl _ _ rfl rfl hownA rfl (RI_one _ _ _ _ (by simp)) (by omega) (by first | omega | (simp; done) | (simp; omega)) ?_; intro A5 c5 w5 hown5 hg5 hat5)
        have hb5 := below_app hbA hownA hg5 (by simp; omega) (Nat.le_refl _)
        rw [← hsn'.out] at hown5
        clear hownA hbA hg5 hat5 hown hb
        go_wp2
        go_roundw
        case rel => exact ⟨k + 1, _, _, by omega, by go_num, rfl, hown5, hb5⟩
        case measure => simp [intOf]; omega
    · obtain rfl : ng = k := by omega
      go_wp2
      go_ret
      exact RetI.mk_ (HL.out ng) rfl (hown.lo_ (by omega)) hbw
set_option maxRecDepth 100000 in
set_option maxHeartbeats 4000000 in
theorem Circuit_values_any (x y : Int) (Ag : Option Addr) (ng cg : Nat) (Ao : Option Addr) (no co : Nat) (A : Option Addr) (n c : Nat) (gs : List G3) (inp : List Int) (w : World) (hg : RG w Ag ng gs) (ha : RI w A n inp) (hi : allB 0 1 inp = true) (hgat : gatesB n gs ng = true) (hng : ng ≤ 300) (hn : n ≤ 40) :
    Calls Try.prog 30 #[.agg #[.int .i64 x, .int .i64 y, .slice Ag ng cg, .slice Ao no co], .slice A n c] w (RetI w (vals gs inp ng)) := by
  have hB : Below w.heap.size w (w.alloc (.cells #[.int .i64 x, .int .i64 y, .slice Ag ng cg, .slice Ao no co] 27)) := (Below.refl _ _).alloc (Nat.le_refl _) _
  have hla := ha.len
  have hvb : ∀ k, k ≤ ng → allB 0 1 (vals gs inp k) = true := fun k hk => vals_bd (n := n) (by omega) hi k ng hk hgat
  have hvl : ∀ k, (vals gs inp k).length = n + k := fun k => by rw [vals_len]; omega
  have HV := Lib.hid hvb; have HL := Lib.hid hvl; clear hvb hvl
  go_enter Try.func30, Try.ntmps30
  go_wp2_with fail
  refine (Clone_any A n c inp _ (ha.below hB (Nat.le_refl _)) (by omega)).mono ?_
  rintro e w1 ⟨A1, c1, rfl, hown1, hb1⟩
  have hz1 := hb1.size
  simp only [World.size_alloc] at hz1 hown1
  have hz1' : w.heap.size < w1.heap.size := by omega
  obtain ⟨hc1, hf1⟩ := bcell hb1
  have hb1' := hb1
  simp only [World.size_alloc] at hb1'
  go_wp2_with fail
  go_loopw [5, 14] (fun v i wr => ∃ (k : Nat) (A' : Option Addr) (c' : Nat), k ≤ ng ∧ i = .int .i64 k ∧ v = .slice A' (n + k : Nat) c' ∧ Own wr (w.heap.size + 1) wr.heap.size (.slice A' (n + k) c') (n + k) (vals gs inp k) ∧ Below (w.heap.size + 1) (w.alloc (.cells #[.int .i64 x, .int .i64 y, .slice Ag ng cg, .slice Ao no co] 27)) wr) (fun _ i _ => ng - (intOf i).toNat)
  case atStart => exact ⟨0, _, _, Nat.zero_le _, rfl, rfl, hown1, hb1'⟩
  case round =>
    obtain ⟨k, A', c', hk, rfl, rfl, hown, hb⟩ := hrel
    clear hown1 hc1 hf1 hb1 hb1' hz1 hz1'
    have hbw : Below w.heap.size w wr := hB.trans (hb.mono (by omega))
    by_cases hlt : k < ng
    · obtain ⟨b, o, rfl, hbB, c1, c2, c3⟩ := (hg.below hbw (Nat.le_refl _)).at_ hlt
      have hgt := gatesB_at hgat hlt
      have hsn := Lib.hid (vals_succ gs inp k)
      have hvk := HV.out k (by omega)
      have hlk := HL.out k
      have hz := hb.size
      simp only [World.size_alloc] at hz
      generalize vals gs inp k = vs at *
      generalize gg gs k = G at *
      obtain ⟨gk, ga, gb⟩ := G
      dsimp only at c1 c2 c3
      cases hgt with
      | xor_ hk0 a0 a1 b0 b1 =>
        dsimp only at hk0 a0 a1 b0 b1
        obtain ⟨a, rfl⟩ := Int.eq_ofNat_of_zero_le a0
        obtain ⟨b', rfl⟩ := Int.eq_ofNat_of_zero_le b0
        subst hk0
        obtain ⟨g, rfl, hg1, hg2, hg3⟩ := hown.some_ (by omega)
        obtain ⟨d1, _⟩ := hown.cellAt (k := a) (by omega)
        obtain ⟨d2, _⟩ := hown.cellAt (k := b') (by omega)
        have hsn' : Hid (vals gs inp (k + 1) = vs ++ [bits .xor .i64 (gi vs a) (gi vs b')]) := Lib.hid (by rw [hsn.out, gval, if_pos rfl]; rfl)
        have hbx : Below wr.heap.size wr (wr.alloc (.cells #[.int .i64 0, .int .i64 a, .int .i64 b'] 64)) := (Below.refl _ _).alloc (Nat.le_refl _) _
        have e1 := cell_below d1 hbx
        have e2 := cell_below d2 hbx
        have hownA := fun q => ((hown.below hbx (.inl (Nat.le_refl _))).drewN q).alloc (.cells #[.int .i64 (bits .xor .i64 (gi vs a) (gi vs b'))] 3)
        have hbA := fun q => (below_drewN (hb.alloc hz (.cells #[.int .i64 0, .int .i64 a, .int .i64 b'] 64)) q).alloc (by simp; omega) (.cells #[.int .i64 (bits .xor .i64 (gi vs a) (gi vs b'))] 3)
        clear d1 d2
        go_wp2_with fail
        go_quiet (fail)
        go_wp2_with (at_builtin; refine wpList_appI _ rfl _ _ rfl rfl (hownA _) rfl (RI_one _ _ _ _ (by simp)) (by omega) (by first | omega | (simp; done) | (simp; omega)) ?_; intro A5 c5 w5 hown5 hg5 hat5 hk5)
        have hb5 := below_app (hbA _) (hownA _) hg5 (by simp; omega) (Nat.le_refl _)
        rw [← hsn'.out] at hown5
        clear hownA hbA hg5 hat5 hk5 e1 e2 hown hb
        go_wp2
        go_roundw
        case rel => exact ⟨k + 1, _, _, by omega, by go_num, rfl, hown5, hb5⟩
        case measure => simp [intOf]; omega
      | and_ hk0 a0 a1 b0 b1 =>
        dsimp only at hk0 a0 a1 b0 b1
        obtain ⟨a, rfl⟩ := Int.eq_ofNat_of_zero_le a0
        obtain ⟨b', rfl⟩ := Int.eq_ofNat_of_zero_le b0
        subst hk0
        obtain ⟨g, rfl, hg1, hg2, hg3⟩ := hown.some_ (by omega)
        obtain ⟨d1, _⟩ := hown.cellAt (k := a) (by omega)
        obtain ⟨d2, _⟩ := hown.cellAt (k := b') (by omega)
        have hsn' : Hid (vals gs inp (k + 1) = vs ++ [bits .and .i64 (gi vs a) (gi vs b')]) := Lib.hid (by rw [hsn.out, gval, if_neg (by show ¬ ((1 : Int) = 0); decide), if_pos rfl]; rfl)
        have hbx : Below wr.heap.size wr (wr.alloc (.cells #[.int .i64 1, .int .i64 a, .int .i64 b'] 64)) := (Below.refl _ _).alloc (Nat.le_refl _) _
        have e1 := cell_below d1 hbx
        have e2 := cell_below d2 hbx
        have hownA := fun q => ((hown.below hbx (.inl (Nat.le_refl _))).drewN q).alloc (.cells #[.int .i64 (bits .and .i64 (gi vs a) (gi vs b'))] 3)
        have hbA := fun q => (below_drewN (hb.alloc hz (.cells #[.int .i64 1, .int .i64 a, .int .i64 b'] 64)) q).alloc (by simp; omega) (.cells #[.int .i64 (bits .and .i64 (gi vs a) (gi vs b'))] 3)
        clear d1 d2
        go_wp2_with fail
        go_quiet (fail)
        go_wp2_with (at_builtin; refine wpList_appI _ rfl _ _ rfl rfl (hownA _) rfl (RI_one _ _ _ _ (by simp)) (by omega) (by first | omega | (simp; done) | (simp; omega)) ?_; intro A5 c5 w5 hown5 hg5 hat5 hk5)
        have hb5 := below_app (hbA _) (hownA _) hg5 (by simp; omega) (Nat.le_refl _)
        rw [← hsn'.out] at hown5
        clear hownA hbA hg5 hat5 hk5 e1 e2 hown hb
        go_wp2
        go_roundw
        case rel => exact ⟨k + 1, _, _, by omega, by go_num, rfl, hown5, hb5⟩
        case measure => simp [intOf]; omega
      | not_ hk0 a0 a1 b0 =>
        dsimp only at hk0 a0 a1 b0
        obtain ⟨a, rfl⟩ := Int.eq_ofNat_of_zero_le a0
        subst hk0
        subst b0
        obtain ⟨g, rfl, hg1, hg2, hg3⟩ := hown.some_ (by omega)
        obtain ⟨d1, _⟩ := hown.cellAt (k := a) (by omega)
        have hvx := allB_gi hvk (j := a) (by omega)
        obtain ⟨hv0, hv1⟩ := hvx
        have hsn' : Hid (vals gs inp (k + 1) = vs ++ [1 - gi vs a]) := Lib.hid (by rw [hsn.out, gval, if_neg (by show ¬ ((2 : Int) = 0); decide), if_neg (by show ¬ ((2 : Int) = 1); decide), if_pos rfl]; rfl)
        have hbx : Below wr.heap.size wr (wr.alloc (.cells #[.int .i64 2, .int .i64 a, .int .i64 0] 64)) := (Below.refl _ _).alloc (Nat.le_refl _) _
        have e1 := cell_below d1 hbx
        have hownA := (hown.below hbx (.inl (Nat.le_refl _))).alloc (.cells #[.int .i64 (1 - gi vs a)] 3)
        have hbA := (hb.alloc hz (.cells #[.int .i64 2, .int .i64 a, .int .i64 0] 64)).alloc (by simp; omega) (.cells #[.int .i64 (1 - gi vs a)] 3)
        clear d1
        go_wp2_with (at_builtin; refine wpList_app _ rfl _ _ rfl rfl hownA rfl (RI_one _ _ _ _ (by simp)) (by omega) (by first | omega | (simp; done) | (simp; omega)) ?_; intro A5 c5 w5 hown5 hg5 hat5)
        have hb5 := below_app hbA hownA hg5 (by simp; omega) (Nat.le_refl _)
        rw [← hsn'.out] at hown5
        clear hownA hbA hg5 hat5 e1 hown hb
        go_wp2
        go_roundw
        case rel => exact ⟨k + 1, _, _, by omega, by go_num, rfl, hown5, hb5⟩
        case measure => simp [intOf]; omega
      | one_ hk0 a0 b0 =>
        dsimp only at hk0 a0 b0
        subst hk0
        subst a0
        subst b0
        have hsn' : Hid (vals gs inp (k + 1) = vs ++ [1]) := Lib.hid (by rw [hsn.out, gval, if_neg (by show ¬ ((3 : Int) = 0); decide), if_neg (by show ¬ ((3 : Int) = 1); decide), if_neg (by show ¬ ((3 : Int) = 2); decide)])
        have hbx : Below wr.heap.size wr (wr.alloc (.cells #[.int .i64 3, .int .i64 0, .int .i64 0] 64)) := (Below.refl _ _).alloc (Nat.le_refl _) _
        have hownA := (hown.below hbx (.inl (Nat.le_refl _))).alloc (.cells #[.int .i64 1] 3)
        have hbA := (hb.alloc hz (.cells #[.int .i64 3, .int .i64 0, .int .i64 0] 64)).alloc (by simp; omega) (.cells #[.int .i64 1] 3)
        go_wp2_with (at_builtin; refine wpList_app _ rfl _ _ rfl rfl hownA rfl (RI_one _ _ _ _ (by simp)) (by omega) (by first | omega | (simp; done) | (simp; omega)) ?_; intro A5 c5 w5 hown5 hg5 hat5)
        have hb5 := below_app hbA hownA hg5 (by simp; omega) (Nat.le_refl _)
        rw [← hsn'.out] at hown5
        clear hownA hbA hg5 hat5 hown hb
        go_wp2
        go_roundw
        case rel => exact ⟨k + 1, _, _, by omega, by go_num, rfl, hown5, hb5⟩
        case measure => simp [intOf]; omega
    · obtain rfl : ng = k := by omega
      go_wp2
      go_ret
      exact RetI.mk_ (HL.out ng) rfl (hown.lo_ (by omega)) hbw
end Go.Proofs.Ytimmjppkaadggaa
