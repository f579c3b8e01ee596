/- The reference's WireValues where it succeeds. Lengths below 2^21. -/
import Derived.Test.YtnhmfedegfcflaaGreatDoorQR15
namespace Go.Proofs.YtnhmfedegfcflaaGreatDoor
open Go.RowKit
set_option linter.unusedVariables false
set_option linter.unusedSimpArgs false
theorem or_shift {z x : Int} {i : Nat} (hz : 0 ≤ z ∧ z < 2 ^ i) (hx : 0 ≤ x ∧ x ≤ 1) (hi : i < 40) : bits .or .i64 z (wrap64 (x * 2 ^ i)) = z + x * 2 ^ i := by
 obtain ⟨Z, rfl⟩ := Int.eq_ofNat_of_zero_le hz.1
 obtain ⟨X, rfl⟩ := Int.eq_ofNat_of_zero_le hx.1
 have hX : X ≤ 1 := by omega
 have h1 : Z < 2 ^ i := by have := hz.2; exact_mod_cast this
 have h2 : 2 ^ i ≤ 2 ^ 40 := Nat.pow_le_pow_right (by omega) (by omega)
 have h3 : (2 : Nat) ^ 40 = 1099511627776 := by decide
 have h5 : X * 2 ^ i ≤ 1 * 2 ^ i := Nat.mul_le_mul_right _ hX
 have h4 : ((X : Int) * 2 ^ i) = ((X * 2 ^ i : Nat) : Int) := by rw [Int.natCast_mul, Int.natCast_pow]; rfl
 have h6 : wrap64 ((X : Int) * 2 ^ i) = ((X * 2 ^ i : Nat) : Int) := by rw [h4]; exact IntWalk.wrap64_in ((X * 2 ^ i : Nat) : Int) (by omega)
 rw [h6, h4, bor_nat (by omega) (by omega), or_place h1]; omega
theorem bnext {a b c : World} (h : Below a.heap.size a b) (k : Below b.heap.size b c) : Below a.heap.size a c := h.trans (k.mono h.size)
theorem btOf_any (n k : Nat) (w : World) (hn : n ≤ 1099511627776) (hk : k ≤ 1000000) : Calls Tryz.prog 80 #[.int .i64 n, .int .i64 k] w (RetI w (bitsN n k)) := by
 go_enter Tryz.func80, Tryz.ntmps80
 go_wp2
 go_loopw [5, 0, 1] (fun v a b wr => ∃ (i : Nat) (A' : Option Addr) (c' : Nat), i ≤ k ∧ b = .int .i64 ((k - i : Nat) : Int) ∧ a = .int .i64 ((n / 2 ^ i : Nat) : Int) ∧ v = .slice A' i c' ∧ Own wr w.heap.size wr.heap.size (.slice A' i c') i (bitsN n i) ∧ Below w.heap.size w wr) (fun _ _ b _ => (intOf b).toNat)
 case atStart => exact ⟨0, _, _, Nat.zero_le _, rfl, by simp, rfl, Own.none_ _ _ _, Below.refl _ _⟩
 case round =>
  obtain ⟨i, A', c', hi, rfl, rfl, rfl, hown, hbw⟩ := hrel
  by_cases hlt : i < k
  ·have hsn : Hid (bitsN n (i + 1) = bitsN n i ++ [((n / 2 ^ i % 2 : Nat) : Int)]) := zH (bitsN_snoc n i)
   have hdv : Hid (n / 2 ^ (i + 1) = n / 2 ^ i / 2) := zH (by rw [Nat.pow_succ, Nat.div_div_eq_div_mul])
   have hle : n / 2 ^ i ≤ n := Nat.div_le_self _ _
   generalize n / 2 ^ i = z at *
   have hz := hbw.size
   rw [Int.natCast_emod] at hsn
   have hownA := hown.alloc (.cells #[.int .i64 ((z : Int) % 2)] 3)
   have hbA := hbw.alloc hz (.cells #[.int .i64 ((z : Int) % 2)] 3)
   go_wp2_with (at_builtin; refine Zaw _ rfl _ _ rfl rfl hownA rfl (Zbj _ _ _ _ (by simp)) (by omega) oM ?_; intro A5 c5 w5 hown5 hg5 hat5)
   have hb5 := Zar hbA hownA hg5 (by simp; omega) lR
   rw [show [(z : Int) % ((2 : Nat) : Int)] = [(z : Int) % 2] from rfl] at hsn
   rw [← hsn.out] at hown5
   clear hbA hownA hg5 hat5 hown hbw
   go_wp2
   go_roundw
   case rel => exact ⟨i + 1, _, _, by omega, by go_num, by rw [hdv.out]; go_num, rfl, hown5, hb5⟩
   case measure => simp [intOf]; omega
  ·obtain rfl : i = k := by omega
   go_wp2
   go_ret
   exact RetI.mk_ (Zby _ _) rfl hown hbw
theorem bitsOf_any (n k : Nat) (w : World) (hn : n ≤ 1099511627776) (hk : k ≤ 40) : Calls Tryz.prog 54 #[.int .i64 n, .int .i64 k] w (RetI w (bitsN n k)) := by
 go_enter Tryz.func54, Tryz.ntmps54
 go_wp2
 go_loopw [5, 9] (fun v b wr => ∃ (i : Nat) (A' : Option Addr) (c' : Nat), i ≤ k ∧ b = .int .i64 i ∧ v = .slice A' i c' ∧ Own wr w.heap.size wr.heap.size (.slice A' i c') i (bitsN n i) ∧ Below w.heap.size w wr) (fun _ b _ => k - (intOf b).toNat)
 case atStart => exact ⟨0, _, _, Nat.zero_le _, rfl, rfl, by simpa [bitsN, tab_zero] using Zcu w w.heap.size lR, bA⟩
 case round =>
  obtain ⟨i, A', c', hi, rfl, rfl, hown, hbw⟩ := hrel
  by_cases hlt : i < k
  ·have hsn : Hid (bitsN n (i + 1) = bitsN n i ++ [((n / 2 ^ i % 2 : Nat) : Int)]) := zH (bitsN_snoc n i)
   have hz := hbw.size
   have hle : n / 2 ^ i ≤ n := Nat.div_le_self _ _
   have hq : Hid (bits .and .i64 ((n : Int) / 2 ^ i) 1 = ((n / 2 ^ i % 2 : Nat) : Int)) := zH (by
    have h1 := band_nat (a := n / 2 ^ i) (b := 1) (by omega) (by omega)
    rw [and_one] at h1
    rw [← h1]; simp [Int.natCast_ediv, Int.natCast_pow])
   rw [← hq.out] at hsn
   have hownA := hown.alloc (.cells #[.int .i64 (bits .and .i64 ((n : Int) / 2 ^ i) 1)] 3)
   have hbA := hbw.alloc hz (.cells #[.int .i64 (bits .and .i64 ((n : Int) / 2 ^ i) 1)] 3)
   go_wp2_with (at_builtin; refine Zaw _ rfl _ _ rfl rfl hownA rfl (Zbj _ _ _ _ (by simp)) (by omega) oM ?_; intro A5 c5 w5 hown5 hg5 hat5)
   have hb5 := Zar hbA hownA hg5 (by simp; omega) lR
   rw [← hsn.out] at hown5
   clear hbA hownA hg5 hat5 hown hbw
   go_wp2
   go_roundw
   case rel => exact ⟨i + 1, _, _, by omega, by go_num, rfl, hown5, hb5⟩
   case measure => simp [intOf]; omega
  ·obtain rfl : i = k := by omega
   go_wp2
   go_ret
   exact RetI.mk_ (Zby _ _) rfl hown hbw
theorem btNum_any (A : Option Addr) (n c : Nat) (xs : List Int) (w : World) (ha : RI w A n xs) (hn : n ≤ 40) (hx : allB 0 1 xs = true) : Calls Tryz.prog 79 #[.slice A n c] w fun e w' => e = .returned (.int .i64 (numN xs)) ∧ w = w' := by
 have hl := ha.len
 have HB := zH fun i => numN_le (allB_drop_ hx i) (by simp; omega)
 have HD := zH fun i => numN_drop (l := xs) (k := i)
 have h0 : Hid (numN (xs.drop n) = 0) := zH (by rw [List.drop_of_length_le (by omega)]; rfl)
 go_enter Tryz.func79, Tryz.ntmps79
 go_wp2
 go_loop [3, 4] (fun v b => ∃ i : Nat, i ≤ n ∧ b = .int .i64 ((i : Int) - 1) ∧ v = .int .i64 (numN (xs.drop i))) (fun _ b => (intOf b + 1).toNat)
 case atStart => exact ⟨n, Nat.le_refl _, rfl, by rw [h0.out]⟩
 case round =>
  obtain ⟨i, hi, rfl, rfl⟩ := hrel
  rcases Nat.eq_zero_or_pos i with h | h
  ·subst h
   go_wp2
   go_ret
   exact ⟨by simp, rfl⟩
  ·obtain ⟨j, rfl⟩ : ∃ j, i = j + 1 := ⟨i - 1, by omega⟩
   obtain ⟨b1, b2⟩ := HB.out (j + 1)
   have hd := zH (HD.out j (by omega))
   obtain ⟨c1, c2⟩ := Zbv hx (j := j) (by omega)
   obtain ⟨b, o, rfl, hbB, e1⟩ := ha.at_ (k := j) (by omega)
   clear ha
   have hcast : (((j + 1 : Nat) : Int) - 1) = j := by omega
   rw [hcast]
   generalize numN (xs.drop (j + 1)) = z at *
   generalize gi xs j = x at *
   go_wp2
   go_round
   case rel => exact ⟨j, by omega, rfl, by rw [hd.out]; go_num⟩
   case measure => simp [intOf]
theorem number_any (A : Option Addr) (n c : Nat) (xs : List Int) (w : World) (ha : RI w A n xs) (hn : n ≤ 40) (hx : allB 0 1 xs = true) : Calls Tryz.prog 53 #[.slice A n c] w fun e w' => e = .returned (.int .i64 (numN xs)) ∧ w = w' := by
 have hl := ha.len
 have HB := zH fun i => numN_bd (allB_take_ hx i)
 go_enter Tryz.func53, Tryz.ntmps53
 go_wp2
 go_loop [3, 8] (fun v b => ∃ i : Nat, i ≤ n ∧ b = .int .i64 i ∧ v = .int .i64 (numN (xs.take i))) (fun _ b => n - (intOf b).toNat)
 case atStart => exact ⟨0, Nat.zero_le _, rfl, rfl⟩
 case round =>
  obtain ⟨i, hi, rfl, rfl⟩ := hrel
  by_cases hlt : i < n
  ·obtain ⟨b, o, rfl, hbB, e1⟩ := ha.at_ (k := i) hlt
   clear ha
   obtain ⟨c1, c2⟩ := Zbv hx (j := i) (by omega)
   obtain ⟨b1, b2⟩ := HB.out i
   have hs : Hid (numN (xs.take (i + 1)) = numN (xs.take i) + gi xs i * 2 ^ i) := zH (by
    rw [Zcg (by omega), numN_snoc, List.length_take, Nat.min_eq_left (by omega)])
   have hln : (xs.take i).length = i := by simp; omega
   rw [hln] at b2
   generalize numN (xs.take i) = z at *
   generalize gi xs i = x at *
   have hq : Hid (bits .or .i64 z (wrap64 (x * 2 ^ i)) = z + x * 2 ^ i) := zH (or_shift ⟨b1, b2⟩ ⟨c1, c2⟩ (by omega))
   clear b1 b2
   go_wp2
   go_round
   case rel => exact ⟨i + 1, by omega, by go_num, by rw [hs.out, hq.out]⟩
   case measure => simp [intOf]; omega
  ·obtain rfl : i = n := by omega
   have ht : Hid (numN (xs.take i) = numN xs) := zH (by rw [List.take_of_length_le (by omega)])
   go_wp2
   go_ret
   exact ⟨by rw [← ht.out]; rfl, rfl⟩
set_option maxRecDepth 100000 in
set_option maxHeartbeats 800000 in
theorem ciOuts_any (x y : Int) (Ag : Option Addr) (ng cg : Nat) (Ao : Option Addr) (no co : Nat) (A : Option Addr) (n c : Nat) (gs : List G3) (os inp : List Int) (w : World) (hr : RG w Ag ng gs ∧ RI w Ao no os) (ha : RI w A n inp) (hi : allB 0 1 inp = true) (hgat : gatesB n gs ng = true) (hos : allB 0 (((n + ng : Nat) : Int) - 1) os = true) (hng : ng ≤ 300) (hno : no ≤ 40) (hn : n ≤ 40) :
 Calls Tryz.prog 26 #[.agg #[.int .i64 x, .int .i64 y, .slice Ag ng cg, .slice Ao no co], .slice A n c] w (RetI w (pick (vals gs inp ng) os)) := by
 have hB : Below w.heap.size w (w.alloc (.cells #[.int .i64 x, .int .i64 y, .slice Ag ng cg, .slice Ao no co] 27)) := bA
 have hvl : Hid ((vals gs inp ng).length = n + ng) := zH (by rw [Zbm, ha.len])
 have hB1 := Zas hB 1
 go_enter Tryz.func26, Tryz.ntmps26
 go_wp2_with fail
 go_region_held3 (fun w' => w'.cell? ⟨w.heap.size, 0, none⟩ = some (.int .i64 x) ∧ w'.cell? ⟨w.heap.size, 1, none⟩ = some (.int .i64 y) ∧ w'.cell? ⟨w.heap.size, 2, none⟩ = some (.slice Ag ng cg) ∧ w'.cell? ⟨w.heap.size, 3, none⟩ = some (.slice Ao no co))
  (first | go_keep | (go_split_ands; exact ⟨Zae (by assumption) hbP, Zae (by assumption) hbP, Zae (by assumption) hbP, Zae (by assumption) hbP⟩) | (go_split_ands; exact ⟨Zae (by assumption) hbV, Zae (by assumption) hbV, Zae (by assumption) hbV, Zae (by assumption) hbV⟩) | ((try dsimp only); (repeat' apply And.intro) <;> go_keep))
  (first | (go_at_call 38; refine (ciValues_any x y Ag ng cg Ao no co A n c gs inp _ (hr.1.below hB1 lR) (ha.below hB1 lR) hi hgat (by omega) (by omega)).mono ?_; rintro e W3 hV; obtain ⟨AV, cV, rfl, hownV, hbV⟩ := hV.open_ hvl.out) | (go_at_call 52; refine (ciPick_any AV Ao (n + ng) cV no co (vals gs inp ng) os _ hownV.reads (hr.2.below (hB1.trans (hbV.mono hB1.size)) lR) (by omega) (by omega) hos).mono ?_; rintro e W4 hP; obtain ⟨AP, cP, rfl, hownP, hbP⟩ := hP.open_ (Zbs _ _)))
 have hB2 := hB1.trans (hbV.mono hB1.size)
 go_wp2
 go_ret
 exact RetI.mk_ (Zbs _ _) rfl (hownP.lo_ hB2.size) (hB2.trans (hbP.mono hB2.size))
theorem box_at {w wr : World} {x y : Int} {Ag : Option Addr} {ng cg : Nat} {Ao : Option Addr} {no co : Nat} {T : TypeId} (hb : Below (w.heap.size + 1) (w.alloc (.cells #[.int .i64 x, .int .i64 y, .slice Ag ng cg, .slice Ao no co] T)) wr) : BxC wr w.heap.size x y Ag ng cg Ao no co :=
 ⟨(hb.cell (p := ⟨w.heap.size, 0, none⟩) (by simp)).trans (Zal w _ 0 _ rfl), (hb.cell (p := ⟨w.heap.size, 1, none⟩) (by simp)).trans (Zal w _ 1 _ rfl), (hb.cell (p := ⟨w.heap.size, 2, none⟩) (by simp)).trans (Zal w _ 2 _ rfl), (hb.cell (p := ⟨w.heap.size, 3, none⟩) (by simp)).trans (Zal w _ 3 _ rfl)⟩
theorem two_pow_small {X : Nat} (h : X ≤ 10) : 2 ^ X ≤ 1024 := by
 have := Nat.pow_le_pow_right (n := 2) (by omega) h
 exact this
theorem pow_wrap {X N : Nat} (hN : N = 2 ^ X) (h : X ≤ 10) : N ≤ 1024 ∧ wrap64 ((2 : Int) ^ X) = N := by
 have h1 := two_pow_small h
 have h2 : (2 : Int) ^ X = (N : Int) := by rw [hN, Int.natCast_pow]; rfl
 rw [h2]
 exact ⟨by omega, IntWalk.wrap64_in _ (by omega)⟩
theorem below_chain_app {B : Nat} {a wr W w5 : World} {lo hi n c : Nat} {A : Option Addr} {xs : List Int} {o : Obj} (h : Below B a wr) (hB : B ≤ wr.heap.size) (k : Below wr.heap.size wr W) (hown : Own (W.alloc o) lo hi (.slice A n c) n xs) (hg : (W.alloc o).grownBy w5 (Value.slice A n c).ownBlock) (hl : B ≤ lo) : Below B a w5 :=
 Zar ((h.trans (k.mono hB)).alloc (by have := k.size; omega) o) hown hg (by simp; have := k.size; omega) hl
theorem Own.from_ {w : World} {lo hi n c : Nat} {A : Option Addr} {xs : List Int} (h : Own w lo hi (.slice A n c) n xs) : ∀ g, A = some ⟨g, 0, none⟩ → lo ≤ g := fun g he => by subst he; exact (h.lt g (by simp [Value.ownBlock])).1
def sameB (xs ys : List Int) : Bool := decide (xs = ys)
theorem sameB_len {xs ys : List Int} (h : xs.length ≠ ys.length) : sameB xs ys = false := by
 simp only [sameB, decide_eq_false_iff_not]; intro hc; exact h (by rw [hc])
theorem sameB_at {xs ys : List Int} {k : Nat} (h : gi xs k ≠ gi ys k) : sameB xs ys = false := by
 simp only [sameB, decide_eq_false_iff_not]; intro hc; exact h (by rw [hc])
theorem sameB_all {xs ys : List Int} (h : xs.length = ys.length) (hg : ∀ j, j < xs.length → gi xs j = gi ys j) : sameB xs ys = true := by
 simp only [sameB, decide_eq_true_eq]; exact gi_eq h hg
def smallB (x y : Int) (gs : List G3) (os : List Int) (lim : Nat) : Bool := circB x y gs os && (decide (x + y ≤ 10) && decide (os.length ≤ lim))
set_option maxRecDepth 100000 in
set_option maxHeartbeats 1600000 in
theorem ciTable_any (x y : Int) (Ag : Option Addr) (ng cg : Nat) (Ao : Option Addr) (no co : Nat) (gs : List G3) (os : List Int) (X N : Nat) (w : World) (hr : RG w Ag ng gs ∧ RI w Ao no os) (hx : 0 ≤ x ∧ x ≤ 20) (hy : 0 ≤ y ∧ y ≤ 20) (hX : x + y = X) (hX10 : X ≤ 10) (hN : N = 2 ^ X) (hgat : gatesB X gs gs.length = true) (hos : allB 0 ((X : Int) + gs.length - 1) os = true) (hng : ng ≤ 300) (hno : no ≤ 40) :
 Calls Tryz.prog 56 #[.agg #[.int .i64 x, .int .i64 y, .slice Ag ng cg, .slice Ao no co]] w (RetI w (tab N fun n => numN (outsN gs os X n))) := by
 have hB : Below w.heap.size w (w.alloc (.cells #[.int .i64 x, .int .i64 y, .slice Ag ng cg, .slice Ao no co] 27)) := bA
 have hlg := hr.1.len
 have hlo := hr.2.len
 have hos' : allB 0 (((X + ng : Nat) : Int) - 1) os = true := by rw [show (((X + ng : Nat) : Int) - 1) = (X : Int) + gs.length - 1 from by omega]; exact hos
 have hob := zH fun n => outsN_bd hgat hos n
 have hon := zH fun n => show outsN gs os X n = pick (vals gs (bitsN n X) ng) os from by rw [outsN, hlg]
 rw [hlg] at hgat
 clear hos
 obtain ⟨hP, hsh⟩ := pow_wrap hN hX10
 clear hN
 go_enter Tryz.func56, Tryz.ntmps56
 go_wp2_with fail
 refine (Zbe x y Ag ng cg Ao no co _ hx hy).mono ?_
 rintro e v1 ⟨rfl, hb1⟩
 rw [hX]
 have hz1 := hb1.size
 simp only [World.size_alloc] at hz1
 have hb1' := hb1
 simp only [World.size_alloc] at hb1'
 go_wp2_with fail
 go_loopw [3, 5] (fun v i wr => ∃ (k : Nat) (A' : Option Addr) (c' : Nat), k ≤ N ∧ i = .int .i64 k ∧ v = .slice A' k c' ∧ Own wr (w.heap.size + 1) wr.heap.size (.slice A' k c') k (tab k fun n => numN (outsN gs os X n)) ∧ Below (w.heap.size + 1) (w.alloc (.cells #[.int .i64 x, .int .i64 y, .slice Ag ng cg, .slice Ao no co] 27)) wr) (fun _ i _ => N - (intOf i).toNat)
 case atStart => exact ⟨0, _, _, Nat.zero_le _, rfl, rfl, Own.none_ _ _ _, hb1'⟩
 case round =>
  clear hb1 hb1' hz1
  obtain ⟨k, A', c', hk, rfl, rfl, hown, hb⟩ := hrel
  have hbw : Below w.heap.size w wr := hB.trans (hb.mono (by omega))
  obtain ⟨k0, k1, k2, k3⟩ := box_at hb
  by_cases hlt : k < N
  ·have hsn : Hid (tab (k + 1) (fun n => numN (outsN gs os X n)) = tab k (fun n => numN (outsN gs os X n)) ++ [numN (outsN gs os X k)]) := zH (tab_snoc k _)
   have hbk := hob.out k
   have hOl := hlo ▸ outsN_len gs os X k
   obtain ⟨O, hO⟩ : ∃ O, Hid (outsN gs os X k = O) := ⟨_, rfl⟩
   obtain ⟨Z, hZ⟩ : ∃ Z, Hid (numN O = Z) := ⟨_, rfl⟩
   have hPk : Hid (pick (vals gs (bitsN k X) ng) os = O) := zH ((hon.out k).symm.trans hO.out)
   rw [hO.out] at hbk hOl hsn
   rw [hZ.out] at hsn
   have hz := hb.size
   simp only [World.size_alloc] at hz
   have hbd := Zas hbw 1
   have hfar := hown.from_
   go_wp2_with fail
   go_region_held3 (fun w' => w'.cell? ⟨w.heap.size, 0, none⟩ = some (.int .i64 x) ∧ w'.cell? ⟨w.heap.size, 1, none⟩ = some (.int .i64 y) ∧ w'.cell? ⟨w.heap.size, 2, none⟩ = some (.slice Ag ng cg) ∧ w'.cell? ⟨w.heap.size, 3, none⟩ = some (.slice Ao no co))
    (first | go_keep | (go_split_ands; exact ⟨hk5 _ _ _ (by assumption) (fun g9 hg9 he9 => by first | omega | (have := hfar _ hg9; omega) | (simp only [Option.some.injEq, Addr.mk.injEq, and_true] at hg9; omega)), hk5 _ _ _ (by assumption) (fun g9 hg9 he9 => by first | omega | (have := hfar _ hg9; omega) | (simp only [Option.some.injEq, Addr.mk.injEq, and_true] at hg9; omega)), hk5 _ _ _ (by assumption) (fun g9 hg9 he9 => by first | omega | (have := hfar _ hg9; omega) | (simp only [Option.some.injEq, Addr.mk.injEq, and_true] at hg9; omega)), hk5 _ _ _ (by assumption) (fun g9 hg9 he9 => by first | omega | (have := hfar _ hg9; omega) | (simp only [Option.some.injEq, Addr.mk.injEq, and_true] at hg9; omega))⟩) | (go_split_ands; exact ⟨Zae (by assumption) hb2, Zae (by assumption) hb2, Zae (by assumption) hb2, Zae (by assumption) hb2⟩) | (go_split_ands; exact ⟨Zae (by assumption) hb1, Zae (by assumption) hb1, Zae (by assumption) hb1, Zae (by assumption) hb1⟩))
    (first | (go_at_call 80; refine (btOf_any k X _ (by omega) (by omega)).mono ?_; rintro e W1 hT; obtain ⟨A1, c1, rfl, ho1, hb1⟩ := hT.open_ (Zby _ _); have hs1 : wr.heap.size ≤ W1.heap.size := hb1.size) | (go_at_call 26; refine (ciOuts_any x y Ag ng cg Ao no co A1 X c1 gs os (bitsN k X) _ ⟨hr.1.below (hbd.trans (hb1.mono hbd.size)) lR, hr.2.below (hbd.trans (hb1.mono hbd.size)) lR⟩ ho1.reads (bitsN_bd _ _) hgat hos' hng hno (by omega)).mono ?_; rintro e W2 hT; rw [hPk.out] at hT; obtain ⟨A2, c2, rfl, ho2, hb2⟩ := hT.open_ hOl; have hs2 := hb2.size) | (go_at_call 79; refine (btNum_any A2 no c2 O _ ho2.reads (by omega) hbk).mono ?_; rintro e W3 ⟨he, rfl⟩; rw [hZ.out] at he; obtain rfl := he) | (refine step_appI _ (by rfl) _ _ (by rfl) (by rfl) ((hown.below (bnext (bnext (Zay 1) hb1) hb2) (.inl lR)).alloc _) (by rfl) (Zbj _ _ _ _ (by simp)) (by omega) oM ?_; intro A5 c5 w5 hown5 hg5 hat5 hk5))
   have hb5 := below_chain_app hb hz (bnext (bnext (Zay 1) hb1) hb2) ((hown.below (bnext (bnext (Zay 1) hb1) hb2) (.inl lR)).alloc _) hg5 lR
   rw [← hsn.out] at hown5
   clear hown hb hb1 hb2 ho1 ho2 hg5 hk5 hat5 hbk
   go_wp2
   go_roundw
   case rel => exact ⟨k + 1, _, _, by omega, by go_num, rfl, hown5, hb5⟩
   case measure => simp [intOf]; omega
  ·obtain rfl : N = k := by omega
   go_wp2
   go_ret
   exact RetI.mk_ (Zbz _ _) rfl (hown.lo_ (by omega)) hbw
set_option maxHeartbeats 400000 in
theorem sameInts_any (A B : Option Addr) (n c m d : Nat) (xs ys : List Int) (w : World) (ha : RI w A n xs) (hb : RI w B m ys) (hn : n ≤ 2097152) (hm : m ≤ 2097152) :
 Calls Tryz.prog 8 #[.slice A n c, .slice B m d] w fun e w' => e = .returned (.bool (sameB xs ys)) ∧ ∃ j, w' = w.drewN j := by
 have hl := ha.len
 have hm' := hb.len
 by_cases h0 : n = m
 ·subst h0
  have hne : ((n : Int) != n) = false := by simp
  go_enter Tryz.func8, Tryz.ntmps8
  go_wp2
  go_loopw [13] (fun i wr => ∃ k j : Nat, k ≤ n ∧ i = .int .i64 k ∧ wr = w.drewN j ∧ Hid (∀ q, q < k → gi xs q = gi ys q)) (fun i _ => n - (intOf i).toNat)
  case atStart => exact ⟨0, 0, Nat.zero_le _, rfl, rfl, zH fun q hq => absurd hq (by omega)⟩
  case round =>
   obtain ⟨k, j, hk, rfl, rfl, hq⟩ := hrel
   by_cases hlt : k < n
   ·obtain ⟨b, o, rfl, hbB, e1⟩ := ha.at_ hlt
    obtain ⟨b', o', rfl, hbB', e2⟩ := hb.at_ hlt
    by_cases h1 : gi xs k = gi ys k
    ·have H1 := zH h1
     rw [← h1] at e2
     clear h1
     have hnx : (gi xs k != gi xs k) = false := by simp
     generalize hX : gi xs k = X at *
     clear ha hb
     go_wp2_with fail
     go_quiet (fail)
     go_wp2
     go_roundw
     case rel => exact ⟨k + 1, _, by omega, by go_num, by first | rfl | exact World.drewN_drewN _ _ _, zH fun q hq' => by
      rcases Nat.lt_or_ge q k with h | h
      ·exact hq.out q h
      ·obtain rfl : q = k := by omega
       exact hX.trans H1.out⟩
     case measure => simp [intOf]; omega
    ·have H1 := zH h1
     have hnx : (gi xs k != gi ys k) = true := by simpa using h1
     clear h1
     have HR : Hid (sameB xs ys = false) := zH (sameB_at H1.out)
     generalize gi xs k = X at *
     generalize gi ys k = Y at *
     clear ha hb
     go_wp2_with fail
     go_quiet (fail)
     go_wp2
     go_ret
     exact ⟨by rw [HR.out]; rfl, _, by first | rfl | exact World.drewN_drewN _ _ _⟩
   ·obtain rfl : k = n := by omega
    have HR : Hid (sameB xs ys = true) := zH (sameB_all (by omega) fun q hq' => hq.out q (by omega))
    go_wp2
    go_ret
    exact ⟨by rw [HR.out]; rfl, _, rfl⟩
 ·have h1 : ((n : Int) != m) = true := by simp; omega
  have HR : Hid (sameB xs ys = false) := zH (sameB_len (by omega))
  go_enter Tryz.func8, Tryz.ntmps8
  go_wp2
  go_ret
  exact ⟨by rw [HR.out]; rfl, 0, rfl⟩
attribute [local go_sem] sepAt sepUpon pureAt pureUpon
set_option maxHeartbeats 1000000 in
theorem areInputs_ok (x y : Int) (Ag : Option Addr) (ng cg : Nat) (Ao : Option Addr) (no co : Nat) (A B : Option Addr) (n c m d : Nat) (gs : List G3) (os us ws : List Int) (w : World) (hr : RG w Ag ng gs ∧ RI w Ao no os) (hng : ng ≤ 2097152) (hno : no ≤ 2097152) (hc : circB x y gs os = true) (ha : RI w A n us) (hb : RI w B m ws) (hn : (n : Int) = x) (hm : (m : Int) = y) (h1 : allB 0 1 us = true) (h2 : allB 0 1 ws = true) :
 Calls Tryz.prog 35 #[.agg #[.int .i64 x, .int .i64 y, .slice Ag ng cg, .slice Ao no co], .slice A n c, .slice B m d] w fun e w' => e = .returned (.bool true) ∧ Below w.heap.size w w' := by
 have hB : Below w.heap.size w (w.alloc (.cells #[.int .i64 x, .int .i64 y, .slice Ag ng cg, .slice Ao no co] 27)) := bA
 have hx0 : BxC (w.alloc (.cells #[.int .i64 x, .int .i64 y, .slice Ag ng cg, .slice Ao no co] 27)) w.heap.size x y Ag ng cg Ao no co := BxC.new w _
 obtain ⟨hx, hy, _, _, _, _⟩ := Zao hc
 have nb : n ≤ 20 := by omega
 have mb : m ≤ 20 := by omega
 have t1 : Hid (bitsB n 64 us = true) := zH (by unfold bitsB; rw [h1, decide_eq_true (show n ≤ 64 by omega)]; rfl)
 have t2 : Hid (bitsB m 64 ws = true) := zH (by unfold bitsB; rw [h2, decide_eq_true (show m ≤ 64 by omega)]; rfl)
 subst hn; subst hm
 have n1 : ((n : Int) == n) = true := by simp
 have n2 : ((m : Int) == m) = true := by simp
 have H0 := zH hc; clear hc
 have hq := hx0; obtain ⟨k0, k1, k2, k3⟩ := hq
 go_enter Tryz.func35, Tryz.ntmps35
 go_wp2_with fail
 refine (Zah _ _ Ag ng cg Ao no co gs os _ (hr.1.below hB lR) (hr.2.below hB lR) hng hno).mono ?_
 rintro e v1 ⟨rfl, b1⟩
 rw [H0.out]
 have B1 := hB.trans (b1.mono hB.size)
 go_wp2_with fail
 refine (Zbf A n c us _ (ha.below B1 lR) (by omega)).mono ?_
 rintro e v2 ⟨rfl, b2⟩
 rw [t1.out]
 have B2 := B1.trans (b2.mono B1.size)
 go_wp2_with fail
 refine (Zbf B m d ws _ (hb.below B2 lR) (by omega)).mono ?_
 rintro e v3 ⟨rfl, b3⟩
 rw [t2.out]
 have B3 := B2.trans (b3.mono B2.size)
 have x3 := ((hx0.below b1).below b2).below b3
 clear k0 k1 k2 k3
 have hq := x3; obtain ⟨k0, k1, k2, k3⟩ := hq
 go_wp2
 go_ret
 exact ⟨by simp, B3⟩
set_option maxRecDepth 100000 in
set_option maxHeartbeats 2000000 in
theorem WireValues_ok (x y : Int) (Ag : Option Addr) (ng cg : Nat) (Ao : Option Addr) (no co : Nat) (A B : Option Addr) (n c m d : Nat) (gs : List G3) (os us ws : List Int) (w : World) (hr : RG w Ag ng gs ∧ RI w Ao no os) (hng : ng ≤ 2097152) (hno : no ≤ 2097152) (hc : circB x y gs os = true) (ha : RI w A n us) (hb : RI w B m ws) (hn : (n : Int) = x) (hm : (m : Int) = y) (h1 : allB 0 1 us = true) (h2 : allB 0 1 ws = true) :
 Calls Tryz.prog 11 #[.agg #[.int .i64 x, .int .i64 y, .slice Ag ng cg, .slice Ao no co], .slice A n c, .slice B m d] w (RetO w (some (vals gs (us ++ ws) ng))) := by
 have hB : Below w.heap.size w (w.alloc (.cells #[.int .i64 x, .int .i64 y, .slice Ag ng cg, .slice Ao no co] 27)) := bA
 have hx0 : BxC (w.alloc (.cells #[.int .i64 x, .int .i64 y, .slice Ag ng cg, .slice Ao no co] 27)) w.heap.size x y Ag ng cg Ao no co := BxC.new w _
 have hs0 : (w.alloc (.cells #[.int .i64 x, .int .i64 y, .slice Ag ng cg, .slice Ao no co] 27)).heap.size = w.heap.size + 1 := by simp
 obtain ⟨hx, hy, hg3, _, hgat, _⟩ := Zao hc
 have hlg := hr.1.len
 have hla := ha.len
 have hlb := hb.len
 rw [hlg] at hg3 hgat
 have hgat' : gatesB ((n + m : Nat) : Int) gs ng = true := by rw [show ((n + m : Nat) : Int) = x + y by omega]; exact hgat
 have hab : allB 0 1 (us ++ ws) = true := allB_iff.2 fun z hz => (List.mem_append.1 hz).elim (allB_iff.1 h1 z) (allB_iff.1 h2 z)
 have hvl : Hid ((vals gs (us ++ ws) ng).length = n + m + ng) := zH (by rw [Zbm, List.length_append, hla, hlb])
 have hq := hx0; obtain ⟨k0, k1, k2, k3⟩ := hq
 go_enter Tryz.func11, Tryz.ntmps11
 go_wp2_with fail
 refine (areInputs_ok x y Ag ng cg Ao no co A B n c m d gs os us ws _ ⟨hr.1.below hB lR, hr.2.below hB lR⟩ hng hno hc (ha.below hB lR) (hb.below hB lR) hn hm h1 h2).mono ?_
 rintro e v1 ⟨rfl, b1⟩
 have B1 := hB.trans (b1.mono hB.size)
 have x1 := hx0.below b1
 have hz1 := b1.size
 rw [hs0] at hz1
 clear k0 k1 k2 k3 hx0 b1 hB
 have hq := x1; obtain ⟨k0, k1, k2, k3⟩ := hq
 go_wp2_with fail
 refine Zav (7) [(⟨w.heap.size, 0, none⟩, .int .i64 x), (⟨w.heap.size, 1, none⟩, .int .i64 y), (⟨w.heap.size, 2, none⟩, .slice Ag ng cg), (⟨w.heap.size, 3, none⟩, .slice Ao no co)] [(3, [], []), (4, [3], [])] [4] [(3, Res.row v1.heap.size (n + m) (us ++ ws)), (4, Res.row v1.heap.size (n + m + ng) (vals gs (us ++ ws) ng))] (by kernel_rfl) (by kernel_rfl) (by kernel_rfl) (by simp only [cD, cC, and_true]; repeat (any_goals (apply And.intro)); all_goals (first | assumption | go_simp)) ?_
 simp only [List.take_succ_cons, List.take_zero, List.drop_succ_cons, List.drop_zero, List.take_nil, List.drop_nil, List.take, List.drop]
 repeat (first
  | ((first
   | ((with_reducible refine Zad ?_ ?_ ?_)
      ·exact rfl
      ·exact rfl)
   | ((with_reducible refine Zag ?_ ?_ ?_)
      ·exact rfl
      ·exact Zaa rfl rfl rfl rfl))
     intro K hK
     apply Exists.intro
     refine ⟨fun w3 hw3 => ?_, ?_⟩
     ·have hcs := hw3
      simp only [cD, cC, and_true] at hcs
      clear hw3
      go_simp
      first | done | exact ⟨rfl, rfl⟩ | rfl
     refine hK _ ?_
     clear hK K
     try simp only [pA, pB, sA, sB, sC])
  | ((with_reducible refine Zaf ?_ ?_ ?_)
     ·exact rfl
     ·exact Zab rfl rfl rfl rfl
     simp only [pA, pB, sA, sB, sC]))
 focus
  (with_reducible refine Zbt v1.heap.size (n + m) (us ++ ws) ?_ ?_ ?_ ?_ ?_ (hw := ?_))
  ·exact rfl
  ·exact rfl
  ·omega
  ·intro w3 hw3 hc3 hp3
   have hcs := hc3
   simp only [cD, cC, and_true] at hcs
   (go_simp; have hb3 := B1.trans ((Zam hw3).mono B1.size); refine (with_any A B n c m d us ws _ (ha.below hb3 lR) (hb.below hb3 lR) (by omega) (by omega)).mono ?_; rintro e w4 ⟨A4, c4, rfl, ho4, hb4⟩; exact retPost.mk_ (postRow.mk_ ho4 hb4))
  rotate_left
  ·first | exact Zac rfl | exact Zaa rfl rfl rfl rfl
  intro A3 c3
  try simp only [pA, pB, sA, sB, sC]
 repeat (first
  | ((first
   | ((with_reducible refine Zad ?_ ?_ ?_)
      ·exact rfl
      ·exact rfl)
   | ((with_reducible refine Zag ?_ ?_ ?_)
      ·exact rfl
      ·exact Zaa rfl rfl rfl rfl))
     intro K hK
     apply Exists.intro
     refine ⟨fun w3 hw3 => ?_, ?_⟩
     ·have hcs := hw3
      simp only [cD, cC, and_true] at hcs
      clear hw3
      go_simp
      first | done | exact ⟨rfl, rfl⟩ | rfl
     refine hK _ ?_
     clear hK K
     try simp only [pA, pB, sA, sB, sC])
  | ((with_reducible refine Zaf ?_ ?_ ?_)
     ·exact rfl
     ·exact Zab rfl rfl rfl rfl
     simp only [pA, pB, sA, sB, sC]))
 focus
  (with_reducible refine Zbt v1.heap.size (n + m + ng) (vals gs (us ++ ws) ng) ?_ ?_ ?_ ?_ ?_ (hw := ?_))
  ·exact rfl
  ·exact rfl
  ·omega
  ·intro w3 hw3 hc3 hp3
   have hcs := hc3
   simp only [cD, cC, and_true] at hcs
   (have h9 : Own w3 v1.heap.size w3.heap.size (.slice A3 (n + m) c3) (n + m) (us ++ ws) := hp3.1.1.1; go_simp; have hb3 := B1.trans ((Zam hw3).mono B1.size); refine (Zch x y Ag ng cg Ao no co A3 (n + m) c3 gs (us ++ ws) _ (hr.1.below hb3 lR) h9.reads hab hgat' hg3 (by omega)).mono ?_; rintro e w4 hT; obtain ⟨A4, c4, rfl, ho4, hb4⟩ := hT.open_ hvl.out; exact retPost.mk_ (postRow.mk_ ho4 hb4))
  rotate_left
  ·first | exact Zac rfl | exact Zaa rfl rfl rfl rfl
  intro A5 c5
  try simp only [pA, pB, sA, sB, sC]
 repeat (first
  | ((first
   | ((with_reducible refine Zad ?_ ?_ ?_)
      ·exact rfl
      ·exact rfl)
   | ((with_reducible refine Zag ?_ ?_ ?_)
      ·exact rfl
      ·exact Zaa rfl rfl rfl rfl))
     intro K hK
     apply Exists.intro
     refine ⟨fun w3 hw3 => ?_, ?_⟩
     ·have hcs := hw3
      simp only [cD, cC, and_true] at hcs
      clear hw3
      go_simp
      first | done | exact ⟨rfl, rfl⟩ | rfl
     refine hK _ ?_
     clear hK K
     try simp only [pA, pB, sA, sB, sC])
  | ((with_reducible refine Zaf ?_ ?_ ?_)
     ·exact rfl
     ·exact Zab rfl rfl rfl rfl
     simp only [pA, pB, sA, sB, sC]))
 refine Zat ?_
 intro wy hwy hcy hfin hap
 have h4 : Own wy v1.heap.size wy.heap.size (.slice A5 (n + m + ng) c5) (n + m + ng) (vals gs (us ++ ws) ng) := hfin.1.1
 have By := B1.trans ((Zam hwy).mono B1.size)
 go_wp2
 go_ret2
 exact RetO.some_ By rfl hvl.out rfl (h4.lo_ (by omega))
set_option maxHeartbeats 1000000 in
theorem EvalCircuit_ok (x y : Int) (Ag : Option Addr) (ng cg : Nat) (Ao : Option Addr) (no co : Nat) (A B : Option Addr) (n c m d : Nat) (gs : List G3) (os us ws : List Int) (w : World) (hr : RG w Ag ng gs ∧ RI w Ao no os) (hng : ng ≤ 2097152) (hno : no ≤ 2097152) (hc : circB x y gs os = true) (ha : RI w A n us) (hb : RI w B m ws) (hn : (n : Int) = x) (hm : (m : Int) = y) (h1 : allB 0 1 us = true) (h2 : allB 0 1 ws = true) :
 Calls Tryz.prog 6 #[.agg #[.int .i64 x, .int .i64 y, .slice Ag ng cg, .slice Ao no co], .slice A n c, .slice B m d] w (RetO w (some (pick (vals gs (us ++ ws) ng) os))) := by
 have hB : Below w.heap.size w (w.alloc (.cells #[.int .i64 x, .int .i64 y, .slice Ag ng cg, .slice Ao no co] 27)) := bA
 have hx0 : BxC (w.alloc (.cells #[.int .i64 x, .int .i64 y, .slice Ag ng cg, .slice Ao no co] 27)) w.heap.size x y Ag ng cg Ao no co := BxC.new w _
 obtain ⟨hx, hy, hg3, ho3, _, hao⟩ := Zao hc
 have hlg := hr.1.len
 have hlo := hr.2.len
 have hla := ha.len
 have hlb := hb.len
 rw [hlg] at hg3 hao
 have hvl : Hid ((vals gs (us ++ ws) ng).length = n + m + ng) := zH (by rw [Zbm, List.length_append, hla, hlb])
 have hpl : Hid ((pick (vals gs (us ++ ws) ng) os).length = no) := zH (by rw [Zbs]; exact hlo)
 have hao' : allB 0 (((n + m + ng : Nat) : Int) - 1) os = true := by rw [show ((n + m + ng : Nat) : Int) - 1 = x + y + ng - 1 by omega]; exact hao
 have hq := hx0; obtain ⟨k0, k1, k2, k3⟩ := hq
 go_enter Tryz.func6, Tryz.ntmps6
 go_wp2_with fail
 refine (WireValues_ok x y Ag ng cg Ao no co A B n c m d gs os us ws _ ⟨hr.1.below hB lR, hr.2.below hB lR⟩ hng hno hc (ha.below hB lR) (hb.below hB lR) hn hm h1 h2).mono ?_
 rintro e v1 hT
 obtain ⟨A1, c1, rfl, o1, b1⟩ := (show ∃ A c, e = .returned (.tuple #[.slice A (vals gs (us ++ ws) ng).length c, .bool true]) ∧ Own v1 _ v1.heap.size (.slice A (vals gs (us ++ ws) ng).length c) (vals gs (us ++ ws) ng).length (vals gs (us ++ ws) ng) ∧ Below _ _ v1 from hT)
 rw [hvl.out] at o1 ⊢
 have B1 := hB.trans (b1.mono hB.size)
 have x1 := hx0.below b1
 clear k0 k1 k2 k3 hx0 b1 hB hT
 have hq := x1; obtain ⟨k0, k1, k2, k3⟩ := hq
 go_wp2_with fail
 refine (at_any A1 Ao (n + m + ng) c1 no co (vals gs (us ++ ws) ng) os _ o1.reads (hr.2.below B1 lR) (by omega) (by omega) hao').mono ?_
 rintro e v2 hT
 obtain ⟨A2, c2, rfl, o2, b2⟩ := hT.open_ hpl.out
 go_wp2
 go_ret2
 exact RetO.some_ (B1.trans (b2.mono B1.size)) rfl hpl.out rfl (o2.lo_ B1.size)
end Go.Proofs.YtnhmfedegfcflaaGreatDoor
namespace Go.Proofs.YtnhmfedegfcflaaGreatDoor
open Go.RowKit
set_option linter.unusedVariables false
set_option linter.unusedSimpArgs false
attribute [local go_sem] sepAt sepUpon pureAt pureUpon
set_option maxHeartbeats 1000000 in
theorem ciAsked_ok (x y : Int) (Ag : Option Addr) (ng cg : Nat) (Ao : Option Addr) (no co : Nat) (A B : Option Addr) (n c m d : Nat) (gs : List G3) (os us ws : List Int) (w : World) (hr : RG w Ag ng gs ∧ RI w Ao no os) (hng : ng ≤ 2097152) (hno : no ≤ 2097152) (hc : circB x y gs os = true) (ha : RI w A n us) (hb : RI w B m ws) (hn : (n : Int) = x) (hm : (m : Int) = y) (h1 : allB 0 1 us = true) (h2 : allB 0 1 ws = true) :
 Calls Tryz.prog 25 #[.agg #[.int .i64 x, .int .i64 y, .slice Ag ng cg, .slice Ao no co], .slice A n c, .slice B m d] w fun e w' => e = .returned (.bool true) ∧ Below w.heap.size w w' := by
 have hB : Below w.heap.size w (w.alloc (.cells #[.int .i64 x, .int .i64 y, .slice Ag ng cg, .slice Ao no co] 27)) := bA
 have hx0 : BxC (w.alloc (.cells #[.int .i64 x, .int .i64 y, .slice Ag ng cg, .slice Ao no co] 27)) w.heap.size x y Ag ng cg Ao no co := BxC.new w _
 obtain ⟨hx, hy, _, _, _, _⟩ := Zao hc
 have nb : n ≤ 20 := by omega
 have mb : m ≤ 20 := by omega
 have t1 : Hid (bitsB n 20 us = true) := zH (by unfold bitsB; rw [h1, decide_eq_true (show n ≤ 20 by omega)]; rfl)
 have t2 : Hid (bitsB m 20 ws = true) := zH (by unfold bitsB; rw [h2, decide_eq_true (show m ≤ 20 by omega)]; rfl)
 subst hn; subst hm
 have n1 : ((n : Int) == n) = true := by simp
 have n2 : ((m : Int) == m) = true := by simp
 have H0 := zH hc; clear hc
 have hq := hx0; obtain ⟨k0, k1, k2, k3⟩ := hq
 go_enter Tryz.func25, Tryz.ntmps25
 go_wp2_with fail
 refine (Zap _ _ Ag ng cg Ao no co gs os _ (hr.1.below hB lR) (hr.2.below hB lR) hng hno).mono ?_
 rintro e v1 ⟨rfl, b1⟩
 rw [H0.out]
 have B1 := hB.trans (b1.mono hB.size)
 go_wp2_with fail
 refine (Zbk A n c 20 us _ (ha.below B1 lR) (by omega)).mono ?_
 rintro e v2 ⟨rfl, rfl⟩
 rw [t1.out]
 go_wp2_with fail
 refine (Zbk B m d 20 ws _ (hb.below B1 lR) (by omega)).mono ?_
 rintro e v3 ⟨rfl, rfl⟩
 rw [t2.out]
 have x3 := hx0.below b1
 clear k0 k1 k2 k3
 have hq := x3; obtain ⟨k0, k1, k2, k3⟩ := hq
 go_wp2
 go_ret
 exact ⟨by simp, B1⟩
set_option maxRecDepth 100000 in
set_option maxHeartbeats 2000000 in
theorem spec_WireValues_ok (x y : Int) (Ag : Option Addr) (ng cg : Nat) (Ao : Option Addr) (no co : Nat) (A B : Option Addr) (n c m d : Nat) (gs : List G3) (os us ws : List Int) (w : World) (hr : RG w Ag ng gs ∧ RI w Ao no os) (hng : ng ≤ 2097152) (hno : no ≤ 2097152) (hc : circB x y gs os = true) (ha : RI w A n us) (hb : RI w B m ws) (hn : (n : Int) = x) (hm : (m : Int) = y) (h1 : allB 0 1 us = true) (h2 : allB 0 1 ws = true) :
 Calls Tryz.prog 12 #[.agg #[.int .i64 x, .int .i64 y, .slice Ag ng cg, .slice Ao no co], .slice A n c, .slice B m d] w (RetO w (some (vals gs (us ++ ws) ng))) := by
 have hB : Below w.heap.size w (w.alloc (.cells #[.int .i64 x, .int .i64 y, .slice Ag ng cg, .slice Ao no co] 27)) := bA
 have hx0 : BxC (w.alloc (.cells #[.int .i64 x, .int .i64 y, .slice Ag ng cg, .slice Ao no co] 27)) w.heap.size x y Ag ng cg Ao no co := BxC.new w _
 have hs0 : (w.alloc (.cells #[.int .i64 x, .int .i64 y, .slice Ag ng cg, .slice Ao no co] 27)).heap.size = w.heap.size + 1 := by simp
 obtain ⟨hx, hy, hg3, _, hgat, _⟩ := Zao hc
 have hlg := hr.1.len
 have hla := ha.len
 have hlb := hb.len
 rw [hlg] at hg3 hgat
 have hgat' : gatesB ((n + m : Nat) : Int) gs ng = true := by rw [show ((n + m : Nat) : Int) = x + y by omega]; exact hgat
 have hab : allB 0 1 (us ++ ws) = true := allB_iff.2 fun z hz => (List.mem_append.1 hz).elim (allB_iff.1 h1 z) (allB_iff.1 h2 z)
 have hvl : Hid ((vals gs (us ++ ws) ng).length = n + m + ng) := zH (by rw [Zbm, List.length_append, hla, hlb])
 have hq := hx0; obtain ⟨k0, k1, k2, k3⟩ := hq
 go_enter Tryz.func12, Tryz.ntmps12
 go_wp2_with fail
 refine (ciAsked_ok x y Ag ng cg Ao no co A B n c m d gs os us ws _ ⟨hr.1.below hB lR, hr.2.below hB lR⟩ hng hno hc (ha.below hB lR) (hb.below hB lR) hn hm h1 h2).mono ?_
 rintro e v1 ⟨rfl, b1⟩
 have B1 := hB.trans (b1.mono hB.size)
 have x1 := hx0.below b1
 have hz1 := b1.size
 rw [hs0] at hz1
 clear k0 k1 k2 k3 hx0 b1 hB
 have hq := x1; obtain ⟨k0, k1, k2, k3⟩ := hq
 go_wp2_with fail
 refine Zav (7) [(⟨w.heap.size, 0, none⟩, .int .i64 x), (⟨w.heap.size, 1, none⟩, .int .i64 y), (⟨w.heap.size, 2, none⟩, .slice Ag ng cg), (⟨w.heap.size, 3, none⟩, .slice Ao no co)] [(3, [], []), (4, [3], [])] [4] [(3, Res.row v1.heap.size (n + m) (us ++ ws)), (4, Res.row v1.heap.size (n + m + ng) (vals gs (us ++ ws) ng))] (by kernel_rfl) (by kernel_rfl) (by kernel_rfl) (by simp only [cD, cC, and_true]; repeat (any_goals (apply And.intro)); all_goals (first | assumption | go_simp)) ?_
 simp only [List.take_succ_cons, List.take_zero, List.drop_succ_cons, List.drop_zero, List.take_nil, List.drop_nil, List.take, List.drop]
 repeat (first
  | ((first
   | ((with_reducible refine Zad ?_ ?_ ?_)
      ·exact rfl
      ·exact rfl)
   | ((with_reducible refine Zag ?_ ?_ ?_)
      ·exact rfl
      ·exact Zaa rfl rfl rfl rfl))
     intro K hK
     apply Exists.intro
     refine ⟨fun w3 hw3 => ?_, ?_⟩
     ·have hcs := hw3
      simp only [cD, cC, and_true] at hcs
      clear hw3
      go_simp
      first | done | exact ⟨rfl, rfl⟩ | rfl
     refine hK _ ?_
     clear hK K
     try simp only [pA, pB, sA, sB, sC])
  | ((with_reducible refine Zaf ?_ ?_ ?_)
     ·exact rfl
     ·exact Zab rfl rfl rfl rfl
     simp only [pA, pB, sA, sB, sC]))
 focus
  (with_reducible refine Zbt v1.heap.size (n + m) (us ++ ws) ?_ ?_ ?_ ?_ ?_ (hw := ?_))
  ·exact rfl
  ·exact rfl
  ·omega
  ·intro w3 hw3 hc3 hp3
   have hcs := hc3
   simp only [cD, cC, and_true] at hcs
   (go_simp; have hb3 := B1.trans ((Zam hw3).mono B1.size); refine (ciJoin_any A B n c m d us ws _ (ha.below hb3 lR) (hb.below hb3 lR) (by omega) (by omega)).mono ?_; rintro e w4 ⟨A4, c4, rfl, ho4, hb4⟩; exact retPost.mk_ (postRow.mk_ ho4 hb4))
  rotate_left
  ·first | exact Zac rfl | exact Zaa rfl rfl rfl rfl
  intro A3 c3
  try simp only [pA, pB, sA, sB, sC]
 repeat (first
  | ((first
   | ((with_reducible refine Zad ?_ ?_ ?_)
      ·exact rfl
      ·exact rfl)
   | ((with_reducible refine Zag ?_ ?_ ?_)
      ·exact rfl
      ·exact Zaa rfl rfl rfl rfl))
     intro K hK
     apply Exists.intro
     refine ⟨fun w3 hw3 => ?_, ?_⟩
     ·have hcs := hw3
      simp only [cD, cC, and_true] at hcs
      clear hw3
      go_simp
      first | done | exact ⟨rfl, rfl⟩ | rfl
     refine hK _ ?_
     clear hK K
     try simp only [pA, pB, sA, sB, sC])
  | ((with_reducible refine Zaf ?_ ?_ ?_)
     ·exact rfl
     ·exact Zab rfl rfl rfl rfl
     simp only [pA, pB, sA, sB, sC]))
 focus
  (with_reducible refine Zbt v1.heap.size (n + m + ng) (vals gs (us ++ ws) ng) ?_ ?_ ?_ ?_ ?_ (hw := ?_))
  ·exact rfl
  ·exact rfl
  ·omega
  ·intro w3 hw3 hc3 hp3
   have hcs := hc3
   simp only [cD, cC, and_true] at hcs
   (have h9 : Own w3 v1.heap.size w3.heap.size (.slice A3 (n + m) c3) (n + m) (us ++ ws) := hp3.1.1.1; go_simp; have hb3 := B1.trans ((Zam hw3).mono B1.size); refine (ciValues_any x y Ag ng cg Ao no co A3 (n + m) c3 gs (us ++ ws) _ (hr.1.below hb3 lR) h9.reads hab hgat' hg3 (by omega)).mono ?_; rintro e w4 hT; obtain ⟨A4, c4, rfl, ho4, hb4⟩ := hT.open_ hvl.out; exact retPost.mk_ (postRow.mk_ ho4 hb4))
  rotate_left
  ·first | exact Zac rfl | exact Zaa rfl rfl rfl rfl
  intro A5 c5
  try simp only [pA, pB, sA, sB, sC]
 repeat (first
  | ((first
   | ((with_reducible refine Zad ?_ ?_ ?_)
      ·exact rfl
      ·exact rfl)
   | ((with_reducible refine Zag ?_ ?_ ?_)
      ·exact rfl
      ·exact Zaa rfl rfl rfl rfl))
     intro K hK
     apply Exists.intro
     refine ⟨fun w3 hw3 => ?_, ?_⟩
     ·have hcs := hw3
      simp only [cD, cC, and_true] at hcs
      clear hw3
      go_simp
      first | done | exact ⟨rfl, rfl⟩ | rfl
     refine hK _ ?_
     clear hK K
     try simp only [pA, pB, sA, sB, sC])
  | ((with_reducible refine Zaf ?_ ?_ ?_)
     ·exact rfl
     ·exact Zab rfl rfl rfl rfl
     simp only [pA, pB, sA, sB, sC]))
 refine Zat ?_
 intro wy hwy hcy hfin hap
 have h4 : Own wy v1.heap.size wy.heap.size (.slice A5 (n + m + ng) c5) (n + m + ng) (vals gs (us ++ ws) ng) := hfin.1.1
 have By := B1.trans ((Zam hwy).mono B1.size)
 go_wp2
 go_ret2
 exact RetO.some_ By rfl hvl.out rfl (h4.lo_ (by omega))
end Go.Proofs.YtnhmfedegfcflaaGreatDoor
