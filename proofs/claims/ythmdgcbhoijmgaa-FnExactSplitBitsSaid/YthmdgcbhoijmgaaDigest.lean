/- Contracts of copies of lists and of the keyed digest. Lengths up to 2^21, numbers up to 2^40. -/
import Derived.Test.YthmdgcbhoijmgaaApp
import Derived.Test.YthmdgcbhoijmgaaBits
namespace Go.Proofs.Ythmdgcbhoijmgaa
open Go.RowKit
set_option linter.unusedVariables false
set_option linter.unusedSimpArgs false

def dstep (a x : Int) : Int := ((25214 * a + x + 17) % 1000003) * (((25214 * a + x + 17) % 1000003) / 64 + 5) % 1000003
/-- The digest before it is cut down. -/
def dfold (a : Int) (l : List Int) : Int := l.foldl dstep a
/-- The digest of a list. -/
def dg (l : List Int) : Int := dfold (40503 + l.length) (l ++ [8, 1]) % 65536
theorem dfold_snoc (a : Int) (l : List Int) (x : Int) : dfold a (l ++ [x]) = dstep (dfold a l) x := by simp [dfold]
theorem dstep_bd (a x : Int) : 0 ≤ dstep a x ∧ dstep a x < 1000003 := ⟨Int.emod_nonneg _ (by omega), Int.emod_lt_of_pos _ (by omega)⟩
theorem dg_bd (l : List Int) : 0 ≤ dg l ∧ dg l < 65536 := ⟨Int.emod_nonneg _ (by omega), Int.emod_lt_of_pos _ (by omega)⟩
/-- The numbers are words: not greater than 2^40. -/
def wordsP (l : List Int) : Prop := ∀ x ∈ l, -1099511627776 ≤ x ∧ x ≤ 1099511627776
theorem wordsP_append {l m : List Int} (h : wordsP l) (k : wordsP m) : wordsP (l ++ m) := fun x hx => by
  rcases List.mem_append.1 hx with hx | hx
  · exact h x hx
  · exact k x hx
theorem wordsP_one {x : Int} (h : -1099511627776 ≤ x ∧ x ≤ 1099511627776) : wordsP [x] := fun y hy => by simp at hy; subst hy; exact h
theorem wordsP_two {x z : Int} (h : -1099511627776 ≤ x ∧ x ≤ 1099511627776) (k : -1099511627776 ≤ z ∧ z ≤ 1099511627776) : wordsP [x, z] := fun y hy => by
  simp at hy; rcases hy with rfl | rfl <;> assumption

theorem Clone_any (A : Option Addr) (n c : Nat) (xs : List Int) (w : World) (ha : RI w A n xs) (hn : n ≤ 2097152) :
    Calls Try.prog 82 #[.slice A n c] w fun e w' => ∃ A' c', e = .returned (.slice A' n c') ∧ Own w' w.heap.size w'.heap.size (.slice A' n c') n xs ∧ Below w.heap.size w w' := by
  have hl := ha.len
  rcases A with _ | ad
  · have h0 : n = 0 := by
      rcases Nat.eq_zero_or_pos n with h | h
      · exact h
      · obtain ⟨b, o, h', _⟩ := ha.2 h
        cases h'
    subst h0
    obtain rfl : xs = [] := List.eq_nil_of_length_eq_zero hl
    have he := fun W => Lib.run_eql_slice_nil (P := Try.prog) W (t := 22) (e := 3) none 0 c 0 0 Try.underlying22
    go_enter Try.func82, Try.ntmps82
    go_wp2
    go_ret
    exact ⟨_, _, rfl, Own.none_ _ _ _, Below.refl _ _⟩
  · have he := fun W => Lib.run_eql_slice_nil (P := Try.prog) W (t := 22) (e := 3) (some ad) n c 0 0 Try.underlying22
    have hB : Below w.heap.size w (w.alloc (.cells #[] 3)) := (Below.refl _ _).alloc (Nat.le_refl _) _
    have h0 := Own_new0 w w.heap.size (Nat.le_refl _)
    go_enter Try.func82, Try.ntmps82
    go_wp2_with (at_builtin; refine wpList_app _ rfl _ _ rfl rfl h0 rfl (ha.alloc _) (by omega) (by simp) ?_; intro A' c' w1 hown hg hat)
    simp only [Nat.zero_add, List.nil_append] at hown
    go_wp2
    go_ret
    exact ⟨_, _, by simp, hown, below_app hB h0 hg (by simp) (Nat.le_refl _)⟩

theorem l1Own_any (A : Option Addr) (n c : Nat) (xs : List Int) (w : World) (ha : RI w A n xs) (hn : n ≤ 2097152) :
    Calls Try.prog 89 #[.slice A n c] w fun e w' => ∃ A' c', e = .returned (.slice A' n c') ∧ Own w' w.heap.size w'.heap.size (.slice A' n c') n xs ∧ Below w.heap.size w w' := by
  have hl := ha.len
  have hB : Below w.heap.size w (w.alloc (.cells #[] 3)) := (Below.refl _ _).alloc (Nat.le_refl _) _
  have h0 := Own_new0 w w.heap.size (Nat.le_refl _)
  go_enter Try.func89, Try.ntmps89
  go_wp2_with (at_builtin; refine wpList_app _ rfl _ _ rfl rfl h0 rfl (ha.alloc _) (by omega) (by simp) ?_; intro A' c' w1 hown hg hat)
  simp only [Nat.zero_add, List.nil_append] at hown
  go_wp2
  go_ret
  exact ⟨_, _, by simp, hown, below_app hB h0 hg (by simp) (Nat.le_refl _)⟩

theorem with_any (A B : Option Addr) (n c m d : Nat) (xs ys : List Int) (w : World) (ha : RI w A n xs) (hb : RI w B m ys) (hn : n ≤ 2097152) (hm : m ≤ 2097152) :
    Calls Try.prog 92 #[.slice A n c, .slice B m d] w fun e w' => ∃ A' c', e = .returned (.slice A' (n + m) c') ∧ Own w' w.heap.size w'.heap.size (.slice A' (n + m) c') (n + m) (xs ++ ys) ∧ Below w.heap.size w w' := by
  have hl := ha.len
  go_enter Try.func92, Try.ntmps92
  go_wp2_with fail
  refine (Clone_any _ _ _ _ _ ha hn).mono ?_
  rintro e w1 ⟨A1, c1, rfl, hown1, hb1⟩
  have hz := hb1.size
  go_wp2_with (at_builtin; refine wpList_app _ rfl _ _ rfl rfl hown1 rfl (hb.below hb1 (Nat.le_refl _)) (by omega) hz ?_; intro A' c' w2 hown hg hat)
  go_wp2
  go_ret
  exact ⟨_, _, rfl, hown, below_app hb1 hown1 hg hz (Nat.le_refl _)⟩

theorem dgWith_any (A : Option Addr) (n c : Nat) (xs : List Int) (x : Int) (w : World) (ha : RI w A n xs) (hn : n ≤ 2097152) :
    Calls Try.prog 99 #[.slice A n c, .int .i64 x] w fun e w' => ∃ A' c', e = .returned (.slice A' (n + 1) c') ∧ Own w' w.heap.size w'.heap.size (.slice A' (n + 1) c') (n + 1) (xs ++ [x]) ∧ Below w.heap.size w w' := by
  have hl := ha.len
  go_enter Try.func99, Try.ntmps99
  go_wp2_with fail
  refine (l1Own_any _ _ _ _ _ ha hn).mono ?_
  rintro e w1 ⟨A1, c1, rfl, hown1, hb1⟩
  have hz := hb1.size
  have hb2 := hb1.alloc hz (.cells #[.int .i64 x] 3)
  go_wp2_with (at_builtin; refine wpList_app _ rfl _ _ rfl rfl (hown1.alloc _) rfl (RI_new1 _ _ _) (by omega) (by simp; omega) ?_; intro A' c' w2 hown hg hat)
  go_wp2
  go_ret
  exact ⟨_, _, rfl, hown, below_app hb2 (hown1.alloc _) hg (by simp; omega) (Nat.le_refl _)⟩

theorem dstep_parts {a x : Int} (h1 : 0 ≤ a) (h2 : a ≤ 8388608) (h3 : -1099511627776 ≤ x) (h4 : x ≤ 1099511627776) :
    0 ≤ (25214 * a + x + 17) % 1000003 ∧ (25214 * a + x + 17) % 1000003 < 1000003 := ⟨Int.emod_nonneg _ (by omega), Int.emod_lt_of_pos _ (by omega)⟩
theorem dprod_bd {b : Int} (h1 : 0 ≤ b) (h2 : b < 1000003) : 0 ≤ b * (b / 64 + 5) ∧ b * (b / 64 + 5) ≤ 1000003 * 20000 := by
  have h3 : 0 ≤ b / 64 + 5 := by omega
  have h4 : b / 64 + 5 ≤ 20000 := by omega
  exact ⟨Int.mul_nonneg h1 h3, Int.mul_le_mul (by omega) h4 h3 (by omega)⟩

set_option maxHeartbeats 1000000 in
theorem digest_any (A : Option Addr) (n c : Nat) (xs : List Int) (w : World) (ha : RI w A n xs) (hn : n ≤ 2097152) (hx : wordsP xs) :
    Calls Try.prog 91 #[.slice A n c] w fun e w' => e = .returned (.int .i64 (dg xs)) ∧ Below w.heap.size w w' := by
  have hl := ha.len
  have hR : Hid (dg xs = dfold (40503 + (n : Int)) (xs ++ [8, 1]) % 65536) := Lib.hid (by rw [dg, hl])
  have hx2 : wordsP (xs ++ [8, 1]) := wordsP_append hx (wordsP_two (by omega) (by omega))
  have hl2 : (xs ++ [8, 1]).length = n + 2 := by simp [hl]
  have HL2 := Lib.hid hl2
  clear hx hl hl2
  go_enter Try.func91, Try.ntmps91
  go_wp2_with fail
  refine (Clone_any _ _ _ _ _ ha hn).mono ?_
  rintro e w1 ⟨A1, c1, rfl, hown1, hb1⟩
  have hz := hb1.size
  have hb2 := hb1.alloc hz (.cells #[.int .i64 8, .int .i64 1] 3)
  have hown1' := hown1.alloc (.cells #[.int .i64 8, .int .i64 1] 3)
  go_wp2_with (at_builtin; refine wpList_app _ rfl _ _ rfl rfl hown1' rfl (RI_new2 _ _ _ _) (by omega) (by simp; omega) ?_; intro A' c' w2 hown hg hat)
  have hb3 := below_app hb2 hown1' hg (by simp; omega) (Nat.le_refl _)
  have hrd := hown.reads
  clear hown hg hat hb2 hown1' hown1 hb1 ha hz
  generalize xs ++ [8, 1] = ys at *
  go_loopw [3, 14] (fun a i wr => ∃ (k : Nat) (q : Int), k ≤ n + 2 ∧ i = .int .i64 k ∧ a = .int .i64 q ∧ Hid (q = dfold (40503 + (n : Int)) (ys.take k)) ∧ 0 ≤ q ∧ q ≤ 8388608 ∧ w2 = wr) (fun _ i _ => n + 2 - (intOf i).toNat)
  case atStart => exact ⟨0, _, by omega, rfl, rfl, rfl, by omega, by omega, rfl⟩
  case round =>
    obtain ⟨k, q, hk, rfl, rfl, hq, hq0, hq1, rfl⟩ := hrel
    by_cases hlt : k < n + 2
    · obtain ⟨b, o, rfl, hbB, c1⟩ := hrd.at_ hlt
      have hxb := hx2 _ (gi_mem (xs := ys) (j := k) (by have := HL2.out; omega))
      have hts : Hid (dstep q (gi ys k) = dfold (40503 + (n : Int)) (ys.take (k + 1))) := Lib.hid (by
        rw [gi_take_snoc (by have := HL2.out; omega), dfold_snoc, ← hq.out])
      obtain ⟨x, hxx⟩ : ∃ x, x = gi ys k := ⟨_, rfl⟩
      rw [← hxx] at c1 hxb hts
      obtain ⟨hx0, hx1⟩ := hxb
      have hbd := dstep_bd q x
      have HX := Lib.hid hxx
      have hm := emod_eq (a := 25214 * q + x + 17) (m := 1000003) (by omega)
      obtain ⟨hb0, hb1⟩ := dstep_parts hq0 hq1 hx0 hx1
      have hpr := dprod_bd hb0 hb1
      have hdd : Hid (dstep q x = (25214 * q + x + 17) % 1000003 * ((25214 * q + x + 17) % 1000003 / 64 + 5) % 1000003) := Lib.hid rfl
      generalize (25214 * q + x + 17) % 1000003 = B at *
      have b1 : -1000003 < (25214 * q + x + 17).tmod 1000003 := Int.lt_tmod_of_pos _ (by omega)
      have b2 : (25214 * q + x + 17).tmod 1000003 < 1000003 := Int.tmod_lt_of_pos _ (by omega)
      have hm' : ((25214 * q + x + 17).tmod 1000003 + 1000003) % 1000003 = B := by
        unfold emod at hm; rw [Int.tmod_eq_emod_of_nonneg (by omega)] at hm; exact hm
      clear hxx hx2 hm hrd
      obtain ⟨hp0, hp1⟩ := hpr
      go_wp2
      go_roundw
      case rel => exact ⟨k + 1, _, by omega, by go_num, rfl, Lib.hid (by rw [← hts.out, hdd.out]), by rw [hdd.out] at hbd; omega, by rw [hdd.out] at hbd; omega, trivial⟩
      case measure => simp [intOf]; omega
    · obtain rfl : k = n + 2 := by omega
      have hf : Hid (dg xs = q % 65536) := Lib.hid (by
        rw [hR.out, hq.out, List.take_of_length_le (by have := HL2.out; omega)])
      clear hq hR
      go_wp2
      go_ret
      exact ⟨by rw [hf.out]; rfl, hb3⟩

set_option maxHeartbeats 1000000 in
theorem dgMix_any (A : Option Addr) (n c : Nat) (xs : List Int) (w : World) (ha : RI w A n xs) (hn : n ≤ 2097152) (hx : wordsP xs) :
    Calls Try.prog 88 #[.slice A n c] w fun e w' => e = .returned (.int .i64 (dg xs)) ∧ Below w.heap.size w w' := by
  have hl := ha.len
  have hR : Hid (dg xs = dfold (40503 + (n : Int)) (xs ++ [8, 1]) % 65536) := Lib.hid (by rw [dg, hl])
  have hx2 : wordsP (xs ++ [8, 1]) := wordsP_append hx (wordsP_two (by omega) (by omega))
  have hl2 : (xs ++ [8, 1]).length = n + 2 := by simp [hl]
  have HL2 := Lib.hid hl2
  clear hx hl hl2
  go_enter Try.func88, Try.ntmps88
  go_wp2_with fail
  refine (l1Own_any _ _ _ _ _ ha hn).mono ?_
  rintro e w1 ⟨A1, c1, rfl, hown1, hb1⟩
  have hz := hb1.size
  have hb2 := hb1.alloc hz (.cells #[.int .i64 8, .int .i64 1] 3)
  have hown1' := hown1.alloc (.cells #[.int .i64 8, .int .i64 1] 3)
  go_wp2_with (at_builtin; refine wpList_app _ rfl _ _ rfl rfl hown1' rfl (RI_new2 _ _ _ _) (by omega) (by simp; omega) ?_; intro A' c' w2 hown hg hat)
  have hb3 := below_app hb2 hown1' hg (by simp; omega) (Nat.le_refl _)
  have hrd := hown.reads
  clear hown hg hat hb2 hown1' hown1 hb1 ha hz
  generalize xs ++ [8, 1] = ys at *
  go_loopw [3, 14] (fun a i wr => ∃ (k : Nat) (q : Int), k ≤ n + 2 ∧ i = .int .i64 k ∧ a = .int .i64 q ∧ Hid (q = dfold (40503 + (n : Int)) (ys.take k)) ∧ 0 ≤ q ∧ q ≤ 8388608 ∧ w2 = wr) (fun _ i _ => n + 2 - (intOf i).toNat)
  case atStart => exact ⟨0, _, by omega, rfl, rfl, rfl, by omega, by omega, rfl⟩
  case round =>
    obtain ⟨k, q, hk, rfl, rfl, hq, hq0, hq1, rfl⟩ := hrel
    by_cases hlt : k < n + 2
    · obtain ⟨b, o, rfl, hbB, c1⟩ := hrd.at_ hlt
      have hxb := hx2 _ (gi_mem (xs := ys) (j := k) (by have := HL2.out; omega))
      have hts : Hid (dstep q (gi ys k) = dfold (40503 + (n : Int)) (ys.take (k + 1))) := Lib.hid (by
        rw [gi_take_snoc (by have := HL2.out; omega), dfold_snoc, ← hq.out])
      obtain ⟨x, hxx⟩ : ∃ x, x = gi ys k := ⟨_, rfl⟩
      rw [← hxx] at c1 hxb hts
      obtain ⟨hx0, hx1⟩ := hxb
      have hbd := dstep_bd q x
      have HX := Lib.hid hxx
      have hm := emod_eq (a := 25214 * q + x + 17) (m := 1000003) (by omega)
      obtain ⟨hb0, hb1⟩ := dstep_parts hq0 hq1 hx0 hx1
      have hpr := dprod_bd hb0 hb1
      have hdd : Hid (dstep q x = (25214 * q + x + 17) % 1000003 * ((25214 * q + x + 17) % 1000003 / 64 + 5) % 1000003) := Lib.hid rfl
      generalize (25214 * q + x + 17) % 1000003 = B at *
      have b1 : -1000003 < (25214 * q + x + 17).tmod 1000003 := Int.lt_tmod_of_pos _ (by omega)
      have b2 : (25214 * q + x + 17).tmod 1000003 < 1000003 := Int.tmod_lt_of_pos _ (by omega)
      have hm' : ((25214 * q + x + 17).tmod 1000003 + 1000003) % 1000003 = B := by
        unfold emod at hm; rw [Int.tmod_eq_emod_of_nonneg (by omega)] at hm; exact hm
      clear hxx hx2 hm hrd
      obtain ⟨hp0, hp1⟩ := hpr
      go_wp2
      go_roundw
      case rel => exact ⟨k + 1, _, by omega, by go_num, rfl, Lib.hid (by rw [← hts.out, hdd.out]), by rw [hdd.out] at hbd; omega, by rw [hdd.out] at hbd; omega, trivial⟩
      case measure => simp [intOf]; omega
    · obtain rfl : k = n + 2 := by omega
      have hf : Hid (dg xs = q % 65536) := Lib.hid (by
        rw [hR.out, hq.out, List.take_of_length_le (by have := HL2.out; omega)])
      clear hq hR
      go_wp2
      go_ret
      exact ⟨by rw [hf.out]; rfl, hb3⟩

set_option maxHeartbeats 400000 in
theorem numberFrom_any (A : Option Addr) (n c : Nat) (xs : List Int) (m : Int) (w : World) (ha : RI w A n xs) (hn : n ≤ 2000000) (hx : wordsP xs) (hm : 0 < m) (hm2 : m ≤ 1000000007) :
    Calls Try.prog 80 #[.slice A n c, .int .i64 m] w fun e w' => e = .returned (.int .i64 (dg (xs ++ [m]) % m)) ∧ Below w.heap.size w w' := by
  have hne : (m == 0) = false := by simp; omega
  have hB : Below w.heap.size w (w.alloc (.cells #[.int .i64 m] 3)) := (Below.refl _ _).alloc (Nat.le_refl _) _
  have hbd := dg_bd (xs ++ [m])
  go_enter Try.func80, Try.ntmps80
  go_wp2_with fail
  refine (with_any _ _ _ _ _ _ _ _ _ (ha.alloc _) (RI_new1 _ _ _) (by omega) (by omega)).mono ?_
  rintro e w1 ⟨A1, c1, rfl, hown1, hb1⟩
  go_wp2_with fail
  refine (digest_any _ _ _ _ _ hown1.reads (by omega) (wordsP_append hx (wordsP_one (by omega)))).mono ?_
  rintro e w2 ⟨rfl, hb2⟩
  go_wp2
  go_ret
  exact ⟨rfl, hB.trans ((hb1.mono (by simp)).trans (hb2.mono (by have := hb1.size; simp at this; omega)))⟩

set_option maxHeartbeats 400000 in
theorem dgBelow_any (A : Option Addr) (n c : Nat) (xs : List Int) (m : Int) (w : World) (ha : RI w A n xs) (hn : n ≤ 2000000) (hx : wordsP xs) (hm : 0 < m) (hm2 : m ≤ 1000000007) :
    Calls Try.prog 93 #[.slice A n c, .int .i64 m] w fun e w' => e = .returned (.int .i64 (dg (xs ++ [m]) % m)) ∧ Below w.heap.size w w' := by
  have hne : (m == 0) = false := by simp; omega
  have hbd := dg_bd (xs ++ [m])
  go_enter Try.func93, Try.ntmps93
  go_wp2_with fail
  refine (dgWith_any _ _ _ _ _ _ ha (by omega)).mono ?_
  rintro e w1 ⟨A1, c1, rfl, hown1, hb1⟩
  go_wp2_with fail
  refine (dgMix_any _ _ _ _ _ hown1.reads (by omega) (wordsP_append hx (wordsP_one (by omega)))).mono ?_
  rintro e w2 ⟨rfl, hb2⟩
  go_wp2
  go_ret
  exact ⟨rfl, hb1.trans (hb2.mono hb1.size)⟩

/-- n bits out of a list. -/
def bitsL (xs : List Int) (n : Nat) : List Int := (List.range n).map fun i : Nat => dg (xs ++ [(i : Int), 2]) / 8 % 2
theorem bitsL_len (xs : List Int) (n : Nat) : (bitsL xs n).length = n := by simp [bitsL]
theorem bitsL_snoc (xs : List Int) (n : Nat) : bitsL xs (n + 1) = bitsL xs n ++ [dg (xs ++ [(n : Int), 2]) / 8 % 2] := by simp [bitsL, List.range_succ]
theorem bitsL_bd (xs : List Int) (n : Nat) : ∀ x ∈ bitsL xs n, 0 ≤ x ∧ x ≤ 1 := by
  intro x hx
  obtain ⟨i, _, rfl⟩ := List.mem_map.1 hx
  omega

set_option maxHeartbeats 800000 in
theorem bitsFrom_any (A : Option Addr) (n c m : Nat) (xs : List Int) (w : World) (ha : RI w A n xs) (hn : n ≤ 2000000) (hx : wordsP xs) (hm : m ≤ 2000000) :
    Calls Try.prog 70 #[.slice A n c, .int .i64 m] w fun e w' => ∃ A' c', e = .returned (.slice A' m c') ∧ Own w' w.heap.size w'.heap.size (.slice A' m c') m (bitsL xs m) ∧ Below w.heap.size w w' := by
  have hB : Below w.heap.size w (w.alloc (.cells #[] 3)) := (Below.refl _ _).alloc (Nat.le_refl _) _
  have h0 := Own_new0 w w.heap.size (Nat.le_refl _)
  go_enter Try.func70, Try.ntmps70
  go_wp2
  go_loopw [5, 9] (fun v i wr => ∃ (k : Nat) (A' : Option Addr) (c' : Nat), k ≤ m ∧ i = .int .i64 k ∧ v = .slice A' k c' ∧ Own wr w.heap.size wr.heap.size (.slice A' k c') k (bitsL xs k) ∧ Below w.heap.size w wr) (fun _ i _ => m - (intOf i).toNat)
  case atStart => exact ⟨0, _, _, Nat.zero_le _, rfl, rfl, h0.hi_ (by simp), hB⟩
  case round =>
    clear h0 hB
    obtain ⟨k, A', c', hk, rfl, rfl, hown, hb⟩ := hrel
    by_cases hlt : k < m
    · have hbd := dg_bd (xs ++ [(k : Int), 2])
      have hsn := Lib.hid (bitsL_snoc xs k)
      have hz := hb.size
      have hb0 := hb.alloc hz (.cells #[.int .i64 k, .int .i64 2] 3)
      have ha0 := (ha.below hb (Nat.le_refl _)).alloc (.cells #[.int .i64 k, .int .i64 2] 3)
      have hown0 := hown.alloc (.cells #[.int .i64 k, .int .i64 2] 3)
      clear hown hb
      go_wp2_with fail
      refine (with_any _ _ _ _ _ _ _ _ _ ha0 (RI_new2 _ _ _ _) (by omega) (by omega)).mono ?_
      rintro e w1 ⟨A1, c1, rfl, hown1, hb1⟩
      go_wp2_with fail
      refine (digest_any _ _ _ _ _ hown1.reads (by omega) (wordsP_append hx (wordsP_two (by omega) (by omega)))).mono ?_
      rintro e w2 ⟨rfl, hb2⟩
      have hb3 : Below w.heap.size w w2 := hb0.trans ((hb1.mono (by simp; omega)).trans (hb2.mono (by have := hb1.size; simp at this; omega)))
      have hown3 := (hown0.below hb1 (.inl (Nat.le_refl _))).below hb2 (.inl (Nat.le_refl _))
      clear hb0 ha0 hown0 hown1 hb1 hb2
      have hz3 := hb3.size
      generalize dg (xs ++ [(k : Int), 2]) = D at *
      have hb4 := hb3.alloc hz3 (.cells #[.int .i64 (D / 8 % 2)] 3)
      have hown4 := hown3.alloc (.cells #[.int .i64 (D / 8 % 2)] 3)
      clear hb3 hown3
      go_wp2_with (at_builtin; refine wpList_app _ rfl _ _ rfl rfl hown4 rfl (RI_new1 _ _ _) (by omega) (by simp; omega) ?_; intro A5 c5 w5 hown5 hg5 hat5)
      have hb5 := below_app hb4 hown4 hg5 (by simp; omega) (Nat.le_refl _)
      rw [← hsn.out] at hown5
      clear hb4 hown4 hg5 hat5
      go_wp2
      go_roundw
      case rel => exact ⟨k + 1, _, _, by omega, by go_num, rfl, hown5, hb5⟩
      case measure => simp [intOf]; omega
    · obtain rfl : k = m := by omega
      go_wp2
      go_ret
      exact ⟨_, _, rfl, hown, hb⟩

set_option maxHeartbeats 800000 in
theorem dgBits_any (A : Option Addr) (n c m : Nat) (xs : List Int) (w : World) (ha : RI w A n xs) (hn : n ≤ 2000000) (hx : wordsP xs) (hm : m ≤ 2000000) :
    Calls Try.prog 66 #[.slice A n c, .int .i64 m] w fun e w' => ∃ A' c', e = .returned (.slice A' m c') ∧ Own w' w.heap.size w'.heap.size (.slice A' m c') m (bitsL xs m) ∧ Below w.heap.size w w' := by
  go_enter Try.func66, Try.ntmps66
  go_wp2
  go_loopw [5, 6] (fun v i wr => ∃ (k : Nat) (A' : Option Addr) (c' : Nat), k ≤ m ∧ i = .int .i64 k ∧ v = .slice A' k c' ∧ Own wr w.heap.size wr.heap.size (.slice A' k c') k (bitsL xs k) ∧ Below w.heap.size w wr) (fun _ i _ => m - (intOf i).toNat)
  case atStart => exact ⟨0, _, _, Nat.zero_le _, rfl, rfl, Own.none_ _ _ _, Below.refl _ _⟩
  case round =>
    obtain ⟨k, A', c', hk, rfl, rfl, hown, hb⟩ := hrel
    by_cases hlt : k < m
    · have hbd := dg_bd (xs ++ [(k : Int), 2])
      have hsn := Lib.hid (bitsL_snoc xs k)
      have hz := hb.size
      have ha0 := (ha.below hb (Nat.le_refl _))
      go_wp2_with fail
      refine (l1Own_any _ _ _ _ _ ha0 (by omega)).mono ?_
      rintro e w1 ⟨A1, c1, rfl, hown1, hb1⟩
      have hb2 := (hb.trans (hb1.mono hz)).alloc (by have := hb1.size; omega) (.cells #[.int .i64 k, .int .i64 2] 3)
      have hown2 := (hown.below hb1 (.inl (Nat.le_refl _))).alloc (.cells #[.int .i64 k, .int .i64 2] 3)
      have hown1' := hown1.alloc (.cells #[.int .i64 k, .int .i64 2] 3)
      have hz1 := hb1.size
      have hlt1 := hown.lt
      clear hb hown1 hown hb1 ha0
      go_wp2_with (at_builtin; refine wpList_app _ rfl _ (.tmp 16) rfl rfl hown1' rfl (RI_new2 _ _ _ _) (by omega) (by simp; omega) ?_; intro A3 c3 w3 hown3 hg3 hat3)
      have hne : (Value.slice A' k c').ownBlock = none ∨ (Value.slice A' k c').ownBlock ≠ (Value.slice A1 n c1).ownBlock := by
        cases h : (Value.slice A' k c').ownBlock with
        | none => exact .inl rfl
        | some g =>
          refine .inr (fun he => ?_)
          have := hlt1 g h
          have := hown1'.lt g he.symm
          omega
      have hown3' := hown2.grown hg3 hne
      have hb3 := below_app hb2 hown1' hg3 (by simp; omega) (by omega)
      have hrd := hown3.reads
      clear hb2 hown2 hown1' hown3 hg3 hat3 hne hlt1
      refine (dgMix_any _ _ _ _ _ hrd (by omega) (wordsP_append hx (wordsP_two (by omega) (by omega)))).mono ?_
      rintro e w2 ⟨rfl, hb2⟩
      have hb3 : Below w.heap.size w w2 := hb3.trans (hb2.mono hb3.size)
      have hown3 := (hown3'.below hb2 (.inl (Nat.le_refl _)))
      clear hown3' hb2 hrd
      have hz3 := hb3.size
      generalize dg (xs ++ [(k : Int), 2]) = D at *
      have hb4 := hb3.alloc hz3 (.cells #[.int .i64 (D / 8 % 2)] 3)
      have hown4 := (hown3.alloc (.cells #[.int .i64 (D / 8 % 2)] 3))
      clear hb3 hown3
      go_wp2_with (at_builtin; refine wpList_app _ rfl _ _ rfl rfl hown4 rfl (RI_new1 _ _ _) (by omega) (by simp; omega) ?_; intro A5 c5 w5 hown5 hg5 hat5)
      have hb5 := below_app hb4 hown4 hg5 (by simp; omega) (Nat.le_refl _)
      rw [← hsn.out] at hown5
      clear hb4 hown4 hg5 hat5
      go_wp2
      go_roundw
      case rel => exact ⟨k + 1, _, _, by omega, by go_num, rfl, hown5, hb5⟩
      case measure => simp [intOf]; omega
    · obtain rfl : k = m := by omega
      go_wp2
      go_ret
      exact ⟨_, _, rfl, hown, hb⟩

end Go.Proofs.Ythmdgcbhoijmgaa
