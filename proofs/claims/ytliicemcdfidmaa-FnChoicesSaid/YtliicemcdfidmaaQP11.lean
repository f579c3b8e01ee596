/- Plain functions: bits of numbers, numbers of bits, tables of a circuit's outs; no program in sight. Contracts of the bits of a number, the number of bits, the outs of a circuit. Plain facts: what the gadgets' gates reckon. No program in sight. -/
import Derived.Test.YtliicemcdfidmaaQP04
import Derived.Test.YtliicemcdfidmaaQP08
namespace Go.Proofs.Ytliicemcdfidmaa
open Go.RowKit
set_option linter.unusedVariables false
set_option linter.unusedSimpArgs false
theorem ofInt_i64 {a : Nat} (ha : a < 9223372036854775808) : (BitVec.ofInt 64 (a : Int)).toNat = a := by
  rw [BitVec.ofInt_natCast, BitVec.toNat_ofNat]; exact Nat.mod_eq_of_lt (by omega)
theorem bor_nat {a b : Nat} (ha : a < 4611686018427387904) (hb : b < 4611686018427387904) : bits .or .i64 (a : Int) (b : Int) = ((a ||| b : Nat) : Int) := by
  have hx : a ||| b < 2 ^ 62 := Nat.or_lt_two_pow (by omega) (by omega)
  show IntKind.i64.wrap ((BitVec.ofInt 64 (a : Int) ||| BitVec.ofInt 64 (b : Int)).toNat : Int) = _
  rw [BitVec.toNat_or, ofInt_i64 (by omega), ofInt_i64 (by omega)]
  exact IntWalk.i64_in _ (by omega)
theorem band_nat {a b : Nat} (ha : a < 4611686018427387904) (hb : b < 4611686018427387904) : bits .and .i64 (a : Int) (b : Int) = ((a &&& b : Nat) : Int) := by
  have hx : a &&& b < 2 ^ 62 := Nat.and_lt_two_pow _ (by omega)
  show IntKind.i64.wrap ((BitVec.ofInt 64 (a : Int) &&& BitVec.ofInt 64 (b : Int)).toNat : Int) = _
  rw [BitVec.toNat_and, ofInt_i64 (by omega), ofInt_i64 (by omega)]
  exact IntWalk.i64_in _ (by omega)
theorem and_one (n : Nat) : n &&& 1 = n % 2 := Nat.and_one_is_mod n
theorem or_place {a b i : Nat} (h : a < 2 ^ i) : a ||| (b * 2 ^ i) = a + b * 2 ^ i := by
  rw [Nat.or_comm, ← Nat.shiftLeft_eq, ← Nat.shiftLeft_add_eq_or_of_lt h, Nat.add_comm]
def bitsN (n k : Nat) : List Int := tab k fun i => ((n / 2 ^ i % 2 : Nat) : Int)
theorem bitsN_len (n k : Nat) : (bitsN n k).length = k := tab_len _ _
theorem bitsN_snoc (n k : Nat) : bitsN n (k + 1) = bitsN n k ++ [((n / 2 ^ k % 2 : Nat) : Int)] := tab_snoc _ _
theorem bitsN_bd (n k : Nat) : allB 0 1 (bitsN n k) = true := allB_iff.2 fun x hx => by
  obtain ⟨j, _, rfl⟩ := mem_tab hx; omega
def numN : List Int → Int
  | [] => 0
  | b :: l => b + 2 * numN l
theorem numN_snoc (l : List Int) (b : Int) : numN (l ++ [b]) = numN l + b * 2 ^ l.length := by
  induction l with
  | nil => simp [numN]
  | cons c l ih =>
    simp only [List.cons_append, numN, ih, List.length_cons, Int.pow_succ]
    have : 2 * (b * 2 ^ l.length) = b * (2 ^ l.length * 2) := by rw [Int.mul_comm 2, Int.mul_assoc]
    omega
theorem numN_bd {l : List Int} (h : allB 0 1 l = true) : 0 ≤ numN l ∧ numN l < 2 ^ l.length := by
  induction l with
  | nil => simp [numN]
  | cons c l ih =>
    simp only [allB, List.all_cons, Bool.and_eq_true] at h
    have h1 := inB_iff.1 h.1
    obtain ⟨h2, h3⟩ := ih h.2
    simp only [numN, List.length_cons, Int.pow_succ]
    omega
theorem allB_take_ {lo hi : Int} {l : List Int} (h : allB lo hi l = true) (k : Nat) : allB lo hi (l.take k) = true := allB_iff.2 fun x hx => allB_iff.1 h x (List.mem_of_mem_take hx)
theorem pick_bd {lo hi : Int} {l os : List Int} (h : allB lo hi l = true) (ho : allB 0 (l.length - 1) os = true) : allB lo hi (pick l os) = true := allB_iff.2 fun x hx => by
  simp only [pick, List.mem_map] at hx
  obtain ⟨o, hm, rfl⟩ := hx
  have := allB_iff.1 ho o hm
  exact allB_gi h (by omega)
theorem or_shift {z x : Int} {i : Nat} (hz : 0 ≤ z ∧ z < 2 ^ i) (hx : 0 ≤ x ∧ x ≤ 1) (hi : i < 40) : bits .or .i64 z (wrap64 (x * 2 ^ i)) = z + x * 2 ^ i := by
  obtain ⟨Z, rfl⟩ := Int.eq_ofNat_of_zero_le hz.1
  obtain ⟨X, rfl⟩ := Int.eq_ofNat_of_zero_le hx.1
  have hX : X ≤ 1 := by omega
  have h1 : Z < 2 ^ i := by have := hz.2; exact_mod_cast this
  have h2 : 2 ^ i ≤ 2 ^ 40 := Nat.pow_le_pow_right (by omega) (by omega)
  have h3 : (2 : Nat) ^ 40 = 1099511627776 := by decide
  have h5 : X * 2 ^ i ≤ 1 * 2 ^ i := Nat.mul_le_mul_right _ hX
  have h4 : ((X : Int) * 2 ^ i) = ((X * 2 ^ i : Nat) : Int) := by rw [Int.natCast_mul, Int.natCast_pow]; rfl
  have h6 : wrap64 ((X : Int) * 2 ^ i) = ((X * 2 ^ i : Nat) : Int) := by rw [h4]; exact IntWalk.wrap64_in ((X * 2 ^ i : Nat) : Int) (by omega)
  rw [h6, h4, bor_nat (by omega) (by omega), or_place h1]; omega
theorem btOf_any (n k : Nat) (w : World) (hn : n ≤ 1099511627776) (hk : k ≤ 1000000) : Calls Try.prog 69 #[.int .i64 n, .int .i64 k] w (RetI w (bitsN n k)) := by
  go_enter Try.func69, Try.ntmps69
  go_wp2
  go_loopw [5, 0, 1] (fun v a b wr => ∃ (i : Nat) (A' : Option Addr) (c' : Nat), i ≤ k ∧ b = .int .i64 ((k - i : Nat) : Int) ∧ a = .int .i64 ((n / 2 ^ i : Nat) : Int) ∧ v = .slice A' i c' ∧ Own wr w.heap.size wr.heap.size (.slice A' i c') i (bitsN n i) ∧ Below w.heap.size w wr) (fun _ _ b _ => (intOf b).toNat)
  case atStart => exact ⟨0, _, _, Nat.zero_le _, rfl, by simp, rfl, Own.none_ _ _ _, Below.refl _ _⟩
  case round =>
    obtain ⟨i, A', c', hi, rfl, rfl, rfl, hown, hbw⟩ := hrel
    by_cases hlt : i < k
    · have hsn : Hid (bitsN n (i + 1) = bitsN n i ++ [((n / 2 ^ i % 2 : Nat) : Int)]) := Lib.hid (bitsN_snoc n i)
      have hdv : Hid (n / 2 ^ (i + 1) = n / 2 ^ i / 2) := Lib.hid (by rw [Nat.pow_succ, Nat.div_div_eq_div_mul])
      have hle : n / 2 ^ i ≤ n := Nat.div_le_self _ _
      generalize n / 2 ^ i = z at *
      have hz := hbw.size
      rw [Int.natCast_emod] at hsn
      have hownA := hown.alloc (.cells #[.int .i64 ((z : Int) % 2)] 3)
      have hbA := hbw.alloc hz (.cells #[.int .i64 ((z : Int) % 2)] 3)
      go_wp2_with (at_builtin; refine wpList_app _ rfl _ _ rfl rfl hownA rfl (RI_one _ _ _ _ (by simp)) (by omega) (by first | omega | (simp; done) | (simp; omega)) ?_; intro A5 c5 w5 hown5 hg5 hat5)
      have hb5 := below_app hbA hownA hg5 (by simp; omega) (Nat.le_refl _)
      rw [show [(z : Int) % ((2 : Nat) : Int)] = [(z : Int) % 2] from rfl] at hsn
      rw [← hsn.out] at hown5
      clear hbA hownA hg5 hat5 hown hbw
      go_wp2
      go_roundw
      case rel => exact ⟨i + 1, _, _, by omega, by go_num, by rw [hdv.out]; go_num, rfl, hown5, hb5⟩
      case measure => simp [intOf]; omega
    · obtain rfl : i = k := by omega
      go_wp2
      go_ret
      exact RetI.mk_ (bitsN_len _ _) rfl hown hbw
theorem bitsOf_any (n k : Nat) (w : World) (hn : n ≤ 1099511627776) (hk : k ≤ 40) : Calls Try.prog 41 #[.int .i64 n, .int .i64 k] w (RetI w (bitsN n k)) := by
  go_enter Try.func41, Try.ntmps41
  go_wp2
  go_loopw [5, 9] (fun v b wr => ∃ (i : Nat) (A' : Option Addr) (c' : Nat), i ≤ k ∧ b = .int .i64 i ∧ v = .slice A' i c' ∧ Own wr w.heap.size wr.heap.size (.slice A' i c') i (bitsN n i) ∧ Below w.heap.size w wr) (fun _ b _ => k - (intOf b).toNat)
  case atStart => exact ⟨0, _, _, Nat.zero_le _, rfl, rfl, by simpa [bitsN, tab_zero] using Own_new0 w w.heap.size (Nat.le_refl _), (Below.refl _ _).alloc (Nat.le_refl _) _⟩
  case round =>
    obtain ⟨i, A', c', hi, rfl, rfl, hown, hbw⟩ := hrel
    by_cases hlt : i < k
    · have hsn : Hid (bitsN n (i + 1) = bitsN n i ++ [((n / 2 ^ i % 2 : Nat) : Int)]) := Lib.hid (bitsN_snoc n i)
      have hz := hbw.size
      have hle : n / 2 ^ i ≤ n := Nat.div_le_self _ _
      have hq : Hid (bits .and .i64 ((n : Int) / 2 ^ i) 1 = ((n / 2 ^ i % 2 : Nat) : Int)) := Lib.hid (by
        have h1 := band_nat (a := n / 2 ^ i) (b := 1) (by omega) (by omega)
        rw [and_one] at h1
        rw [← h1]; simp [Int.natCast_ediv, Int.natCast_pow])
      rw [← hq.out] at hsn
      have hownA := hown.alloc (.cells #[.int .i64 (bits .and .i64 ((n : Int) / 2 ^ i) 1)] 3)
      have hbA := hbw.alloc hz (.cells #[.int .i64 (bits .and .i64 ((n : Int) / 2 ^ i) 1)] 3)
      go_wp2_with (at_builtin; refine wpList_app _ rfl _ _ rfl rfl hownA rfl (RI_one _ _ _ _ (by simp)) (by omega) (by first | omega | (simp; done) | (simp; omega)) ?_; intro A5 c5 w5 hown5 hg5 hat5)
      have hb5 := below_app hbA hownA hg5 (by simp; omega) (Nat.le_refl _)
      rw [← hsn.out] at hown5
      clear hbA hownA hg5 hat5 hown hbw
      go_wp2
      go_roundw
      case rel => exact ⟨i + 1, _, _, by omega, by go_num, rfl, hown5, hb5⟩
      case measure => simp [intOf]; omega
    · obtain rfl : i = k := by omega
      go_wp2
      go_ret
      exact RetI.mk_ (bitsN_len _ _) rfl hown hbw
theorem number_any (A : Option Addr) (n c : Nat) (xs : List Int) (w : World) (ha : RI w A n xs) (hn : n ≤ 40) (hx : allB 0 1 xs = true) : Calls Try.prog 37 #[.slice A n c] w fun e w' => e = .returned (.int .i64 (numN xs)) ∧ w = w' := by
  have hl := ha.len
  have HB := Lib.hid fun i => numN_bd (allB_take_ hx i)
  go_enter Try.func37, Try.ntmps37
  go_wp2
  go_loop [3, 8] (fun v b => ∃ i : Nat, i ≤ n ∧ b = .int .i64 i ∧ v = .int .i64 (numN (xs.take i))) (fun _ b => n - (intOf b).toNat)
  case atStart => exact ⟨0, Nat.zero_le _, rfl, rfl⟩
  case round =>
    obtain ⟨i, hi, rfl, rfl⟩ := hrel
    by_cases hlt : i < n
    · obtain ⟨b, o, rfl, hbB, e1⟩ := ha.at_ (k := i) hlt
      clear ha
      obtain ⟨c1, c2⟩ := allB_gi hx (j := i) (by omega)
      obtain ⟨b1, b2⟩ := HB.out i
      have hs : Hid (numN (xs.take (i + 1)) = numN (xs.take i) + gi xs i * 2 ^ i) := Lib.hid (by
        rw [gi_take_snoc (by omega), numN_snoc, List.length_take, Nat.min_eq_left (by omega)])
      have hln : (xs.take i).length = i := by simp; omega
      rw [hln] at b2
      generalize numN (xs.take i) = z at *
      generalize gi xs i = x at *
      have hq : Hid (bits .or .i64 z (wrap64 (x * 2 ^ i)) = z + x * 2 ^ i) := Lib.hid (or_shift ⟨b1, b2⟩ ⟨c1, c2⟩ (by omega))
      clear b1 b2
      go_wp2
      go_round
      case rel => exact ⟨i + 1, by omega, by go_num, by rw [hs.out, hq.out]⟩
      case measure => simp [intOf]; omega
    · obtain rfl : i = n := by omega
      have ht : Hid (numN (xs.take i) = numN xs) := Lib.hid (by rw [List.take_of_length_le (by omega)])
      go_wp2
      go_ret
      exact ⟨by rw [← ht.out]; rfl, rfl⟩
theorem ggA_l {xs ys : List G3} {j : Nat} (h : j < xs.length) : gg (xs ++ ys) j = gg xs j := by
  unfold gg; rw [List.getD_eq_getElem?_getD, List.getD_eq_getElem?_getD, List.getElem?_append_left h]
theorem ggA_r (xs : List G3) (v : G3) : gg (xs ++ [v]) xs.length = v := by unfold gg; simp
theorem gi_lastG {xs : List Int} {v : Int} {n : Nat} (h : xs.length = n) : gi (xs ++ [v]) n = v := by subst h; exact gi_append_at
theorem vals_gsG {gs hs : List G3} {inp : List Int} : ∀ k, (∀ j, j < k → gg gs j = gg hs j) → vals gs inp k = vals hs inp k := by
  intro k
  induction k with
  | zero => intro _; rfl
  | succ k ih => intro h; rw [vals_succ, vals_succ, ih (fun j hj => h j (by omega)), h k (by omega)]
def wv (inp : List Int) (gs : List G3) (z : Int) : Int := gi (vals gs inp gs.length) z.toNat
theorem vals_app (gs : List G3) (g : G3) (inp : List Int) : vals (gs ++ [g]) inp (gs ++ [g]).length = vals gs inp gs.length ++ [gval g (vals gs inp gs.length)] := by
  rw [List.length_append, show ([g] : List G3).length = 1 from rfl, vals_succ, ggA_r, vals_gsG (hs := gs) _ (fun j hj => ggA_l hj)]
theorem wv_old {X : Nat} {inp : List Int} (hX : inp.length = X) {gs : List G3} {g : G3} {z : Int} (h : 0 ≤ z ∧ z < (X : Int) + gs.length) : wv inp (gs ++ [g]) z = wv inp gs z := by
  unfold wv; rw [vals_app, gi_append_lt (by rw [vals_len, hX]; omega)]
theorem wv_new {X : Nat} {inp : List Int} (hX : inp.length = X) {gs : List G3} {g : G3} {z : Int} (h : z = (X : Int) + gs.length) : wv inp (gs ++ [g]) z = gval g (vals gs inp gs.length) := by
  unfold wv; rw [vals_app, h, show ((X : Int) + (gs.length : Nat)).toNat = X + gs.length by omega, gi_lastG (by rw [vals_len, hX])]
theorem wv_nil (inp : List Int) (z : Int) : wv inp [] z = gi inp z.toNat := rfl
theorem gval_x (inp : List Int) (gs : List G3) (a b : Int) : gval ⟨0, a, b⟩ (vals gs inp gs.length) = bxor (wv inp gs a) (wv inp gs b) := rfl
theorem gval_a (inp : List Int) (gs : List G3) (a b : Int) : gval ⟨1, a, b⟩ (vals gs inp gs.length) = band (wv inp gs a) (wv inp gs b) := rfl
theorem gval_n (inp : List Int) (gs : List G3) (a b : Int) : gval ⟨2, a, b⟩ (vals gs inp gs.length) = 1 - wv inp gs a := rfl
def Bt (v : Int) : Prop := 0 ≤ v ∧ v ≤ 1
structure Kp (X : Nat) (inp : List Int) (gs hs : List G3) : Prop where
  len : gs.length ≤ hs.length
  v : ∀ z : Int, 0 ≤ z ∧ z < (X : Int) + gs.length → wv inp hs z = wv inp gs z
theorem Kp.refl (X : Nat) (inp : List Int) (gs : List G3) : Kp X inp gs gs := ⟨Nat.le_refl _, fun _ _ => rfl⟩
theorem Kp.trans {X : Nat} {inp : List Int} {a b c : List G3} (h : Kp X inp a b) (k : Kp X inp b c) : Kp X inp a c :=
  ⟨Nat.le_trans h.len k.len, fun z hz => (k.v z (by have := h.len; omega)).trans (h.v z hz)⟩
theorem Kp.snoc {X : Nat} {inp : List Int} (hX : inp.length = X) {a b : List G3} (h : Kp X inp a b) (g : G3) : Kp X inp a (b ++ [g]) :=
  ⟨by rw [List.length_append]; exact Nat.le_trans h.len (Nat.le_add_right _ _), fun z hz => (wv_old hX (by have := h.len; omega)).trans (h.v z hz)⟩
def nb (f : Nat → Int) : Nat → Int
  | 0 => 0
  | i + 1 => nb f i + f i * 2 ^ i
theorem nb_congr {f g : Nat → Int} : ∀ i, (∀ j, j < i → f j = g j) → nb f i = nb g i
  | 0, _ => rfl
  | i + 1, h => by rw [nb, nb, nb_congr i (fun j hj => h j (by omega)), h i (by omega)]
theorem numN_nb (l : List Int) : ∀ i, i ≤ l.length → numN (l.take i) = nb (gi l) i := by
  intro i
  induction i with
  | zero => intro _; rfl
  | succ i ih => intro h; rw [gi_take_snoc (by omega), numN_snoc, ih (by omega), nb, List.length_take, Nat.min_eq_left (by omega)]
theorem numN_nb' (l : List Int) : numN l = nb (gi l) l.length := by rw [← numN_nb l l.length (Nat.le_refl _), List.take_length]
theorem nb_bd {f : Nat → Int} : ∀ i, (∀ j, j < i → Bt (f j)) → 0 ≤ nb f i ∧ nb f i < 2 ^ i
  | 0, _ => by simp [nb]
  | i + 1, h => by
    have h1 := nb_bd i (fun j hj => h j (by omega))
    have h2 := h i (by omega)
    rw [nb, Int.pow_succ]
    rcases (show f i = 0 ∨ f i = 1 by unfold Bt at h2; omega) with e | e <;> rw [e] <;> omega
theorem nb_inj {f g : Nat → Int} : ∀ i, (∀ j, j < i → Bt (f j)) → (∀ j, j < i → Bt (g j)) → nb f i = nb g i → ∀ j, j < i → f j = g j := by
  intro i
  induction i with
  | zero => intro _ _ _ j hj; omega
  | succ i ih =>
    intro hf hg he j hj
    have h1 := nb_bd i (fun j hj => hf j (by omega))
    have h2 := nb_bd i (fun j hj => hg j (by omega))
    have h3 := hf i (by omega)
    have h4 := hg i (by omega)
    rw [nb, nb] at he
    have hi : f i = g i := by
      rcases (show f i = 0 ∨ f i = 1 by unfold Bt at h3; omega) with e | e <;> rcases (show g i = 0 ∨ g i = 1 by unfold Bt at h4; omega) with e' | e' <;> rw [e, e'] at he <;> rw [e, e'] <;> omega
    rcases Nat.lt_or_ge j i with h | h
    · exact ih (fun j hj => hf j (by omega)) (fun j hj => hg j (by omega)) (by rw [hi] at he; omega) j h
    · obtain rfl : j = i := by omega
      exact hi
theorem numN_bits (n k : Nat) : numN (bitsN n k) = ((n % 2 ^ k : Nat) : Int) := by
  induction k with
  | zero => simp [bitsN, tab, numN, Nat.mod_one]
  | succ k ih =>
    rw [bitsN_snoc, numN_snoc, ih, bitsN_len, Nat.mod_pow_succ]
    simp only [Int.natCast_add, Int.natCast_mul, Int.natCast_pow]
    rw [Int.mul_comm]; rfl
theorem numN_bits' {n k : Nat} (h : n < 2 ^ k) : numN (bitsN n k) = n := by rw [numN_bits, Nat.mod_eq_of_lt h]
theorem bitsN_bt {n k j : Nat} (h : j < k) : Bt (gi (bitsN n k) j) := allB_gi (bitsN_bd n k) (by rw [bitsN_len]; exact h)
theorem bx {a b : Int} (ha : Bt a) (hb : Bt b) : bxor a b = (a + b) % 2 := bxor_bit ha hb
theorem ba {a b : Int} (ha : Bt a) (hb : Bt b) : band a b = a * b := band_bit ha hb
theorem bt01 {a : Int} (h : Bt a) : a = 0 ∨ a = 1 := by unfold Bt at h; omega
section
variable {X : Nat} {inp : List Int} (hX : inp.length = X)
include hX
theorem sub6 {g : List G3} {a b c : Int} (ha : 0 ≤ a ∧ a < (X : Int) + g.length) (hb : 0 ≤ b ∧ b < (X : Int) + g.length) (hc : 0 ≤ c ∧ c < (X : Int) + g.length) (va : Bt (wv inp g a)) (vb : Bt (wv inp g b)) (vc : Bt (wv inp g c)) (n : Int) (hn : n = (X : Int) + g.length) :
    Kp X inp g (g ++ [⟨0, a, c⟩] ++ [⟨0, b, c⟩] ++ [⟨0, n, b⟩] ++ [⟨2, n, 0⟩] ++ [⟨1, n + 3, n + 1⟩] ++ [⟨0, n + 4, c⟩]) ∧
    Bt (wv inp (g ++ [⟨0, a, c⟩] ++ [⟨0, b, c⟩] ++ [⟨0, n, b⟩] ++ [⟨2, n, 0⟩] ++ [⟨1, n + 3, n + 1⟩] ++ [⟨0, n + 4, c⟩]) (n + 2)) ∧
    Bt (wv inp (g ++ [⟨0, a, c⟩] ++ [⟨0, b, c⟩] ++ [⟨0, n, b⟩] ++ [⟨2, n, 0⟩] ++ [⟨1, n + 3, n + 1⟩] ++ [⟨0, n + 4, c⟩]) (n + 5)) ∧
    wv inp (g ++ [⟨0, a, c⟩] ++ [⟨0, b, c⟩] ++ [⟨0, n, b⟩] ++ [⟨2, n, 0⟩] ++ [⟨1, n + 3, n + 1⟩] ++ [⟨0, n + 4, c⟩]) (n + 2) - 2 * wv inp (g ++ [⟨0, a, c⟩] ++ [⟨0, b, c⟩] ++ [⟨0, n, b⟩] ++ [⟨2, n, 0⟩] ++ [⟨1, n + 3, n + 1⟩] ++ [⟨0, n + 4, c⟩]) (n + 5) = wv inp g a - wv inp g b - wv inp g c := by
  have k1 := (Kp.refl X inp g).snoc hX ⟨0, a, c⟩
  have l1 : (g ++ [(⟨0, a, c⟩ : G3)]).length = g.length + 1 := by simp
  have e1 : wv inp (g ++ [⟨0, a, c⟩]) n = (wv inp g a + wv inp g c) % 2 := by rw [wv_new hX hn, gval_x, bx va vc]
  generalize g ++ [(⟨0, a, c⟩ : G3)] = g1 at *
  have k2 := k1.snoc hX ⟨0, b, c⟩
  have l2 : (g1 ++ [(⟨0, b, c⟩ : G3)]).length = g.length + 2 := by simp [l1]
  have e2 : wv inp (g1 ++ [⟨0, b, c⟩]) (n + 1) = (wv inp g b + wv inp g c) % 2 := by
    rw [wv_new hX (by rw [l1]; omega), gval_x, k1.v b hb, k1.v c hc, bx vb vc]
  have f2 : wv inp (g1 ++ [⟨0, b, c⟩]) n = (wv inp g a + wv inp g c) % 2 := by rw [wv_old hX (by rw [l1]; omega), e1]
  generalize g1 ++ [(⟨0, b, c⟩ : G3)] = g2 at *
  have k3 := k2.snoc hX ⟨0, n, b⟩
  have l3 : (g2 ++ [(⟨0, n, b⟩ : G3)]).length = g.length + 3 := by simp [l2]
  have e3 : wv inp (g2 ++ [⟨0, n, b⟩]) (n + 2) = (wv inp g a + wv inp g b + wv inp g c) % 2 := by
    rw [wv_new hX (by rw [l2]; omega), gval_x, f2, k2.v b hb, bx (by unfold Bt; omega) vb]; omega
  have f3 : wv inp (g2 ++ [⟨0, n, b⟩]) n = (wv inp g a + wv inp g c) % 2 := by rw [wv_old hX (by rw [l2]; omega), f2]
  have h3 : wv inp (g2 ++ [⟨0, n, b⟩]) (n + 1) = (wv inp g b + wv inp g c) % 2 := by rw [wv_old hX (by rw [l2]; omega), e2]
  generalize g2 ++ [(⟨0, n, b⟩ : G3)] = g3 at *
  have k4 := k3.snoc hX ⟨2, n, 0⟩
  have l4 : (g3 ++ [(⟨2, n, 0⟩ : G3)]).length = g.length + 4 := by simp [l3]
  have e4 : wv inp (g3 ++ [⟨2, n, 0⟩]) (n + 3) = 1 - (wv inp g a + wv inp g c) % 2 := by rw [wv_new hX (by rw [l3]; omega), gval_n, f3]
  have f4 : wv inp (g3 ++ [⟨2, n, 0⟩]) (n + 2) = (wv inp g a + wv inp g b + wv inp g c) % 2 := by rw [wv_old hX (by rw [l3]; omega), e3]
  have h4 : wv inp (g3 ++ [⟨2, n, 0⟩]) (n + 1) = (wv inp g b + wv inp g c) % 2 := by rw [wv_old hX (by rw [l3]; omega), h3]
  generalize g3 ++ [(⟨2, n, 0⟩ : G3)] = g4 at *
  have k5 := k4.snoc hX ⟨1, n + 3, n + 1⟩
  have l5 : (g4 ++ [(⟨1, n + 3, n + 1⟩ : G3)]).length = g.length + 5 := by simp [l4]
  have e5 : wv inp (g4 ++ [⟨1, n + 3, n + 1⟩]) (n + 4) = (1 - (wv inp g a + wv inp g c) % 2) * ((wv inp g b + wv inp g c) % 2) := by
    rw [wv_new hX (by rw [l4]; omega), gval_a, e4, h4, ba (by unfold Bt; omega) (by unfold Bt; omega)]
  have f5 : wv inp (g4 ++ [⟨1, n + 3, n + 1⟩]) (n + 2) = (wv inp g a + wv inp g b + wv inp g c) % 2 := by rw [wv_old hX (by rw [l4]; omega), f4]
  generalize g4 ++ [(⟨1, n + 3, n + 1⟩ : G3)] = g5 at *
  have e6 : wv inp (g5 ++ [⟨0, n + 4, c⟩]) (n + 2) = (wv inp g a + wv inp g b + wv inp g c) % 2 := by rw [wv_old hX (by rw [l5]; omega), f5]
  have f6 : wv inp (g5 ++ [⟨0, n + 4, c⟩]) (n + 5) = bxor ((1 - (wv inp g a + wv inp g c) % 2) * ((wv inp g b + wv inp g c) % 2)) (wv inp g c) := by
    rw [wv_new hX (by rw [l5]; omega), gval_x, e5, k5.v c hc]
  refine ⟨k5.snoc hX _, ?_, ?_, ?_⟩
  · rw [e6]; unfold Bt; omega
  · rw [f6]; unfold Bt
    rcases bt01 va with h1 | h1 <;> rcases bt01 vb with h2 | h2 <;> rcases bt01 vc with h3 | h3 <;> rw [h1, h2, h3] <;> decide
  · rw [e6, f6]
    rcases bt01 va with h1 | h1 <;> rcases bt01 vb with h2 | h2 <;> rcases bt01 vc with h3 | h3 <;> rw [h1, h2, h3] <;> decide
theorem sub3 {g : List G3} {a b : Int} (ha : 0 ≤ a ∧ a < (X : Int) + g.length) (hb : 0 ≤ b ∧ b < (X : Int) + g.length) (va : Bt (wv inp g a)) (vb : Bt (wv inp g b)) (n : Int) (hn : n = (X : Int) + g.length) :
    Kp X inp g (g ++ [⟨0, a, b⟩] ++ [⟨2, a, 0⟩] ++ [⟨1, n + 1, b⟩]) ∧ Bt (wv inp (g ++ [⟨0, a, b⟩] ++ [⟨2, a, 0⟩] ++ [⟨1, n + 1, b⟩]) n) ∧ Bt (wv inp (g ++ [⟨0, a, b⟩] ++ [⟨2, a, 0⟩] ++ [⟨1, n + 1, b⟩]) (n + 2)) ∧
    wv inp (g ++ [⟨0, a, b⟩] ++ [⟨2, a, 0⟩] ++ [⟨1, n + 1, b⟩]) n - 2 * wv inp (g ++ [⟨0, a, b⟩] ++ [⟨2, a, 0⟩] ++ [⟨1, n + 1, b⟩]) (n + 2) = wv inp g a - wv inp g b := by
  have k1 := (Kp.refl X inp g).snoc hX ⟨0, a, b⟩
  have l1 : (g ++ [(⟨0, a, b⟩ : G3)]).length = g.length + 1 := by simp
  have e1 : wv inp (g ++ [⟨0, a, b⟩]) n = (wv inp g a + wv inp g b) % 2 := by rw [wv_new hX hn, gval_x, bx va vb]
  generalize g ++ [(⟨0, a, b⟩ : G3)] = g1 at *
  have k2 := k1.snoc hX ⟨2, a, 0⟩
  have l2 : (g1 ++ [(⟨2, a, 0⟩ : G3)]).length = g.length + 2 := by simp [l1]
  have e2 : wv inp (g1 ++ [⟨2, a, 0⟩]) (n + 1) = 1 - wv inp g a := by rw [wv_new hX (by rw [l1]; omega), gval_n, k1.v a ha]
  have f2 : wv inp (g1 ++ [⟨2, a, 0⟩]) n = (wv inp g a + wv inp g b) % 2 := by rw [wv_old hX (by rw [l1]; omega), e1]
  generalize g1 ++ [(⟨2, a, 0⟩ : G3)] = g2 at *
  have e3 : wv inp (g2 ++ [⟨1, n + 1, b⟩]) n = (wv inp g a + wv inp g b) % 2 := by rw [wv_old hX (by rw [l2]; omega), f2]
  have f3 : wv inp (g2 ++ [⟨1, n + 1, b⟩]) (n + 2) = (1 - wv inp g a) * wv inp g b := by
    rw [wv_new hX (by rw [l2]; omega), gval_a, e2, k2.v b hb, ba (by unfold Bt at *; omega) vb]
  refine ⟨k2.snoc hX _, ?_, ?_, ?_⟩
  · rw [e3]; unfold Bt; omega
  · rw [f3]; unfold Bt
    rcases bt01 va with h1 | h1 <;> rcases bt01 vb with h2 | h2 <;> rw [h1, h2] <;> decide
  · rw [e3, f3]
    rcases bt01 va with h1 | h1 <;> rcases bt01 vb with h2 | h2 <;> rw [h1, h2] <;> decide
end
structure Rw_ (X : Nat) (inp : List Int) (g0 : List G3) (us : List Int) (w : Nat) : Prop where
  lt : ∀ j, j < w → 0 ≤ gi us j ∧ gi us j < (X : Int) + g0.length
  bt : ∀ j, j < w → Bt (wv inp g0 (gi us j))
structure AdOk (X : Nat) (inp : List Int) (g0 : List G3) (s : Ad) (i : Nat) : Prop where
  kp : Kp X inp g0 s.g
  ol : ∀ j, j < i → 0 ≤ gi s.o j ∧ gi s.o j < (X : Int) + s.g.length
  ob : ∀ j, j < i → Bt (wv inp s.g (gi s.o j))
  cl : 0 < i → 0 ≤ s.c ∧ s.c < (X : Int) + s.g.length
  cb : 0 < i → Bt (wv inp s.g s.c)
theorem AdOk.next {X : Nat} {inp : List Int} {g0 : List G3} {s : Ad} {i : Nat} (h : AdOk X inp g0 s i) (hl : s.o.length = i) {g' : List G3} {z c : Int} (k : Kp X inp s.g g') (hz : 0 ≤ z ∧ z < (X : Int) + g'.length) (hc : 0 ≤ c ∧ c < (X : Int) + g'.length) (bz : Bt (wv inp g' z)) (bc : Bt (wv inp g' c)) :
    AdOk X inp g0 ⟨g', s.o ++ [z], c⟩ (i + 1) ∧ nb (fun j => wv inp g' (gi (s.o ++ [z]) j)) (i + 1) = nb (fun j => wv inp s.g (gi s.o j)) i + wv inp g' z * 2 ^ i := by
  have hk := k.len
  have ha : ∀ j, j < i → gi (s.o ++ [z]) j = gi s.o j := fun j hj => gi_append_lt (by omega)
  have hb : gi (s.o ++ [z]) i = z := gi_lastG hl
  have hv : ∀ j, j < i → wv inp g' (gi s.o j) = wv inp s.g (gi s.o j) := fun j hj => k.v _ (h.ol j hj)
  refine ⟨⟨h.kp.trans k, fun j hj => ?_, fun j hj => ?_, fun _ => hc, fun _ => bc⟩, ?_⟩
  · rcases Nat.lt_or_ge j i with h1 | h1
    · dsimp only; rw [ha j h1]; have := h.ol j h1; omega
    · obtain rfl : j = i := by omega
      dsimp only; rw [hb]; exact hz
  · rcases Nat.lt_or_ge j i with h1 | h1
    · dsimp only; rw [ha j h1, hv j h1]; exact h.ob j h1
    · obtain rfl : j = i := by omega
      dsimp only; rw [hb]; exact bz
  · rw [nb, hb, nb_congr i (g := fun j => wv inp s.g (gi s.o j)) (fun j hj => by rw [ha j hj, hv j hj])]
theorem subS_v {X : Nat} {inp : List Int} (hX : inp.length = X) {g0 : List G3} {us vs : List Int} {w : Nat} (hu : Rw_ X inp g0 us w) (hv : Rw_ X inp g0 vs w) :
    ∀ i, i ≤ w → AdOk X inp g0 (subS X g0 us vs i) i ∧ (0 < i → nb (fun j => wv inp (subS X g0 us vs i).g (gi (subS X g0 us vs i).o j)) i - wv inp (subS X g0 us vs i).g (subS X g0 us vs i).c * 2 ^ i = nb (fun j => wv inp g0 (gi us j)) i - nb (fun j => wv inp g0 (gi vs j)) i) := by
  intro i
  induction i with
  | zero => intro _; exact ⟨⟨Kp.refl _ _ _, fun j hj => by omega, fun j hj => by omega, fun h => by omega, fun h => by omega⟩, fun h => by omega⟩
  | succ i ih =>
    intro hi
    obtain ⟨h1, h2⟩ := ih (by omega)
    have hl := subS_o X g0 us vs i
    have hk := h1.kp.len
    have la := hu.lt i (by omega)
    have lb := hv.lt i (by omega)
    have ea := h1.kp.v _ la
    have eb := h1.kp.v _ lb
    have ba' := hu.bt i (by omega)
    have bb' := hv.bt i (by omega)
    rw [subS]
    generalize subS X g0 us vs i = s at *
    unfold subStep
    by_cases h0 : i = 0
    · subst h0
      rw [if_pos rfl]
      obtain ⟨k, e0, e1, e2⟩ := sub3 hX (g := s.g) (a := gi us 0) (b := gi vs 0) (by omega) (by omega) (by rw [ea]; exact ba') (by rw [eb]; exact bb') _ rfl
      rw [ea, eb] at e2
      have hl2 : (s.g ++ [(⟨0, gi us 0, gi vs 0⟩ : G3)] ++ [(⟨2, gi us 0, 0⟩ : G3)] ++ [(⟨1, (X : Int) + s.g.length + 1, gi vs 0⟩ : G3)]).length = s.g.length + 3 := by simp
      obtain ⟨a1, a2⟩ := h1.next hl k (z := (X : Int) + s.g.length) (c := (X : Int) + s.g.length + 2) (by omega) (by omega) e0 e1
      refine ⟨a1, fun _ => ?_⟩
      dsimp only
      rw [a2]
      simp only [nb]
      omega
    · rw [if_neg h0]
      have hc := h1.cl (by omega)
      have bc := h1.cb (by omega)
      obtain ⟨k, e0, e1, e2⟩ := sub6 hX (g := s.g) (a := gi us i) (b := gi vs i) (c := s.c) (by omega) (by omega) (by omega) (by rw [ea]; exact ba') (by rw [eb]; exact bb') bc _ rfl
      rw [ea, eb] at e2
      generalize hg' : s.g ++ [(⟨0, gi us i, s.c⟩ : G3)] ++ [(⟨0, gi vs i, s.c⟩ : G3)] ++ [(⟨0, (X : Int) + s.g.length, gi vs i⟩ : G3)] ++ [(⟨2, (X : Int) + s.g.length, 0⟩ : G3)] ++ [(⟨1, (X : Int) + s.g.length + 3, (X : Int) + s.g.length + 1⟩ : G3)] ++ [(⟨0, (X : Int) + s.g.length + 4, s.c⟩ : G3)] = g' at *
      have hl2 : g'.length = s.g.length + 6 := by rw [← hg']; simp
      obtain ⟨a1, a2⟩ := h1.next hl k (z := (X : Int) + s.g.length + 2) (c := (X : Int) + s.g.length + 5) (by omega) (by omega) e0 e1
      refine ⟨a1, fun _ => ?_⟩
      dsimp only
      have h3 := h2 (by omega)
      rw [a2, nb, nb, Int.pow_succ]
      generalize wv inp g0 (gi us i) = a at *
      generalize wv inp g0 (gi vs i) = b at *
      generalize wv inp s.g s.c = c at *
      generalize wv inp g' ((X : Int) + s.g.length + 2) = d at *
      generalize wv inp g' ((X : Int) + s.g.length + 5) = r at *
      generalize (2 : Int) ^ i = P at *
      have h4 : d * P = (2 * r + (a - b - c)) * P := by rw [show d = 2 * r + (a - b - c) by omega]
      rw [Int.add_mul, Int.sub_mul, Int.sub_mul, Int.mul_assoc] at h4
      rw [Int.mul_comm P 2, Int.mul_left_comm]
      omega
end Go.Proofs.Ytliicemcdfidmaa
