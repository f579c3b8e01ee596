/- The contract of the program's RunCompiled. Texts below 2^21 bytes. -/
import Derived.Test.YtenknpcbbcbciaaGreatQR41
import Derived.Test.YtenknpcbbcbciaaGreatQR40
namespace Go.Proofs.YtenknpcbbcbciaaGreat
open Go.RowKit
set_option linter.unusedVariables false
set_option linter.unusedSimpArgs false
def bitOp (K a b : Nat) : Nat := if K = 2 then a ||| b else if K = 1 then a &&& b else a ^^^ b
def opV (op : Str) (n : Nat) (a b : Int) : Int :=
 if op = [43] then (a + b) % 2 ^ n
 else if op = [45] then (a - b) % 2 ^ n
 else if op = [60] then if a < b then 1 else 0
 else if op = [61] then if a = b then 1 else 0
 else if op = [42] then a * b
 else ((bitOp (if op = [38] then 1 else if op = [94] then 0 else 2) a.toNat b.toNat : Nat) : Int)
theorem nat_and_div (a b : Nat) : (a &&& b) / 2 = a / 2 &&& b / 2 := by
 apply Nat.eq_of_testBit_eq
 intro i
 rw [← Nat.testBit_succ, Nat.testBit_and, Nat.testBit_and, Nat.testBit_succ, Nat.testBit_succ]
theorem nat_or_div (a b : Nat) : (a ||| b) / 2 = a / 2 ||| b / 2 := by
 apply Nat.eq_of_testBit_eq
 intro i
 rw [← Nat.testBit_succ, Nat.testBit_or, Nat.testBit_or, Nat.testBit_succ, Nat.testBit_succ]
theorem nat_xor_div (a b : Nat) : (a ^^^ b) / 2 = a / 2 ^^^ b / 2 := by
 apply Nat.eq_of_testBit_eq
 intro i
 rw [← Nat.testBit_succ, Nat.testBit_xor, Nat.testBit_xor, Nat.testBit_succ, Nat.testBit_succ]
theorem bitOp_div (K a b : Nat) : bitOp K a b / 2 = bitOp K (a / 2) (b / 2) := by
 unfold bitOp
 split
 ·exact nat_or_div a b
 split
 ·exact nat_and_div a b
 ·exact nat_xor_div a b
def bop (K : Nat) (a b : Int) : Int := if K = 2 then a + b - a * b else if K = 1 then a * b else (a + b) % 2
theorem bitOp_mod (K a b : Nat) : ((bitOp K a b % 2 : Nat) : Int) = bop K ((a % 2 : Nat) : Int) ((b % 2 : Nat) : Int) := by
 have e : ∀ n : Nat, n % 2 = if n.testBit 0 then 1 else 0 := fun n => by
  rw [Nat.testBit_zero]
  by_cases h : n % 2 = 1
  ·simp [h]
  ·have : n % 2 = 0 := by omega
   simp [this]
 unfold bitOp bop
 rw [e a, e b]
 split
 ·rw [e, Nat.testBit_or]; cases a.testBit 0 <;> cases b.testBit 0 <;> rfl
 split
 ·rw [e, Nat.testBit_and]; cases a.testBit 0 <;> cases b.testBit 0 <;> rfl
 ·rw [e, Nat.testBit_xor]; cases a.testBit 0 <;> cases b.testBit 0 <;> rfl
theorem bop_bt {K : Nat} {a b : Int} (ha : Bt a) (hb : Bt b) : Bt (bop K a b) := by
 rcases bt01 ha with rfl | rfl <;> rcases bt01 hb with rfl | rfl <;> unfold bop <;> split <;> (try split) <;> unfold Bt <;> omega
theorem zip_num (K : Nat) : ∀ (xs ys : List Int), xs.length = ys.length → allB 0 1 xs = true → allB 0 1 ys = true → numN (List.zipWith (bop K) xs ys) = ((bitOp K (numN xs).toNat (numN ys).toNat : Nat) : Int) := by
 intro xs
 induction xs with
 | nil =>
  intro ys hl _ _
  cases ys with
  | nil => unfold bitOp; simp [numN]
  | cons b m => simp at hl
 | cons a l ih =>
  intro ys hl hx hy
  cases ys with
  | nil => simp at hl
  | cons b m =>
   have h1 := allB_iff.1 hx
   have h2 := allB_iff.1 hy
   have ha := h1 a (by simp)
   have hb := h2 b (by simp)
   have hx' : allB 0 1 l = true := allB_iff.2 fun z hz => h1 z (by simp [hz])
   have hy' : allB 0 1 m = true := allB_iff.2 fun z hz => h2 z (by simp [hz])
   have n1 := (Zev hx').1
   have n2 := (Zev hy').1
   have hi := ih m (by simpa using hl) hx' hy'
   rw [List.zipWith_cons_cons, numN, numN, numN, hi]
   obtain ⟨A, hA⟩ : ∃ A, (a + 2 * numN l).toNat = A := ⟨_, rfl⟩
   obtain ⟨B, hB⟩ : ∃ B, (b + 2 * numN m).toNat = B := ⟨_, rfl⟩
   rw [hA, hB]
   have a2 : A / 2 = (numN l).toNat := by omega
   have b2 : B / 2 = (numN m).toNat := by omega
   have a3 : ((A % 2 : Nat) : Int) = a := by omega
   have b3 : ((B % 2 : Nat) : Int) = b := by omega
   have e1 := bitOp_div K A B
   have e2 := bitOp_mod K A B
   rw [a2, b2] at e1
   rw [a3, b3] at e2
   rw [← e1, ← e2]
   have := Nat.mod_add_div (bitOp K A B) 2
   omega
theorem pv_at {inp : List Int} {g : List G3} {us : List Int} {j : Nat} (h : j < us.length) : gi (pv inp g us) j = wv inp g (gi us j) := by unfold pv; rw [gi_map h]
theorem Wl.bd {X : Nat} {inp : List Int} {g : List G3} {us : List Int} (h : Wl X inp g us) : allB 0 1 (pv inp g us) = true := allB_iff.2 fun z hz => by
 obtain ⟨u, hu, rfl⟩ := List.mem_map.1 hz
 exact (h u hu).2
section
variable {X : Nat} {inp : List Int} (hX : inp.length = X)
include hX
theorem constS_v {n k : Nat} (h : n < 2 ^ k) (g : List G3) : PrOk X inp g (constS X (bitsN n k) g) n := by
 have k1 := (Kp.refl X inp g).snoc hX ⟨3, 0, 0⟩
 have e1 : wv inp (g ++ [⟨3, 0, 0⟩]) ((X : Int) + g.length) = 1 := Zbc hX rfl
 have l1 : (g ++ [(⟨3, 0, 0⟩ : G3)]).length = g.length + 1 := by simp
 have k2 := k1.snoc hX ⟨2, (X : Int) + g.length, 0⟩
 have e2 : wv inp (g ++ [⟨3, 0, 0⟩] ++ [⟨2, (X : Int) + g.length, 0⟩]) ((X : Int) + g.length) = 1 := by rw [Zda hX (by rw [l1]; omega), e1]
 have e3 : wv inp (g ++ [⟨3, 0, 0⟩] ++ [⟨2, (X : Int) + g.length, 0⟩]) ((X : Int) + g.length + 1) = 0 := by rw [Zbc hX (by rw [l1]; omega), gval_n, e1]; decide
 have l2 : (g ++ [(⟨3, 0, 0⟩ : G3)] ++ [(⟨2, (X : Int) + g.length, 0⟩ : G3)]).length = g.length + 2 := by simp
 have hval : ∀ b, b = 0 ∨ b = 1 → wv inp (g ++ [⟨3, 0, 0⟩] ++ [⟨2, (X : Int) + g.length, 0⟩]) ((X : Int) + g.length + 1 - b) = b := fun b hb => by
  rcases hb with rfl | rfl
  ·rw [Int.sub_zero, e3]
  ·rw [Int.add_sub_cancel, e2]
 have h01 : ∀ b ∈ bitsN n k, b = 0 ∨ b = 1 := fun b hb => by have := allB_iff.1 (bitsN_bd n k) b hb; omega
 refine ⟨k2, fun z hz => ?_, ?_⟩
 ·obtain ⟨b, hb, rfl⟩ := List.mem_map.1 hz
  have h3 := h01 b hb
  exact ⟨by show 0 ≤ (X : Int) + g.length + 1 - b ∧ _ < (X : Int) + (g ++ [(⟨3, 0, 0⟩ : G3)] ++ [(⟨2, (X : Int) + g.length, 0⟩ : G3)]).length; rw [l2]; omega, by show Bt (wv inp _ ((X : Int) + g.length + 1 - b)); unfold constS; dsimp only; rw [hval b h3]; unfold Bt; omega⟩
 ·have : pv inp (constS X (bitsN n k) g).g (constS X (bitsN n k) g).o = bitsN n k := by
   unfold pv constS
   dsimp only
   rw [List.map_map]
   refine List.ext_getElem (by simp) fun i h1 h2 => ?_
   rw [List.getElem_map]
   exact hval _ (h01 _ (List.getElem_mem h2))
  rw [this, numN_bitsN _ _ h]
theorem nots_w {g : List G3} {us : List Int} (hu : Wl X inp g us) : ∀ j, j ≤ us.length → Kp X inp g (nots X us g j).g ∧ Wl X inp (nots X us g j).g (nots X us g j).o ∧ pv inp (nots X us g j).g (nots X us g j).o = (pv inp g (us.take j)).map fun b => 1 - b := by
 intro j
 induction j with
 | zero => intro _; exact ⟨Kp.refl _ _ _, fun z hz => by simp [nots] at hz, by simp [nots, pv]⟩
 | succ j ih =>
  intro hj
  obtain ⟨h1, h2, h3⟩ := ih (by omega)
  have hu1 := hu _ (Zbp (show j < us.length by omega))
  have ev := h1.v _ hu1.1
  have hk := h1.len
  rw [nots]
  generalize nots X us g j = s at *
  dsimp only
  have k1 := (Kp.refl X inp s.g).snoc hX ⟨2, gi us j, 0⟩
  have l1 : (s.g ++ [(⟨2, gi us j, 0⟩ : G3)]).length = s.g.length + 1 := by simp
  have e1 : wv inp (s.g ++ [⟨2, gi us j, 0⟩]) ((X : Int) + s.g.length) = 1 - wv inp g (gi us j) := by rw [Zbc hX rfl, gval_n, ev]
  obtain ⟨a1, a2⟩ := h2.kp k1
  refine ⟨h1.trans k1, a1.app fun z hz => ?_, ?_⟩
  ·obtain rfl : z = (X : Int) + s.g.length := by simpa using hz
   exact ⟨by rw [l1]; omega, by rw [e1]; have := hu1.2; unfold Bt at this ⊢; omega⟩
  ·rw [pv_app, a2, h3, Zbl (show j < us.length by omega)]
   simp only [pv, List.map_append, List.map_cons, List.map_nil, e1]
omit hX in
theorem numN_not : ∀ (l : List Int), numN (l.map fun b => 1 - b) = 2 ^ l.length - 1 - numN l
 | [] => by simp [numN]
 | a :: l => by rw [List.map_cons, numN, numN, numN_not l, List.length_cons, Int.pow_succ]; omega
theorem nots_v {g : List G3} {us : List Int} (hu : Wl X inp g us) : PrOk X inp g (nots X us g us.length) (2 ^ us.length - 1 - numN (pv inp g us)) := by
 obtain ⟨h1, h2, h3⟩ := nots_w hX hu us.length lR
 exact ⟨h1, h2, by rw [h3, List.take_length, numN_not, pv_len]⟩
theorem bitS_w {g : List G3} {us vs : List Int} {n : Nat} (K : Nat) (hK : K ≤ 2) (hu : Wl X inp g us) (hv : Wl X inp g vs) (hun : us.length = n) (hvn : vs.length = n) : ∀ j, j ≤ n → Kp X inp g (bitS K X us vs g j).g ∧ Wl X inp (bitS K X us vs g j).g (bitS K X us vs g j).o ∧ pv inp (bitS K X us vs g j).g (bitS K X us vs g j).o = List.zipWith (bop K) (pv inp g (us.take j)) (pv inp g (vs.take j)) := by
 intro j
 induction j with
 | zero => intro _; exact ⟨Kp.refl _ _ _, fun z hz => by simp [bitS] at hz, by simp [bitS, pv]⟩
 | succ j ih =>
  intro hj
  obtain ⟨h1, h2, h3⟩ := ih (by omega)
  have hu1 := hu _ (Zbp (show j < us.length by omega))
  have hv1 := hv _ (Zbp (show j < vs.length by omega))
  have eu := h1.v _ hu1.1
  have ev := h1.v _ hv1.1
  have bu := hu1.2
  have bv := hv1.2
  have hk := h1.len
  rw [bitS]
  generalize bitS K X us vs g j = s at *
  have hz : List.zipWith (bop K) (pv inp g (us.take (j + 1))) (pv inp g (vs.take (j + 1))) = List.zipWith (bop K) (pv inp g (us.take j)) (pv inp g (vs.take j)) ++ [bop K (wv inp g (gi us j)) (wv inp g (gi vs j))] := by
   rw [Zbl (show j < us.length by omega), Zbl (show j < vs.length by omega), pv_app, pv_app, List.zipWith_append (by simp [pv]; omega)]
   rfl
  -- the gates of one place
  have one : ∀ (g' : List G3) (z : Int), Kp X inp s.g g' → (0 ≤ z ∧ z < (X : Int) + g'.length) → wv inp g' z = bop K (wv inp g (gi us j)) (wv inp g (gi vs j)) → Kp X inp g g' ∧ Wl X inp g' (s.o ++ [z]) ∧ pv inp g' (s.o ++ [z]) = List.zipWith (bop K) (pv inp g (us.take (j + 1))) (pv inp g (vs.take (j + 1))) := fun g' z k1 hzb hzv => by
   obtain ⟨a1, a2⟩ := h2.kp k1
   refine ⟨h1.trans k1, a1.app fun y hy => ?_, ?_⟩
   ·obtain rfl : y = z := by simpa using hy
    exact ⟨hzb, by rw [hzv]; exact bop_bt bu bv⟩
   ·rw [pv_app, a2, h3, hz]
    simp only [pv, List.map_cons, List.map_nil, hzv]
  have k1 := (Kp.refl X inp s.g).snoc hX
  unfold bitStep
  by_cases hK2 : K = 2
  ·subst hK2
   rw [if_pos rfl]
   have k1 := (Kp.refl X inp s.g).snoc hX ⟨0, gi us j, gi vs j⟩
   have l1 : (s.g ++ [(⟨0, gi us j, gi vs j⟩ : G3)]).length = s.g.length + 1 := by simp
   have e1 : wv inp (s.g ++ [⟨0, gi us j, gi vs j⟩]) ((X : Int) + s.g.length) = (wv inp g (gi us j) + wv inp g (gi vs j)) % 2 := by rw [Zbc hX rfl, Zdy, eu, ev, bx bu bv]
   generalize s.g ++ [(⟨0, gi us j, gi vs j⟩ : G3)] = g1 at *
   have k2 := k1.snoc hX ⟨1, gi us j, gi vs j⟩
   have l2 : (g1 ++ [(⟨1, gi us j, gi vs j⟩ : G3)]).length = s.g.length + 2 := by simp [l1]
   have e2 : wv inp (g1 ++ [⟨1, gi us j, gi vs j⟩]) ((X : Int) + s.g.length + 1) = wv inp g (gi us j) * wv inp g (gi vs j) := by
    rw [Zbc hX (by rw [l1]; omega), gval_a, k1.v _ (by omega), k1.v _ (by omega), eu, ev, ba bu bv]
   have f2 : wv inp (g1 ++ [⟨1, gi us j, gi vs j⟩]) ((X : Int) + s.g.length) = (wv inp g (gi us j) + wv inp g (gi vs j)) % 2 := by rw [Zda hX (by rw [l1]; omega), e1]
   generalize g1 ++ [(⟨1, gi us j, gi vs j⟩ : G3)] = g2 at *
   have k3 := k2.snoc hX ⟨0, (X : Int) + s.g.length, (X : Int) + s.g.length + 1⟩
   have l3 : (g2 ++ [(⟨0, (X : Int) + s.g.length, (X : Int) + s.g.length + 1⟩ : G3)]).length = s.g.length + 3 := by simp [l2]
   refine one _ _ k3 (by rw [l3]; omega) ?_
   rw [Zbc hX (by rw [l2]; omega), Zdy, f2, e2]
   rcases bt01 bu with h4 | h4 <;> rcases bt01 bv with h5 | h5 <;> rw [h4, h5] <;> decide
  ·rw [if_neg hK2]
   have l1 : (s.g ++ [(⟨(K : Nat), gi us j, gi vs j⟩ : G3)]).length = s.g.length + 1 := by simp
   refine one _ _ (k1 _) (by rw [l1]; omega) ?_
   rcases (show K = 0 ∨ K = 1 by omega) with rfl | rfl
   ·rw [Zbc hX rfl]
    show bxor (wv inp s.g (gi us j)) (wv inp s.g (gi vs j)) = _
    rw [eu, ev, bx bu bv]; rfl
   ·rw [Zbc hX rfl]
    show band (wv inp s.g (gi us j)) (wv inp s.g (gi vs j)) = _
    rw [eu, ev, ba bu bv]; rfl
theorem bitS_v {g : List G3} {us vs : List Int} {n : Nat} (K : Nat) (hK : K ≤ 2) (hu : Wl X inp g us) (hv : Wl X inp g vs) (hun : us.length = n) (hvn : vs.length = n) :
 PrOk X inp g (bitS K X us vs g n) ((bitOp K (numN (pv inp g us)).toNat (numN (pv inp g vs)).toNat : Nat) : Int) := by
 obtain ⟨h1, h2, h3⟩ := bitS_w hX K hK hu hv hun hvn n lR
 refine ⟨h1, h2, ?_⟩
 rw [h3, List.take_of_length_le (by omega), List.take_of_length_le (by omega)]
 exact zip_num K _ _ (by rw [pv_len, pv_len]; omega) hu.bd hv.bd
theorem eqlS_v {g : List G3} {us vs : List Int} {n : Nat} (hn : 1 ≤ n) (hu : Wl X inp g us) (hv : Wl X inp g vs) (hun : us.length = n) (hvn : vs.length = n) :
 PrOk X inp g (eqlS X us vs g n) (if numN (pv inp g us) = numN (pv inp g vs) then 1 else 0) := by
 have ru := hu.rw_ hun
 have rv := hv.rw_ hvn
 obtain ⟨h1, h2⟩ := eqs_v hX ru rv n lR
 have he : Rw_ X inp (eqs X g us vs n).g (eqs X g us vs n).o n := ⟨fun j hj => (h2 j hj).1, fun j hj => by rw [(h2 j hj).2]; unfold Bt; omega⟩
 obtain ⟨a1, a2, a3, a4⟩ := ands_v hX he (n - 1) (by omega)
 have key : (∀ j, j ≤ n - 1 → wv inp (eqs X g us vs n).g (gi (eqs X g us vs n).o j) = 1) ↔ numN (pv inp g us) = numN (pv inp g vs) := by
  rw [pv_nb, pv_nb, hun, hvn]
  constructor
  ·intro hj
   refine Zew n fun j hj' => ?_
   have e := hj j (by omega)
   rw [(h2 j hj').2] at e
   have b1 := ru.bt j hj'
   have b2 := rv.bt j hj'
   unfold Bt at b1 b2
   omega
  ·intro e j hj
   rw [(h2 j (by omega)).2]
   have := nb_inj n ru.bt rv.bt e j (by omega)
   have b1 := ru.bt j (by omega)
   unfold Bt at b1
   omega
 rw [key] at a4
 unfold eqlS
 refine ⟨h1.trans a1, fun z hz => ?_, ?_⟩
 ·obtain rfl : z = _ := by simpa using hz
  exact ⟨a2, a3⟩
 ·show numN [wv inp _ _] = _
  simp only [numN, Int.mul_zero, Int.add_zero]
  by_cases he : numN (pv inp g us) = numN (pv inp g vs)
  ·rw [if_pos he]; exact a4.2 he
  ·rw [if_neg he]
   rcases bt01 a3 with h | h
   ·exact h
   ·exact absurd (a4.1 h) he
theorem mulS_v {g : List G3} {us vs : List Int} {n : Nat} (hn : 1 ≤ n) (hu : Wl X inp g us) (hv : Wl X inp g vs) (hun : us.length = n) (hvn : vs.length = n) :
 PrOk X inp g (mulS X us vs g n) (numN (pv inp g us) * numN (pv inp g vs)) := by
 have hp := prod_v hX hn (hu.rw_ hun) (hv.rw_ hvn) (n - 1) (by omega)
 rw [Nat.sub_add_cancel hn] at hp
 have e1 : nb (fun j => wv inp g (gi us j)) n = numN (pv inp g us) := by rw [pv_nb, hun]
 have e2 : nb (fun j => wv inp g (gi vs j)) n = numN (pv inp g vs) := by rw [pv_nb, hvn]
 rw [e1, e2] at hp
 unfold mulS
 split
 ·generalize prodS X g us vs n n = s at *
  obtain ⟨kp, wl, hn'⟩ := hp
  have k1 := (Kp.refl X inp s.g).snoc hX ⟨3, 0, 0⟩
  have e1 : wv inp (s.g ++ [⟨3, 0, 0⟩]) ((X : Int) + s.g.length) = 1 := Zbc hX rfl
  have l1 : (s.g ++ [(⟨3, 0, 0⟩ : G3)]).length = s.g.length + 1 := by simp
  have k2 := k1.snoc hX ⟨2, (X : Int) + s.g.length, 0⟩
  have l2 : (s.g ++ [(⟨3, 0, 0⟩ : G3)] ++ [(⟨2, (X : Int) + s.g.length, 0⟩ : G3)]).length = s.g.length + 2 := by simp
  have e3 : wv inp (s.g ++ [⟨3, 0, 0⟩] ++ [⟨2, (X : Int) + s.g.length, 0⟩]) ((X : Int) + s.g.length + 1) = 0 := by rw [Zbc hX (by rw [l1]; omega), gval_n, e1]; decide
  obtain ⟨a1, a2⟩ := wl.kp k2
  refine ⟨kp.trans k2, a1.app fun z hz => ?_, ?_⟩
  ·obtain rfl : z = (X : Int) + s.g.length + 1 := by simpa using hz
   exact ⟨by rw [l2]; omega, by rw [e3]; unfold Bt; omega⟩
  ·dsimp only
   rw [pv_app, a2, Zdw, hn']
   have : pv inp (s.g ++ [⟨3, 0, 0⟩] ++ [⟨2, (X : Int) + s.g.length, 0⟩]) [(X : Int) + s.g.length + 1] = [0] := by simp only [pv, List.map_cons, List.map_nil, e3]
   rw [this]; simp [numN]
 ·exact hp
omit hX in
theorem mod_of {D c P s : Int} (h : D + c * P = s) (h0 : 0 ≤ D) (h1 : D < P) : D = s % P := by
 rw [← h, Int.add_mul_emod_self_right, Int.emod_eq_of_lt h0 h1]
theorem twoS_v {g : List G3} {us vs : List Int} {n : Nat} {op : Str} (hn : 1 ≤ n) (ho : opB op = true) (hu : Wl X inp g us) (hv : Wl X inp g vs) (hun : us.length = n) (hvn : vs.length = n) :
 PrOk X inp g (twoS X op us vs g n) (opV op n (numN (pv inp g us)) (numN (pv inp g vs))) := by
 have ru := hu.rw_ hun
 have rv := hv.rw_ hvn
 have e1 : nb (fun j => wv inp g (gi us j)) n = numN (pv inp g us) := by rw [pv_nb, hun]
 have e2 : nb (fun j => wv inp g (gi vs j)) n = numN (pv inp g vs) := by rw [pv_nb, hvn]
 have rwOf : ∀ {s : Ad}, AdOk X inp g s n → s.o.length = n → Wl X inp s.g s.o := fun {s} h hl => Wl.of (w := n) ⟨h.ol, h.ob⟩ hl
 have hsub := (subS_v hX ru rv n lR).2 (by omega)
 have hsu := (subS_v hX ru rv n lR).1
 rw [e1, e2] at hsub
 have hso := subS_o X g us vs n
 have hD := nb_bd n hsu.ob
 have hP : (0 : Int) < 2 ^ n := Int.pow_pos (by omega)
 rcases opB_cases ho with rfl | rfl | rfl | rfl | rfl | rfl | rfl | rfl
 ·obtain ⟨h1, h2⟩ := addS_v hX ru rv n lR
  have h3 := h2 (by omega)
  rw [e1, e2] at h3
  have hao := addS_o X g us vs n
  show PrOk X inp g ⟨(addS X g us vs n).g, (addS X g us vs n).o⟩ ((numN (pv inp g us) + numN (pv inp g vs)) % 2 ^ n)
  refine ⟨h1.kp, rwOf h1 hao, ?_⟩
  dsimp only
  rw [pv_nb, hao]
  have hb := nb_bd n h1.ob
  exact mod_of h3 hb.1 hb.2
 ·show PrOk X inp g ⟨(subS X g us vs n).g, (subS X g us vs n).o⟩ ((numN (pv inp g us) - numN (pv inp g vs)) % 2 ^ n)
  refine ⟨hsu.kp, rwOf hsu hso, ?_⟩
  dsimp only
  rw [pv_nb, hso]
  exact mod_of (c := - wv inp (subS X g us vs n).g (subS X g us vs n).c) (by rw [Int.neg_mul]; omega) hD.1 hD.2
 ·exact mulS_v hX hn hu hv hun hvn
 ·show PrOk X inp g ⟨(subS X g us vs n).g, [(subS X g us vs n).c]⟩ (if numN (pv inp g us) < numN (pv inp g vs) then 1 else 0)
  have hcb := hsu.cb (by omega)
  refine ⟨hsu.kp, fun z hz => ?_, ?_⟩
  ·obtain rfl : z = (subS X g us vs n).c := by simpa using hz
   exact ⟨hsu.cl (by omega), hcb⟩
  ·show numN [wv inp _ _] = _
   simp only [numN, Int.mul_zero, Int.add_zero]
   have b1 := (Zev hu.bd).1
   have b2 := Zev hv.bd
   have b3 := Zev hu.bd
   generalize nb (fun j => wv inp (subS X g us vs n).g (gi (subS X g us vs n).o j)) n = D at *
   generalize (2 : Int) ^ n = P at *
   rcases bt01 hcb with h | h <;> rw [h] at hsub ⊢
   ·rw [if_neg (by omega)]
   ·rw [if_pos (by omega)]
 ·exact eqlS_v hX hn hu hv hun hvn
 ·exact bitS_v hX 1 (by omega) hu hv hun hvn
 ·exact bitS_v hX 2 (by omega) hu hv hun hvn
 ·exact bitS_v hX 0 (by omega) hu hv hun hvn
end
def lineV (x : Ln) (n : Nat) (pvs : List Int) : Int :=
 if x.kind = 2 then x.value
 else if x.kind = 3 then opV x.op n (gi pvs 0) (gi pvs 1)
 else if x.kind = 4 then 2 ^ n - 1 - gi pvs 0
 else if x.kind = 5 then gi pvs (2 - gi pvs 0).toNat
 else gi pvs 0
theorem lineG_v {X : Nat} {inp : List Int} (hX : inp.length = X) {g : List G3} {x : Ln} {ps : List (List Int)} {pvs : List Int} (hf : Fit x ps) (h1 : x.kind ≠ 1) (h2 : x.kind = 2 → x.value < 2 ^ x.width.toNat) (hw : ∀ j, j < ps.length → Wl X inp g (gl ps j) ∧ numN (pv inp g (gl ps j)) = gi pvs j) :
 PrOk X inp g (lineG X x ps g) (lineV x (gl ps 0).length pvs) := by
 unfold lineG lineV
 rcases hf with hf | ⟨k2, a1, a2, a3, a4, a5⟩ | ⟨k3, a1, a2, a3, a4, a5⟩ | ⟨k4, a1, a2⟩ | ⟨k5, a1, a2, a3, a4⟩ | ⟨k6, a1, a2⟩
 ·exact absurd hf.1 h1
 ·rw [if_pos k2, if_pos k2]
  obtain ⟨v, hv⟩ : ∃ v : Nat, x.value = v := ⟨x.value.toNat, by omega⟩
  have h3 := h2 k2
  rw [hv] at h3 ⊢
  have h4 : v < 2 ^ x.width.toNat := by
   have e : ((2 ^ x.width.toNat : Nat) : Int) = (2 : Int) ^ x.width.toNat := by rw [Int.natCast_pow]; rfl
   rw [← e] at h3; exact Int.ofNat_lt.1 h3
  exact constS_v hX h4 g
 ·rw [if_neg (by omega), if_pos k3, if_neg (by omega), if_pos k3]
  obtain ⟨w0, e0⟩ := hw 0 (by omega)
  obtain ⟨w1, e1⟩ := hw 1 (by omega)
  rw [← e0, ← e1]
  exact twoS_v hX a2.1 a4 w0 w1 rfl a3
 ·rw [if_neg (by omega), if_neg (by omega), if_pos k4, if_neg (by omega), if_neg (by omega), if_pos k4]
  obtain ⟨w0, e0⟩ := hw 0 (by omega)
  rw [← e0]
  exact nots_v hX w0
 ·rw [if_neg (by omega), if_neg (by omega), if_neg (by omega), if_pos k5, if_neg (by omega), if_neg (by omega), if_neg (by omega), if_pos k5]
  obtain ⟨w0, e0⟩ := hw 0 (by omega)
  obtain ⟨w1, e1⟩ := hw 1 (by omega)
  obtain ⟨w2, e2⟩ := hw 2 (by omega)
  have hs := w0 (gi (gl ps 0) 0) (Zbp (by omega))
  have hsv : gi pvs 0 = wv inp g (gi (gl ps 0) 0) := by
   rw [← e0, pv_nb, a2]
   simp [nb]
  obtain ⟨c1, c2⟩ := chs_v hX hs.1 hs.2 (w1.rw_ rfl) (w2.rw_ a4) (gl ps 1).length lR
  have hco := chs_o X g (gi (gl ps 0) 0) (gl ps 1) (gl ps 2) (gl ps 1).length
  refine ⟨c1, Wl.of (w := (gl ps 1).length) ⟨fun j hj => (c2 j hj).1, fun j hj => ?_⟩ hco, ?_⟩
  ·rw [(c2 j hj).2]
   split
   ·exact (w1.rw_ rfl).bt j hj
   ·exact (w2.rw_ a4).bt j hj
  ·rw [pv_nb, hco, Zew _ (fun j hj => (c2 j hj).2), hsv]
   rcases bt01 hs.2 with h | h <;> rw [h]
   ·simp only [show ¬ ((0 : Int) = 1) by decide, if_false]
    rw [show (2 - (0 : Int)).toNat = 2 from rfl, ← e2, pv_nb, a4]
   ·simp only [if_true]
    rw [show (2 - (1 : Int)).toNat = 1 from rfl, ← e1, pv_nb]
 ·rw [if_neg (by omega), if_neg (by omega), if_neg (by omega), if_neg (by omega), if_neg (by omega), if_neg (by omega), if_neg (by omega), if_neg (by omega)]
  obtain ⟨w0, e0⟩ := hw 0 (by omega)
  exact ⟨Kp.refl _ _ _, w0, e0⟩
def runB (l : List Ln) (bits : List Int) : List Int := pick (vals (cc l).g bits (cc l).g.length) (cc l).os
theorem runB_len (l : List Ln) (bits : List Int) : (runB l bits).length = (cc l).os.length := pick_len _ _
structure CiD (l : List Ln) : Prop where
 ng : (cc l).g.length ≤ 300
 no : (cc l).os.length ≤ 40
 gat : ∀ n : Nat, (n : Int) = sumI (insL l 0) + sumI (insL l 1) → gatesB n (cc l).g (cc l).g.length = true
 out : ∀ n : Nat, (n : Int) = sumI (insL l 0) + sumI (insL l 1) → allB 0 (((n + (cc l).g.length : Nat) : Int) - 1) (cc l).os = true
 offs : offs (outsL l) (outsL l).length = (cc l).os.length
 x : 0 ≤ sumI (insL l 0) ∧ sumI (insL l 0) ≤ 20
 y : 0 ≤ sumI (insL l 1) ∧ sumI (insL l 1) ≤ 20
theorem coB_data {l : List Ln} (h : coB l = true) : CiD l := by
 obtain ⟨hgd, hcb⟩ := Zce h
 obtain ⟨hx, hy, hng, hno, hgat, hos⟩ := circB_parts hcb
 refine ⟨hng, hno, fun n hn => by rw [hn]; exact hgat, fun n hn => ?_, ?_, hx, hy⟩
 ·have : (((n + (cc l).g.length : Nat) : Int) - 1) = sumI (insL l 0) + sumI (insL l 1) + (cc l).g.length - 1 := by omega
  rw [this]; exact hos
 ·have h1 := Zcn (Zdg hgd.2.1)
  have h2 := coB_os hgd
  omega
theorem runB_bd {l : List Ln} (h : CiD l) {bits : List Int} (hb : allB 0 1 bits = true) (hl : (bits.length : Int) = sumI (insL l 0) + sumI (insL l 1)) : allB 0 1 (runB l bits) = true := by
 refine pick_bd (vals_bd (n := (bits.length : Int)) rfl hb _ _ lR (h.gat _ hl)) ?_
 rw [Zdf]; exact h.out _ hl
def rcF (l : List Ln) (xs ys : List Int) : Option (List Int) :=
 if coB l = true ∧ fitB (insL l 0) xs = true ∧ fitB (insL l 1) ys = true then some (numK (outsL l) (runB l (bitsK (insL l 0) xs (insL l 0).length ++ bitsK (insL l 1) ys (insL l 1).length)) (outsL l).length) else none
theorem rcF_len (l : List Ln) (xs ys : List Int) : ((rcF l xs ys).getD []).length ≤ 10 := by
 unfold rcF
 split
 ·rename_i h
  simp only [Option.getD_some, Zcd]
  exact outs10 (Zce h.1).1
 ·simp
set_option maxRecDepth 100000 in
set_option maxHeartbeats 3200000 in
theorem RunCompiled_any (A B C : Option Addr) (n c m d r q : Nat) (l : List Ln) (xs ys : List Int) (w : World) (ha : RLn w A n l) (hn : n ≤ 2097152) (hcap : n ≤ c) (hsh : ∀ x ∈ l, shortL x) (hb : RI w B m xs) (hm : m ≤ 2097152) (hc : RI w C r ys) (hr : r ≤ 2097152) :
 Calls Tryz.prog 7 #[.slice A n c, .slice B m d, .slice C r q] w (RetO w (rcF l xs ys)) := by
 cases hg : coB l with
 | false =>
  have HR : Hid (rcF l xs ys = none) := zH (if_neg (fun h => by rw [hg] at h; cases h.1))
  go_enter Tryz.func7, Tryz.ntmps7
  go_wp2_with fail
  refine (Zea A n c l _ ha hn hcap hsh hg).mono ?_
  rintro e w1 ⟨rfl, hb1⟩
  have hB := hb1.alloc hb1.size (.cells #[.int .i64 0, .int .i64 0, .slice none 0 0, .slice none 0 0, .slice none 0 0, .slice none 0 0] 63)
  clear hg
  go_wp2
  go_ret2
  exact RetO.none_ hB HR.out rfl
 | true =>
  have H0 := zH hg
  have hD := zH (coB_data hg)
  have hgd := (Zce hg).1
  have hl := ha.len
  subst hl
  go_enter Tryz.func7, Tryz.ntmps7
  go_wp2_with fail
  refine (Zdz A l.length c l _ ha hn hcap hsh hg).mono ?_
  rintro e w1 hT
  obtain ⟨Ag, cg, Oa, oc, Ea, ec, Wa, wc, bl, rfl, hC, hE, hW, hb1⟩ := hT
  have al1 : Below w1.heap.size w1 (w1.alloc (.cells #[.int .i64 (sumI (insL l 0)), .int .i64 (sumI (insL l 1)), .slice Ag (cc l).g.length cg, .slice Oa (cc l).os.length oc, .slice Wa l.length wc, .slice Ea l.length ec] 63)) := bA
  have hx : Bx6 (w1.alloc (.cells #[.int .i64 (sumI (insL l 0)), .int .i64 (sumI (insL l 1)), .slice Ag (cc l).g.length cg, .slice Oa (cc l).os.length oc, .slice Wa l.length wc, .slice Ea l.length ec] 63)) w1.heap.size _ _ _ _ _ _ := Bx6.new w1 (.int .i64 (sumI (insL l 0))) (.int .i64 (sumI (insL l 1))) (.slice Ag (cc l).g.length cg) (.slice Oa (cc l).os.length oc) (.slice Wa l.length wc) (.slice Ea l.length ec) 63
  have hB := hb1.trans (al1.mono hb1.size)
  have hG1 := hC.1.reads.below al1 lR
  have hO1 := hC.2.1.reads.below al1 lR
  clear hg hC hE hW
  cases hf : (fitB (insL l 0) xs && fitB (insL l 1) ys) with
  | false =>
   have HR : Hid (rcF l xs ys = none) := zH (if_neg (fun h => by rw [h.2.1, h.2.2] at hf; cases hf))
   have HF := zH hf
   clear hf
   go_wp2_with fail
   refine (Zfb A B C l.length c m d r q l xs ys _ (ha.below hB lR) hn hcap hsh (hb.below hB lR) hm (hc.below hB lR) hr hgd).mono ?_
   rintro e w2 ⟨rfl, hb2⟩
   rw [HF.out]
   go_wp2
   go_ret2
   exact RetO.none_ (hB.trans (hb2.mono hB.size)) HR.out rfl
  | true =>
   have HF := zH hf
   rw [Bool.and_eq_true] at hf
   have hw0 := Zbq hgd.2.1 0
   have hw1 := Zbq hgd.2.1 1
   have hw2 := Zdg hgd.2.1
   have hL0 := Zbb l 0
   have hL1 := Zbb l 1
   have hL2 := outs10 hgd
   have hn30 := hgd.1
   obtain ⟨e0, f0⟩ := fit_1023 hf.1 hw0
   obtain ⟨e1, f1⟩ := fit_1023 hf.2 hw1
   obtain rfl : m = (insL l 0).length := by rw [e0, hb.len]
   obtain rfl : r = (insL l 1).length := by rw [e1, hc.len]
   have HR : Hid (rcF l xs ys = some (numK (outsL l) (runB l (bitsK (insL l 0) xs (insL l 0).length ++ bitsK (insL l 1) ys (insL l 1).length)) (outsL l).length)) := zH (if_pos ⟨H0.out, hf.1, hf.2⟩)
   have ho0 : (if inB 0 1 0 = true then byO (fun x => decide (x.kind = 1) && decide (x.party = 0)) l else none) = some (insL l 0) := by rw [if_pos (show inB 0 1 0 = true from rfl), byO_in, if_pos hgd]
   have ho1 : (if inB 0 1 1 = true then byO (fun x => decide (x.kind = 1) && decide (x.party = 1)) l else none) = some (insL l 1) := by rw [if_pos (show inB 0 1 1 = true from rfl), byO_in, if_pos hgd]
   have ho2 : byO (fun x => decide (x.kind = 6)) l = some (outsL l) := by rw [byO_out, if_pos hgd]
   clear hf e0 e1
   go_wp2_with fail
   refine (Zfb A B C l.length c (insL l 0).length d (insL l 1).length q l xs ys _ (ha.below hB lR) hn hcap hsh (hb.below hB lR) hm (hc.below hB lR) hr hgd).mono ?_
   rintro e w2 ⟨rfl, hb2⟩
   rw [HF.out]
   have hB2 := hB.trans (hb2.mono hB.size)
   have hq0 := Zbg A l.length c 0 l w2 (ha.below hB2 lR) hn hcap hsh
   rw [ho0] at hq0
   go_wp2_with fail
   refine (hq0).mono ?_
   rintro e w3 hT
   obtain ⟨A1, c1, rfl, p1, hb3⟩ := RetO.open_some hT rfl
   have hB3 := hB2.trans (hb3.mono hB2.size)
   have hq1 := Zbg A l.length c 1 l w3 (ha.below hB3 lR) hn hcap hsh
   rw [ho1] at hq1
   clear hT hq0
   go_wp2_with fail
   refine (hq1).mono ?_
   rintro e w4 hT
   obtain ⟨A2, c2, rfl, p2, hb4⟩ := RetO.open_some hT rfl
   have hB4 := hB3.trans (hb4.mono hB3.size)
   have hq2 := Zfc A l.length c l w4 (ha.below hB4 lR) hn hcap hsh
   rw [ho2] at hq2
   clear hT hq1
   go_wp2_with fail
   refine (hq2).mono ?_
   rintro e w5 hT
   obtain ⟨A3, c3, rfl, p3, hb5⟩ := RetO.open_some hT rfl
   have hB5 := hB4.trans (hb5.mono hB4.size)
   have h25 : Below w2.heap.size w2 w5 := (hb3.trans (hb4.mono hb3.size)).trans (hb5.mono (hb3.trans (hb4.mono hb3.size)).size)
   have hbx : Below (w1.alloc (.cells #[.int .i64 (sumI (insL l 0)), .int .i64 (sumI (insL l 1)), .slice Ag (cc l).g.length cg, .slice Oa (cc l).os.length oc, .slice Wa l.length wc, .slice Ea l.length ec] 63)).heap.size (w1.alloc (.cells #[.int .i64 (sumI (insL l 0)), .int .i64 (sumI (insL l 1)), .slice Ag (cc l).g.length cg, .slice Oa (cc l).os.length oc, .slice Wa l.length wc, .slice Ea l.length ec] 63)) w5 := hb2.trans (h25.mono hb2.size)
   have hx5 := hx.below hbx
   have g5 := hG1.below hbx lR
   have o5 := hO1.below hbx lR
   have r1 := (p1.reads.below hb4 lR).below hb5 lR
   have r2 := p2.reads.below hb5 lR
   have r3 := p3.reads
   have rb := hb.below hB5 lR
   have rc := hc.below hB5 lR
   clear hT hq2 ho0 ho1 ho2 p1 p2 p3 hb1 hb2 hb3 hb4 hb5 hB2 hB3 hB4 hB hx hG1 hO1 al1 hbx h25 ha hsh hb hc
   have hD' := hD.out
   have hx0 := hD'.x
   have hy0 := hD'.y
   have s0 := Zcn hw0
   have s1 := Zcn hw1
   obtain ⟨X, hX⟩ := lT (offs (insL l 0) (insL l 0).length)
   obtain ⟨Y, hY⟩ := lT (offs (insL l 1) (insL l 1).length)
   have b0 := Zbs hw0 xs (insL l 0).length lR
   have b1 := Zbs hw1 ys (insL l 1).length lR
   rw [hX.out] at s0 b0
   rw [hY.out] at s1 b1
   have hgat := hD'.gat (X + Y) (by omega)
   have hout := hD'.out (X + Y) (by omega)
   have hofs := hD'.offs
   have hng := hD'.ng
   have hno := hD'.no
   have hbits : allB 0 1 (bitsK (insL l 0) xs (insL l 0).length ++ bitsK (insL l 1) ys (insL l 1).length) = true := allB_iff.2 fun z hz => (List.mem_append.1 hz).elim (fun h => allB_iff.1 (Zcx _ _ _) z h) (fun h => allB_iff.1 (Zcx _ _ _) z h)
   have hrun := runB_bd hD' hbits (by rw [List.length_append, b0, b1]; omega)
   have hrl := runB_len l (bitsK (insL l 0) xs (insL l 0).length ++ bitsK (insL l 1) ys (insL l 1).length)
   have hrb : Hid (pick (vals (cc l).g (bitsK (insL l 0) xs (insL l 0).length ++ bitsK (insL l 1) ys (insL l 1).length) (cc l).g.length) (cc l).os = runB l (bitsK (insL l 0) xs (insL l 0).length ++ bitsK (insL l 1) ys (insL l 1).length)) := zH rfl
   have hvl : (vals (cc l).g (bitsK (insL l 0) xs (insL l 0).length ++ bitsK (insL l 1) ys (insL l 1).length) (cc l).g.length).length = X + Y + (cc l).g.length := by rw [Zdf, List.length_append, b0, b1]
   obtain ⟨b0s, h0s⟩ := lT (bitsK (insL l 0) xs (insL l 0).length)
   obtain ⟨b1s, h1s⟩ := lT (bitsK (insL l 1) ys (insL l 1).length)
   rw [h0s.out, h1s.out] at hbits hrun hrl hrb hvl HR
   rw [h0s.out] at b0
   rw [h1s.out] at b1
   obtain ⟨ng, hngl⟩ := lT ((cc l).g.length)
   obtain ⟨no, hnol⟩ := lT ((cc l).os.length)
   rw [hngl.out] at hx5 g5 hgat hout hng hvl hrb ⊢
   rw [hnol.out] at hx5 o5 hofs hno hrl ⊢
   obtain ⟨k0, k1, k2, k3, _, _⟩ := hx5
   clear hD' hD hX hY
   go_wp2_with fail
   go_region_held3 (fun w' => w'.cell? ⟨w1.heap.size, 0, none⟩ = some (.int .i64 (sumI (insL l 0))) ∧ w'.cell? ⟨w1.heap.size, 1, none⟩ = some (.int .i64 (sumI (insL l 1))) ∧ w'.cell? ⟨w1.heap.size, 2, none⟩ = some (.slice Ag ng cg) ∧ w'.cell? ⟨w1.heap.size, 3, none⟩ = some (.slice Oa no oc))
    (first | go_keep | (go_split_ands; exact ⟨Zag (by assumption) i7, Zag (by assumption) i7, Zag (by assumption) i7, Zag (by assumption) i7⟩) | (go_split_ands; exact ⟨Zag (by assumption) i6, Zag (by assumption) i6, Zag (by assumption) i6, Zag (by assumption) i6⟩) | (go_split_ands; exact ⟨Zag (by assumption) i5, Zag (by assumption) i5, Zag (by assumption) i5, Zag (by assumption) i5⟩) | (go_split_ands; exact ⟨Zag (by assumption) i4, Zag (by assumption) i4, Zag (by assumption) i4, Zag (by assumption) i4⟩) | ((try dsimp only); (repeat' apply And.intro) <;> go_keep))
    (first | (go_at_call_of 47 (Value.slice B (insL l 0).length d); refine (Zfa A1 B (insL l 0).length c1 (insL l 0).length d (insL l 0) xs _ (r1.drewN 1) (rb.drewN 1) (by omega) hw0 f0).mono ?_; rintro e w6 hT6; rw [h0s.out] at hT6; obtain ⟨A6, c6, rfl, p6, i4⟩ := RetI.open_ hT6 b0) | (go_at_call_of 47 (Value.slice C (insL l 1).length q); refine (Zfa A2 C (insL l 1).length c2 (insL l 1).length q (insL l 1) ys _ ((r2.drewN 1).below i4 lR) ((rc.drewN 1).below i4 lR) (by omega) hw1 f1).mono ?_; rintro e w7 hT7; rw [h1s.out] at hT7; obtain ⟨A7, c7, rfl, p7, i5⟩ := RetI.open_ hT7 b1) | (go_at_call 46; refine (with_any A6 A7 X c6 Y c7 b0s b1s _ (p6.reads.below i5 lR) p7.reads (by omega) (by omega)).mono ?_; rintro e w8 ⟨A8, c8, rfl, p8, i6⟩) | (go_at_call 45; refine (Zed (sumI (insL l 0)) (sumI (insL l 1)) Ag ng cg Oa no oc A8 (X + Y) c8 (cc l).g (b0s ++ b1s) _ ((((show RG (w5.drewN 1) Ag ng (cc l).g from g5).below i4 lR).below i5 lR).below i6 lR) p8.reads hbits hgat hng (by omega)).mono ?_; rintro e w9 hT9; obtain ⟨A9, c9, rfl, p9, i7⟩ := RetI.open_ hT9 hvl))
   have j5 : Below w5.heap.size w5 w9 := bnext (bnext (bnext (bnext (Zaj 1) i4) i5) i6) i7
   have q3 := Zcp k3 j5
   have o9 := o5.below j5 lR
   have r9 := r3.below j5 lR
   have hB9 := hB5.trans (j5.mono hB5.size)
   clear i4 i5 i6 i7 j5 k0 k1 k2 k3 g5 o5 r1 r2 r3 rb rc hB5 p6 p7 p8
   go_wp2_with fail
   refine (at_any A9 Oa (X + Y + ng) c9 no oc (vals (cc l).g (b0s ++ b1s) ng) (cc l).os _ p9.reads o9 (by omega) (by omega) hout).mono ?_
   rintro e w10 hT
   rw [hrb.out] at hT
   obtain ⟨A10, c10, rfl, p10, i10⟩ := RetI.open_ hT hrl
   have hcap10 := p10.cap
   go_wp2_with fail
   refine (numbersOf_any A3 A10 (outsL l).length c3 no c10 (outsL l) _ _ (r9.below i10 lR) p10.reads (by omega) (by omega) hcap10 hw2 hrun hofs).mono ?_
   rintro e w11 hT2
   obtain ⟨A11, c11, rfl, p11, i11⟩ := RetI.open_ hT2 (Zcd _ _ _)
   have hB10 := hB9.trans (i10.mono hB9.size)
   go_wp2
   go_ret2
   exact RetO.some_ (hB10.trans (i11.mono hB10.size)) HR.out (Zcd _ _ _) rfl (p11.lo_ hB10.size)
end Go.Proofs.YtenknpcbbcbciaaGreat
