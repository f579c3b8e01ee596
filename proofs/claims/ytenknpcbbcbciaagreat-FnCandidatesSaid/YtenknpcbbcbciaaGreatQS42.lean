/- Plain: a program's lines, the widths and values of their parts. No program in sight. -/
import Derived.Test.YtenknpcbbcbciaaGreatQS41
import Derived.Test.YtenknpcbbcbciaaGreatQS39
namespace Go.Proofs.YtenknpcbbcbciaaGreat
open Go.RowKit
set_option linter.unusedVariables false
set_option linter.unusedSimpArgs false
def bitOp (K a b : Nat) : Nat := if K = 2 then a ||| b else if K = 1 then a &&& b else a ^^^ b
def opV (op : Str) (n : Nat) (a b : Int) : Int :=
 if op = [43] then (a + b) % 2 ^ n
 else if op = [45] then (a - b) % 2 ^ n
 else if op = [60] then if a < b then 1 else 0
 else if op = [61] then if a = b then 1 else 0
 else if op = [42] then a * b
 else ((bitOp (if op = [38] then 1 else if op = [94] then 0 else 2) a.toNat b.toNat : Nat) : Int)
theorem nat_and_div (a b : Nat) : (a &&& b) / 2 = a / 2 &&& b / 2 := by
 apply Nat.eq_of_testBit_eq
 intro i
 rw [← Nat.testBit_succ, Nat.testBit_and, Nat.testBit_and, Nat.testBit_succ, Nat.testBit_succ]
theorem nat_or_div (a b : Nat) : (a ||| b) / 2 = a / 2 ||| b / 2 := by
 apply Nat.eq_of_testBit_eq
 intro i
 rw [← Nat.testBit_succ, Nat.testBit_or, Nat.testBit_or, Nat.testBit_succ, Nat.testBit_succ]
theorem nat_xor_div (a b : Nat) : (a ^^^ b) / 2 = a / 2 ^^^ b / 2 := by
 apply Nat.eq_of_testBit_eq
 intro i
 rw [← Nat.testBit_succ, Nat.testBit_xor, Nat.testBit_xor, Nat.testBit_succ, Nat.testBit_succ]
theorem bitOp_div (K a b : Nat) : bitOp K a b / 2 = bitOp K (a / 2) (b / 2) := by
 unfold bitOp
 split
 ·exact nat_or_div a b
 split
 ·exact nat_and_div a b
 ·exact nat_xor_div a b
def bop (K : Nat) (a b : Int) : Int := if K = 2 then a + b - a * b else if K = 1 then a * b else (a + b) % 2
theorem bitOp_mod (K a b : Nat) : ((bitOp K a b % 2 : Nat) : Int) = bop K ((a % 2 : Nat) : Int) ((b % 2 : Nat) : Int) := by
 have e : ∀ n : Nat, n % 2 = if n.testBit 0 then 1 else 0 := fun n => by
  rw [Nat.testBit_zero]
  by_cases h : n % 2 = 1
  ·simp [h]
  ·have : n % 2 = 0 := by omega
   simp [this]
 unfold bitOp bop
 rw [e a, e b]
 split
 ·rw [e, Nat.testBit_or]; cases a.testBit 0 <;> cases b.testBit 0 <;> rfl
 split
 ·rw [e, Nat.testBit_and]; cases a.testBit 0 <;> cases b.testBit 0 <;> rfl
 ·rw [e, Nat.testBit_xor]; cases a.testBit 0 <;> cases b.testBit 0 <;> rfl
theorem bop_bt {K : Nat} {a b : Int} (ha : Bt a) (hb : Bt b) : Bt (bop K a b) := by
 rcases bt01 ha with rfl | rfl <;> rcases bt01 hb with rfl | rfl <;> unfold bop <;> split <;> (try split) <;> unfold Bt <;> omega
theorem zip_num (K : Nat) : ∀ (xs ys : List Int), xs.length = ys.length → allB 0 1 xs = true → allB 0 1 ys = true → numN (List.zipWith (bop K) xs ys) = ((bitOp K (numN xs).toNat (numN ys).toNat : Nat) : Int) := by
 intro xs
 induction xs with
 | nil =>
  intro ys hl _ _
  cases ys with
  | nil => unfold bitOp; simp [numN]
  | cons b m => simp at hl
 | cons a l ih =>
  intro ys hl hx hy
  cases ys with
  | nil => simp at hl
  | cons b m =>
   have h1 := allB_iff.1 hx
   have h2 := allB_iff.1 hy
   have ha := h1 a (by simp)
   have hb := h2 b (by simp)
   have hx' : allB 0 1 l = true := allB_iff.2 fun z hz => h1 z (by simp [hz])
   have hy' : allB 0 1 m = true := allB_iff.2 fun z hz => h2 z (by simp [hz])
   have n1 := (numN_bd hx').1
   have n2 := (numN_bd hy').1
   have hi := ih m (by simpa using hl) hx' hy'
   rw [List.zipWith_cons_cons, numN, numN, numN, hi]
   obtain ⟨A, hA⟩ : ∃ A, (a + 2 * numN l).toNat = A := ⟨_, rfl⟩
   obtain ⟨B, hB⟩ : ∃ B, (b + 2 * numN m).toNat = B := ⟨_, rfl⟩
   rw [hA, hB]
   have a2 : A / 2 = (numN l).toNat := by omega
   have b2 : B / 2 = (numN m).toNat := by omega
   have a3 : ((A % 2 : Nat) : Int) = a := by omega
   have b3 : ((B % 2 : Nat) : Int) = b := by omega
   have e1 := bitOp_div K A B
   have e2 := bitOp_mod K A B
   rw [a2, b2] at e1
   rw [a3, b3] at e2
   rw [← e1, ← e2]
   have := Nat.mod_add_div (bitOp K A B) 2
   omega
theorem pv_at {inp : List Int} {g : List G3} {us : List Int} {j : Nat} (h : j < us.length) : gi (pv inp g us) j = wv inp g (gi us j) := by unfold pv; rw [gi_map h]
theorem Wl.bd {X : Nat} {inp : List Int} {g : List G3} {us : List Int} (h : Wl X inp g us) : allB 0 1 (pv inp g us) = true := allB_iff.2 fun z hz => by
 obtain ⟨u, hu, rfl⟩ := List.mem_map.1 hz
 exact (h u hu).2
section
variable {X : Nat} {inp : List Int} (hX : inp.length = X)
include hX
theorem constS_v {n k : Nat} (h : n < 2 ^ k) (g : List G3) : PrOk X inp g (constS X (bitsN n k) g) n := by
 have k1 := (Kp.refl X inp g).snoc hX ⟨3, 0, 0⟩
 have e1 : wv inp (g ++ [⟨3, 0, 0⟩]) ((X : Int) + g.length) = 1 := Zbg hX rfl
 have l1 : (g ++ [(⟨3, 0, 0⟩ : G3)]).length = g.length + 1 := by simp
 have k2 := k1.snoc hX ⟨2, (X : Int) + g.length, 0⟩
 have e2 : wv inp (g ++ [⟨3, 0, 0⟩] ++ [⟨2, (X : Int) + g.length, 0⟩]) ((X : Int) + g.length) = 1 := by rw [Zcy hX (by rw [l1]; omega), e1]
 have e3 : wv inp (g ++ [⟨3, 0, 0⟩] ++ [⟨2, (X : Int) + g.length, 0⟩]) ((X : Int) + g.length + 1) = 0 := by rw [Zbg hX (by rw [l1]; omega), gval_n, e1]; decide
 have l2 : (g ++ [(⟨3, 0, 0⟩ : G3)] ++ [(⟨2, (X : Int) + g.length, 0⟩ : G3)]).length = g.length + 2 := by simp
 have hval : ∀ b, b = 0 ∨ b = 1 → wv inp (g ++ [⟨3, 0, 0⟩] ++ [⟨2, (X : Int) + g.length, 0⟩]) ((X : Int) + g.length + 1 - b) = b := fun b hb => by
  rcases hb with rfl | rfl
  ·rw [Int.sub_zero, e3]
  ·rw [Int.add_sub_cancel, e2]
 have h01 : ∀ b ∈ bitsN n k, b = 0 ∨ b = 1 := fun b hb => by have := allB_iff.1 (Zcw n k) b hb; omega
 refine ⟨k2, fun z hz => ?_, ?_⟩
 ·obtain ⟨b, hb, rfl⟩ := List.mem_map.1 hz
  have h3 := h01 b hb
  exact ⟨by show 0 ≤ (X : Int) + g.length + 1 - b ∧ _ < (X : Int) + (g ++ [(⟨3, 0, 0⟩ : G3)] ++ [(⟨2, (X : Int) + g.length, 0⟩ : G3)]).length; rw [l2]; omega, by show Bt (wv inp _ ((X : Int) + g.length + 1 - b)); unfold constS; dsimp only; rw [hval b h3]; unfold Bt; omega⟩
 ·have : pv inp (constS X (bitsN n k) g).g (constS X (bitsN n k) g).o = bitsN n k := by
   unfold pv constS
   dsimp only
   rw [List.map_map]
   refine List.ext_getElem (by simp) fun i h1 h2 => ?_
   rw [List.getElem_map]
   exact hval _ (h01 _ (List.getElem_mem h2))
  rw [this, numN_bitsN _ _ h]
theorem nots_w {g : List G3} {us : List Int} (hu : Wl X inp g us) : ∀ j, j ≤ us.length → Kp X inp g (nots X us g j).g ∧ Wl X inp (nots X us g j).g (nots X us g j).o ∧ pv inp (nots X us g j).g (nots X us g j).o = (pv inp g (us.take j)).map fun b => 1 - b := by
 intro j
 induction j with
 | zero => intro _; exact ⟨Kp.refl _ _ _, fun z hz => by simp [nots] at hz, by simp [nots, pv]⟩
 | succ j ih =>
  intro hj
  obtain ⟨h1, h2, h3⟩ := ih (by omega)
  have hu1 := hu _ (Zbo (show j < us.length by omega))
  have ev := h1.v _ hu1.1
  have hk := h1.len
  rw [nots]
  generalize nots X us g j = s at *
  dsimp only
  have k1 := (Kp.refl X inp s.g).snoc hX ⟨2, gi us j, 0⟩
  have l1 : (s.g ++ [(⟨2, gi us j, 0⟩ : G3)]).length = s.g.length + 1 := by simp
  have e1 : wv inp (s.g ++ [⟨2, gi us j, 0⟩]) ((X : Int) + s.g.length) = 1 - wv inp g (gi us j) := by rw [Zbg hX rfl, gval_n, ev]
  obtain ⟨a1, a2⟩ := h2.kp k1
  refine ⟨h1.trans k1, a1.app fun z hz => ?_, ?_⟩
  ·obtain rfl : z = (X : Int) + s.g.length := by simpa using hz
   exact ⟨by rw [l1]; omega, by rw [e1]; have := hu1.2; unfold Bt at this ⊢; omega⟩
  ·rw [pv_app, a2, h3, Zbj (show j < us.length by omega)]
   simp only [pv, List.map_append, List.map_cons, List.map_nil, e1]
omit hX in
theorem numN_not : ∀ (l : List Int), numN (l.map fun b => 1 - b) = 2 ^ l.length - 1 - numN l
 | [] => by simp [numN]
 | a :: l => by rw [List.map_cons, numN, numN, numN_not l, List.length_cons, Int.pow_succ]; omega
theorem nots_v {g : List G3} {us : List Int} (hu : Wl X inp g us) : PrOk X inp g (nots X us g us.length) (2 ^ us.length - 1 - numN (pv inp g us)) := by
 obtain ⟨h1, h2, h3⟩ := nots_w hX hu us.length lR
 exact ⟨h1, h2, by rw [h3, List.take_length, numN_not, pv_len]⟩
theorem bitS_w {g : List G3} {us vs : List Int} {n : Nat} (K : Nat) (hK : K ≤ 2) (hu : Wl X inp g us) (hv : Wl X inp g vs) (hun : us.length = n) (hvn : vs.length = n) : ∀ j, j ≤ n → Kp X inp g (bitS K X us vs g j).g ∧ Wl X inp (bitS K X us vs g j).g (bitS K X us vs g j).o ∧ pv inp (bitS K X us vs g j).g (bitS K X us vs g j).o = List.zipWith (bop K) (pv inp g (us.take j)) (pv inp g (vs.take j)) := by
 intro j
 induction j with
 | zero => intro _; exact ⟨Kp.refl _ _ _, fun z hz => by simp [bitS] at hz, by simp [bitS, pv]⟩
 | succ j ih =>
  intro hj
  obtain ⟨h1, h2, h3⟩ := ih (by omega)
  have hu1 := hu _ (Zbo (show j < us.length by omega))
  have hv1 := hv _ (Zbo (show j < vs.length by omega))
  have eu := h1.v _ hu1.1
  have ev := h1.v _ hv1.1
  have bu := hu1.2
  have bv := hv1.2
  have hk := h1.len
  rw [bitS]
  generalize bitS K X us vs g j = s at *
  have hz : List.zipWith (bop K) (pv inp g (us.take (j + 1))) (pv inp g (vs.take (j + 1))) = List.zipWith (bop K) (pv inp g (us.take j)) (pv inp g (vs.take j)) ++ [bop K (wv inp g (gi us j)) (wv inp g (gi vs j))] := by
   rw [Zbj (show j < us.length by omega), Zbj (show j < vs.length by omega), pv_app, pv_app, List.zipWith_append (by simp [pv]; omega)]
   rfl
  -- the gates of one place
  have one : ∀ (g' : List G3) (z : Int), Kp X inp s.g g' → (0 ≤ z ∧ z < (X : Int) + g'.length) → wv inp g' z = bop K (wv inp g (gi us j)) (wv inp g (gi vs j)) → Kp X inp g g' ∧ Wl X inp g' (s.o ++ [z]) ∧ pv inp g' (s.o ++ [z]) = List.zipWith (bop K) (pv inp g (us.take (j + 1))) (pv inp g (vs.take (j + 1))) := fun g' z k1 hzb hzv => by
   obtain ⟨a1, a2⟩ := h2.kp k1
   refine ⟨h1.trans k1, a1.app fun y hy => ?_, ?_⟩
   ·obtain rfl : y = z := by simpa using hy
    exact ⟨hzb, by rw [hzv]; exact bop_bt bu bv⟩
   ·rw [pv_app, a2, h3, hz]
    simp only [pv, List.map_cons, List.map_nil, hzv]
  have k1 := (Kp.refl X inp s.g).snoc hX
  unfold bitStep
  by_cases hK2 : K = 2
  ·subst hK2
   rw [if_pos rfl]
   have k1 := (Kp.refl X inp s.g).snoc hX ⟨0, gi us j, gi vs j⟩
   have l1 : (s.g ++ [(⟨0, gi us j, gi vs j⟩ : G3)]).length = s.g.length + 1 := by simp
   have e1 : wv inp (s.g ++ [⟨0, gi us j, gi vs j⟩]) ((X : Int) + s.g.length) = (wv inp g (gi us j) + wv inp g (gi vs j)) % 2 := by rw [Zbg hX rfl, Zee, eu, ev, bx bu bv]
   generalize s.g ++ [(⟨0, gi us j, gi vs j⟩ : G3)] = g1 at *
   have k2 := k1.snoc hX ⟨1, gi us j, gi vs j⟩
   have l2 : (g1 ++ [(⟨1, gi us j, gi vs j⟩ : G3)]).length = s.g.length + 2 := by simp [l1]
   have e2 : wv inp (g1 ++ [⟨1, gi us j, gi vs j⟩]) ((X : Int) + s.g.length + 1) = wv inp g (gi us j) * wv inp g (gi vs j) := by
    rw [Zbg hX (by rw [l1]; omega), gval_a, k1.v _ (by omega), k1.v _ (by omega), eu, ev, ba bu bv]
   have f2 : wv inp (g1 ++ [⟨1, gi us j, gi vs j⟩]) ((X : Int) + s.g.length) = (wv inp g (gi us j) + wv inp g (gi vs j)) % 2 := by rw [Zcy hX (by rw [l1]; omega), e1]
   generalize g1 ++ [(⟨1, gi us j, gi vs j⟩ : G3)] = g2 at *
   have k3 := k2.snoc hX ⟨0, (X : Int) + s.g.length, (X : Int) + s.g.length + 1⟩
   have l3 : (g2 ++ [(⟨0, (X : Int) + s.g.length, (X : Int) + s.g.length + 1⟩ : G3)]).length = s.g.length + 3 := by simp [l2]
   refine one _ _ k3 (by rw [l3]; omega) ?_
   rw [Zbg hX (by rw [l2]; omega), Zee, f2, e2]
   rcases bt01 bu with h4 | h4 <;> rcases bt01 bv with h5 | h5 <;> rw [h4, h5] <;> decide
  ·rw [if_neg hK2]
   have l1 : (s.g ++ [(⟨(K : Nat), gi us j, gi vs j⟩ : G3)]).length = s.g.length + 1 := by simp
   refine one _ _ (k1 _) (by rw [l1]; omega) ?_
   rcases (show K = 0 ∨ K = 1 by omega) with rfl | rfl
   ·rw [Zbg hX rfl]
    show bxor (wv inp s.g (gi us j)) (wv inp s.g (gi vs j)) = _
    rw [eu, ev, bx bu bv]; rfl
   ·rw [Zbg hX rfl]
    show band (wv inp s.g (gi us j)) (wv inp s.g (gi vs j)) = _
    rw [eu, ev, ba bu bv]; rfl
theorem bitS_v {g : List G3} {us vs : List Int} {n : Nat} (K : Nat) (hK : K ≤ 2) (hu : Wl X inp g us) (hv : Wl X inp g vs) (hun : us.length = n) (hvn : vs.length = n) :
 PrOk X inp g (bitS K X us vs g n) ((bitOp K (numN (pv inp g us)).toNat (numN (pv inp g vs)).toNat : Nat) : Int) := by
 obtain ⟨h1, h2, h3⟩ := bitS_w hX K hK hu hv hun hvn n lR
 refine ⟨h1, h2, ?_⟩
 rw [h3, List.take_of_length_le (by omega), List.take_of_length_le (by omega)]
 exact zip_num K _ _ (by rw [pv_len, pv_len]; omega) hu.bd hv.bd
theorem eqlS_v {g : List G3} {us vs : List Int} {n : Nat} (hn : 1 ≤ n) (hu : Wl X inp g us) (hv : Wl X inp g vs) (hun : us.length = n) (hvn : vs.length = n) :
 PrOk X inp g (eqlS X us vs g n) (if numN (pv inp g us) = numN (pv inp g vs) then 1 else 0) := by
 have ru := hu.rw_ hun
 have rv := hv.rw_ hvn
 obtain ⟨h1, h2⟩ := eqs_v hX ru rv n lR
 have he : Rw_ X inp (eqs X g us vs n).g (eqs X g us vs n).o n := ⟨fun j hj => (h2 j hj).1, fun j hj => by rw [(h2 j hj).2]; unfold Bt; omega⟩
 obtain ⟨a1, a2, a3, a4⟩ := ands_v hX he (n - 1) (by omega)
 have key : (∀ j, j ≤ n - 1 → wv inp (eqs X g us vs n).g (gi (eqs X g us vs n).o j) = 1) ↔ numN (pv inp g us) = numN (pv inp g vs) := by
  rw [pv_nb, pv_nb, hun, hvn]
  constructor
  ·intro hj
   refine Zfc n fun j hj' => ?_
   have e := hj j (by omega)
   rw [(h2 j hj').2] at e
   have b1 := ru.bt j hj'
   have b2 := rv.bt j hj'
   unfold Bt at b1 b2
   omega
  ·intro e j hj
   rw [(h2 j (by omega)).2]
   have := nb_inj n ru.bt rv.bt e j (by omega)
   have b1 := ru.bt j (by omega)
   unfold Bt at b1
   omega
 rw [key] at a4
 unfold eqlS
 refine ⟨h1.trans a1, fun z hz => ?_, ?_⟩
 ·obtain rfl : z = _ := by simpa using hz
  exact ⟨a2, a3⟩
 ·show numN [wv inp _ _] = _
  simp only [numN, Int.mul_zero, Int.add_zero]
  by_cases he : numN (pv inp g us) = numN (pv inp g vs)
  ·rw [if_pos he]; exact a4.2 he
  ·rw [if_neg he]
   rcases bt01 a3 with h | h
   ·exact h
   ·exact absurd (a4.1 h) he
theorem mulS_v {g : List G3} {us vs : List Int} {n : Nat} (hn : 1 ≤ n) (hu : Wl X inp g us) (hv : Wl X inp g vs) (hun : us.length = n) (hvn : vs.length = n) :
 PrOk X inp g (mulS X us vs g n) (numN (pv inp g us) * numN (pv inp g vs)) := by
 have hp := prod_v hX hn (hu.rw_ hun) (hv.rw_ hvn) (n - 1) (by omega)
 rw [Nat.sub_add_cancel hn] at hp
 have e1 : nb (fun j => wv inp g (gi us j)) n = numN (pv inp g us) := by rw [pv_nb, hun]
 have e2 : nb (fun j => wv inp g (gi vs j)) n = numN (pv inp g vs) := by rw [pv_nb, hvn]
 rw [e1, e2] at hp
 unfold mulS
 split
 ·generalize prodS X g us vs n n = s at *
  obtain ⟨kp, wl, hn'⟩ := hp
  have k1 := (Kp.refl X inp s.g).snoc hX ⟨3, 0, 0⟩
  have e1 : wv inp (s.g ++ [⟨3, 0, 0⟩]) ((X : Int) + s.g.length) = 1 := Zbg hX rfl
  have l1 : (s.g ++ [(⟨3, 0, 0⟩ : G3)]).length = s.g.length + 1 := by simp
  have k2 := k1.snoc hX ⟨2, (X : Int) + s.g.length, 0⟩
  have l2 : (s.g ++ [(⟨3, 0, 0⟩ : G3)] ++ [(⟨2, (X : Int) + s.g.length, 0⟩ : G3)]).length = s.g.length + 2 := by simp
  have e3 : wv inp (s.g ++ [⟨3, 0, 0⟩] ++ [⟨2, (X : Int) + s.g.length, 0⟩]) ((X : Int) + s.g.length + 1) = 0 := by rw [Zbg hX (by rw [l1]; omega), gval_n, e1]; decide
  obtain ⟨a1, a2⟩ := wl.kp k2
  refine ⟨kp.trans k2, a1.app fun z hz => ?_, ?_⟩
  ·obtain rfl : z = (X : Int) + s.g.length + 1 := by simpa using hz
   exact ⟨by rw [l2]; omega, by rw [e3]; unfold Bt; omega⟩
  ·dsimp only
   rw [pv_app, a2, Zec, hn']
   have : pv inp (s.g ++ [⟨3, 0, 0⟩] ++ [⟨2, (X : Int) + s.g.length, 0⟩]) [(X : Int) + s.g.length + 1] = [0] := by simp only [pv, List.map_cons, List.map_nil, e3]
   rw [this]; simp [numN]
 ·exact hp
omit hX in
theorem mod_of {D c P s : Int} (h : D + c * P = s) (h0 : 0 ≤ D) (h1 : D < P) : D = s % P := by
 rw [← h, Int.add_mul_emod_self_right, Int.emod_eq_of_lt h0 h1]
theorem twoS_v {g : List G3} {us vs : List Int} {n : Nat} {op : Str} (hn : 1 ≤ n) (ho : opB op = true) (hu : Wl X inp g us) (hv : Wl X inp g vs) (hun : us.length = n) (hvn : vs.length = n) :
 PrOk X inp g (twoS X op us vs g n) (opV op n (numN (pv inp g us)) (numN (pv inp g vs))) := by
 have ru := hu.rw_ hun
 have rv := hv.rw_ hvn
 have e1 : nb (fun j => wv inp g (gi us j)) n = numN (pv inp g us) := by rw [pv_nb, hun]
 have e2 : nb (fun j => wv inp g (gi vs j)) n = numN (pv inp g vs) := by rw [pv_nb, hvn]
 have rwOf : ∀ {s : Ad}, AdOk X inp g s n → s.o.length = n → Wl X inp s.g s.o := fun {s} h hl => Wl.of (w := n) ⟨h.ol, h.ob⟩ hl
 have hsub := (subS_v hX ru rv n lR).2 (by omega)
 have hsu := (subS_v hX ru rv n lR).1
 rw [e1, e2] at hsub
 have hso := subS_o X g us vs n
 have hD := nb_bd n hsu.ob
 have hP : (0 : Int) < 2 ^ n := Int.pow_pos (by omega)
 rcases opB_cases ho with rfl | rfl | rfl | rfl | rfl | rfl | rfl | rfl
 ·obtain ⟨h1, h2⟩ := addS_v hX ru rv n lR
  have h3 := h2 (by omega)
  rw [e1, e2] at h3
  have hao := addS_o X g us vs n
  show PrOk X inp g ⟨(addS X g us vs n).g, (addS X g us vs n).o⟩ ((numN (pv inp g us) + numN (pv inp g vs)) % 2 ^ n)
  refine ⟨h1.kp, rwOf h1 hao, ?_⟩
  dsimp only
  rw [pv_nb, hao]
  have hb := nb_bd n h1.ob
  exact mod_of h3 hb.1 hb.2
 ·show PrOk X inp g ⟨(subS X g us vs n).g, (subS X g us vs n).o⟩ ((numN (pv inp g us) - numN (pv inp g vs)) % 2 ^ n)
  refine ⟨hsu.kp, rwOf hsu hso, ?_⟩
  dsimp only
  rw [pv_nb, hso]
  exact mod_of (c := - wv inp (subS X g us vs n).g (subS X g us vs n).c) (by rw [Int.neg_mul]; omega) hD.1 hD.2
 ·exact mulS_v hX hn hu hv hun hvn
 ·show PrOk X inp g ⟨(subS X g us vs n).g, [(subS X g us vs n).c]⟩ (if numN (pv inp g us) < numN (pv inp g vs) then 1 else 0)
  have hcb := hsu.cb (by omega)
  refine ⟨hsu.kp, fun z hz => ?_, ?_⟩
  ·obtain rfl : z = (subS X g us vs n).c := by simpa using hz
   exact ⟨hsu.cl (by omega), hcb⟩
  ·show numN [wv inp _ _] = _
   simp only [numN, Int.mul_zero, Int.add_zero]
   have b1 := (numN_bd hu.bd).1
   have b2 := numN_bd hv.bd
   have b3 := numN_bd hu.bd
   generalize nb (fun j => wv inp (subS X g us vs n).g (gi (subS X g us vs n).o j)) n = D at *
   generalize (2 : Int) ^ n = P at *
   rcases bt01 hcb with h | h <;> rw [h] at hsub ⊢
   ·rw [if_neg (by omega)]
   ·rw [if_pos (by omega)]
 ·exact eqlS_v hX hn hu hv hun hvn
 ·exact bitS_v hX 1 (by omega) hu hv hun hvn
 ·exact bitS_v hX 2 (by omega) hu hv hun hvn
 ·exact bitS_v hX 0 (by omega) hu hv hun hvn
end
def lineV (x : Ln) (n : Nat) (pvs : List Int) : Int :=
 if x.kind = 2 then x.value
 else if x.kind = 3 then opV x.op n (gi pvs 0) (gi pvs 1)
 else if x.kind = 4 then 2 ^ n - 1 - gi pvs 0
 else if x.kind = 5 then gi pvs (2 - gi pvs 0).toNat
 else gi pvs 0
theorem lineG_v {X : Nat} {inp : List Int} (hX : inp.length = X) {g : List G3} {x : Ln} {ps : List (List Int)} {pvs : List Int} (hf : Fit x ps) (h1 : x.kind ≠ 1) (h2 : x.kind = 2 → x.value < 2 ^ x.width.toNat) (hw : ∀ j, j < ps.length → Wl X inp g (gl ps j) ∧ numN (pv inp g (gl ps j)) = gi pvs j) :
 PrOk X inp g (lineG X x ps g) (lineV x (gl ps 0).length pvs) := by
 unfold lineG lineV
 rcases hf with hf | ⟨k2, a1, a2, a3, a4, a5⟩ | ⟨k3, a1, a2, a3, a4, a5⟩ | ⟨k4, a1, a2⟩ | ⟨k5, a1, a2, a3, a4⟩ | ⟨k6, a1, a2⟩
 ·exact absurd hf.1 h1
 ·rw [if_pos k2, if_pos k2]
  obtain ⟨v, hv⟩ : ∃ v : Nat, x.value = v := ⟨x.value.toNat, by omega⟩
  have h3 := h2 k2
  rw [hv] at h3 ⊢
  have h4 : v < 2 ^ x.width.toNat := by
   have e : ((2 ^ x.width.toNat : Nat) : Int) = (2 : Int) ^ x.width.toNat := by rw [Int.natCast_pow]; rfl
   rw [← e] at h3; exact Int.ofNat_lt.1 h3
  exact constS_v hX h4 g
 ·rw [if_neg (by omega), if_pos k3, if_neg (by omega), if_pos k3]
  obtain ⟨w0, e0⟩ := hw 0 (by omega)
  obtain ⟨w1, e1⟩ := hw 1 (by omega)
  rw [← e0, ← e1]
  exact twoS_v hX a2.1 a4 w0 w1 rfl a3
 ·rw [if_neg (by omega), if_neg (by omega), if_pos k4, if_neg (by omega), if_neg (by omega), if_pos k4]
  obtain ⟨w0, e0⟩ := hw 0 (by omega)
  rw [← e0]
  exact nots_v hX w0
 ·rw [if_neg (by omega), if_neg (by omega), if_neg (by omega), if_pos k5, if_neg (by omega), if_neg (by omega), if_neg (by omega), if_pos k5]
  obtain ⟨w0, e0⟩ := hw 0 (by omega)
  obtain ⟨w1, e1⟩ := hw 1 (by omega)
  obtain ⟨w2, e2⟩ := hw 2 (by omega)
  have hs := w0 (gi (gl ps 0) 0) (Zbo (by omega))
  have hsv : gi pvs 0 = wv inp g (gi (gl ps 0) 0) := by
   rw [← e0, pv_nb, a2]
   simp [nb]
  obtain ⟨c1, c2⟩ := chs_v hX hs.1 hs.2 (w1.rw_ rfl) (w2.rw_ a4) (gl ps 1).length lR
  have hco := chs_o X g (gi (gl ps 0) 0) (gl ps 1) (gl ps 2) (gl ps 1).length
  refine ⟨c1, Wl.of (w := (gl ps 1).length) ⟨fun j hj => (c2 j hj).1, fun j hj => ?_⟩ hco, ?_⟩
  ·rw [(c2 j hj).2]
   split
   ·exact (w1.rw_ rfl).bt j hj
   ·exact (w2.rw_ a4).bt j hj
  ·rw [pv_nb, hco, Zfc _ (fun j hj => (c2 j hj).2), hsv]
   rcases bt01 hs.2 with h | h <;> rw [h]
   ·simp only [show ¬ ((0 : Int) = 1) by decide, if_false]
    rw [show (2 - (0 : Int)).toNat = 2 from rfl, ← e2, pv_nb, a4]
   ·simp only [if_true]
    rw [show (2 - (1 : Int)).toNat = 1 from rfl, ← e1, pv_nb]
 ·rw [if_neg (by omega), if_neg (by omega), if_neg (by omega), if_neg (by omega), if_neg (by omega), if_neg (by omega), if_neg (by omega), if_neg (by omega)]
  obtain ⟨w0, e0⟩ := hw 0 (by omega)
  exact ⟨Kp.refl _ _ _, w0, e0⟩
def runB (l : List Ln) (bits : List Int) : List Int := pick (vals (cc l).g bits (cc l).g.length) (cc l).os
theorem Zdo (l : List Ln) (bits : List Int) : (runB l bits).length = (cc l).os.length := pick_len _ _
structure CiD (l : List Ln) : Prop where
 ng : (cc l).g.length ≤ 300
 no : (cc l).os.length ≤ 40
 gat : ∀ n : Nat, (n : Int) = sumI (insL l 0) + sumI (insL l 1) → gatesB n (cc l).g (cc l).g.length = true
 out : ∀ n : Nat, (n : Int) = sumI (insL l 0) + sumI (insL l 1) → allB 0 (((n + (cc l).g.length : Nat) : Int) - 1) (cc l).os = true
 offs : offs (outsL l) (outsL l).length = (cc l).os.length
 x : 0 ≤ sumI (insL l 0) ∧ sumI (insL l 0) ≤ 20
 y : 0 ≤ sumI (insL l 1) ∧ sumI (insL l 1) ≤ 20
theorem Zfi {l : List Ln} (h : coB l = true) : CiD l := by
 obtain ⟨hgd, hcb⟩ := Zdq h
 obtain ⟨hx, hy, hng, hno, hgat, hos⟩ := circB_parts hcb
 refine ⟨hng, hno, fun n hn => by rw [hn]; exact hgat, fun n hn => ?_, ?_, hx, hy⟩
 ·have : (((n + (cc l).g.length : Nat) : Int) - 1) = sumI (insL l 0) + sumI (insL l 1) + (cc l).g.length - 1 := by omega
  rw [this]; exact hos
 ·have h1 := Zef (Zfa hgd.2.1)
  have h2 := coB_os hgd
  omega
theorem runB_bd {l : List Ln} (h : CiD l) {bits : List Int} (hb : allB 0 1 bits = true) (hl : (bits.length : Int) = sumI (insL l 0) + sumI (insL l 1)) : allB 0 1 (runB l bits) = true := by
 refine pick_bd (vals_bd (n := (bits.length : Int)) rfl hb _ _ lR (h.gat _ hl)) ?_
 rw [Zdd]; exact h.out _ hl
def pvsL (l : List Ln) (vs : List Int) (x : Ln) : List Int := x.parts.map fun nm => gi vs (sFind l nm).toNat
def nP (l : List Ln) (x : Ln) : Nat := (gi (wids sW l) (sFind l (sx x.parts 0)).toNat).toNat
def inV (l : List Ln) (xs ys : List Int) (k : Nat) : Int := if (lx l k).party = 0 then gi xs (insL (l.take k) 0).length else gi ys (insL (l.take k) 1).length
def stepV (l : List Ln) (xs ys : List Int) (k : Nat) (vs : List Int) : Int := if (lx l k).kind = 1 then inV l xs ys k else lineV (lx l k) (nP l (lx l k)) (pvsL l vs (lx l k))
def valK (l : List Ln) (xs ys : List Int) : Nat → List Int
 | 0 => []
 | k + 1 => valK l xs ys k ++ [stepV l xs ys k (valK l xs ys k)]
theorem valK_len (l : List Ln) (xs ys : List Int) (k : Nat) : (valK l xs ys k).length = k := by
 induction k with
 | zero => rfl
 | succ k ih => simp [valK, ih]
theorem gi_snocL {xs : List Int} {y : Int} {j : Nat} (h : j < xs.length) : gi (xs ++ [y]) j = gi xs j := Zbt h
def oV (l : List Ln) (vs : List Int) : Nat → List Int
 | 0 => []
 | k + 1 => if (lx l k).kind = 6 then oV l vs k ++ [gi vs k] else oV l vs k
theorem oV_congr {l : List Ln} {vs us : List Int} : ∀ k, (∀ j, j < k → gi vs j = gi us j) → oV l vs k = oV l us k := by
 intro k
 induction k with
 | zero => intro _; rfl
 | succ k ih => intro h; rw [oV, oV, ih (fun j hj => h j (by omega)), h k (by omega)]
theorem oV_len (l : List Ln) (vs : List Int) (k : Nat) : (oV l vs k).length = (byK outP l (wids sW l) k).length := by
 induction k with
 | zero => rfl
 | succ k ih =>
  rw [oV, byK]
  by_cases h : (lx l k).kind = 6
  ·rw [if_pos h, if_pos (by simp [outP, h]), List.length_append, List.length_append, ih]; rfl
  ·rw [if_neg h, if_neg (by simp [outP, h]), ih]
theorem bitsK_congr {ws ws' ns ns' : List Int} : ∀ k, (∀ j, j < k → gi ws j = gi ws' j ∧ gi ns j = gi ns' j) → bitsK ws ns k = bitsK ws' ns' k := by
 intro k
 induction k with
 | zero => intro _; rfl
 | succ k ih => intro h; rw [bitsK, bitsK, ih (fun j hj => h j (by omega)), (h k (by omega)).1, (h k (by omega)).2]
theorem bitsK_part {ws : List Int} (hw : ∀ z ∈ ws, 1 ≤ z ∧ z ≤ 10) (ns : List Int) {j : Nat} : ∀ m, m ≤ ws.length → j < m → ((bitsK ws ns m).drop (offs ws j)).take (gi ws j).toNat = bitsN (gi ns j).toNat (gi ws j).toNat := by
 intro m
 induction m with
 | zero => intro _ h; omega
 | succ m ih =>
  intro hm hjm
  have hlm := Zca hw ns m (by omega)
  rcases Nat.lt_or_ge j m with h1 | h1
  ·have h2 := Zce hw (by omega : j < ws.length)
   have h3 := offs_le hw (by omega : j + 1 ≤ m) (by omega)
   rw [bitsK, List.drop_append_of_le_length (by omega), List.take_append_of_le_length (by simp; omega)]
   exact ih (by omega) h1
  ·obtain rfl : j = m := by omega
   rw [bitsK, ← hlm, List.drop_left, List.take_of_length_le (by rw [Zax]; exact Nat.le_refl _)]
theorem pv_spn {inp : List Int} {g : List G3} {a n : Nat} (hk : ∀ i, i < n → wv inp g ((a + i : Nat) : Int) = gi inp (a + i)) (h : a + n ≤ inp.length) : pv inp g (spn a n) = (inp.drop a).take n := by
 refine gi_eq (by simp [pv, Zck]; omega) fun i h1 => ?_
 have hi : i < n := by simpa [pv, Zck] using h1
 rw [pv_at (by rw [Zck]; exact hi), gi_spn' a hi, show (a : Int) + (i : Int) = ((a + i : Nat) : Int) by omega, hk i hi]
 unfold gi
 rw [List.getD_eq_getElem?_getD, List.getD_eq_getElem?_getD, List.getElem?_take_of_lt hi, List.getElem?_drop]
theorem insL_take {l : List Ln} {p : Int} {k : Nat} (hk : k ≤ l.length) : ∃ r, insL l p = insL (l.take k) p ++ r := by
 refine ⟨((l.drop k).filter fun x => decide (x.kind = 1) && decide (x.party = p)).map Ln.width, ?_⟩
 unfold insL
 rw [← List.map_append, ← List.filter_append, List.take_append_drop]
theorem insL_at {l : List Ln} {p : Int} {k : Nat} (hk : k < l.length) (h1 : (lx l k).kind = 1) (hp : (lx l k).party = p) :
 (insL (l.take k) p).length < (insL l p).length ∧ gi (insL l p) (insL (l.take k) p).length = (lx l k).width ∧ sumI (insL (l.take k) p) = sumI ((insL l p).take (insL (l.take k) p).length) := by
 obtain ⟨r, hr⟩ := insL_take (l := l) (p := p) (k := k + 1) (by omega)
 rw [Zdg hk, Zbi, if_pos ⟨h1, hp⟩] at hr
 refine ⟨by rw [hr]; simp, ?_, ?_⟩
 ·rw [hr, Zbt (by simp), Zcg]
 ·rw [hr, List.append_assoc, List.take_left]
theorem val_fit {l : List Ln} {k : Nat} (h : allW l) (hk : k < l.length) (h2 : (lx l k).kind = 2) : (lx l k).value < 2 ^ (lx l k).width.toNat := by
 have h1 := allW_take (k := k + 1) (by omega) h
 rw [Zdg hk, allW_snoc] at h1
 have hne := h1.2
 obtain ⟨WS, hWS⟩ : ∃ WS, WS = wids sW (l.take k) := ⟨_, rfl⟩
 rw [← hWS] at hne
 unfold sW at hne
 cases hp : pw (sFind (l.take k)) WS (lx l k).parts with
 | none => rw [hp] at hne; exact absurd rfl hne
 | some w =>
  rw [hp] at hne
  dsimp only at hne
  obtain ⟨_, he⟩ := ite_ne hne
  rw [he] at hne
  unfold kindW at hne
  rw [if_neg (by omega), if_pos h2] at hne
  have h3 := (ite_ne hne).1
  simp only [Bool.and_eq_true, inB_iff] at h3
  omega
structure VInv (l : List Ln) (X : Nat) (inp : List Int) (k : Nat) (s : Cs) (vs : List Int) : Prop where
 kp : Kp X inp [] s.g
 len : vs.length = k
 w : ∀ j, j < k → Wl X inp s.g (gl s.ws j) ∧ numN (pv inp s.g (gl s.ws j)) = gi vs j
 os : Wl X inp s.g s.os
 o : pv inp s.g s.os = bitsK (byK outP l (wids sW l) k) (oV l vs k) (byK outP l (wids sW l) k).length
 b : ∀ j, j < k → 0 ≤ gi vs j ∧ gi vs j < 2 ^ (gi (wids sW l) j).toNat
theorem cS_val {l : List Ln} {xs ys : List Int} {in0 in1 : Nat} (h : goodP l) (h0 : (in0 : Int) = sumI (insL l 0)) (h1 : (in1 : Int) = sumI (insL l 1)) (f0 : fitB (insL l 0) xs = true) (f1 : fitB (insL l 1) ys = true) :
 ∀ k, k ≤ l.length → VInv l (in0 + in1) (bitsK (insL l 0) xs (insL l 0).length ++ bitsK (insL l 1) ys (insL l 1).length) k (cS l in0 in1 k) (valK l xs ys k) := by
 have hb0 := Zbz h.2.1 0
 have hb1 := Zbz h.2.1 1
 have l0 := Zca hb0 xs (insL l 0).length lR
 have l1 := Zca hb1 ys (insL l 1).length lR
 have o0 := Zef hb0
 have o1 := Zef hb1
 have e0 : (bitsK (insL l 0) xs (insL l 0).length).length = in0 := by omega
 have e1 : (bitsK (insL l 1) ys (insL l 1).length).length = in1 := by omega
 obtain ⟨inp, hinp⟩ : ∃ inp, bitsK (insL l 0) xs (insL l 0).length ++ bitsK (insL l 1) ys (insL l 1).length = inp := ⟨_, rfl⟩
 have hX : inp.length = in0 + in1 := by rw [← hinp, List.length_append, e0, e1]
 have hbt : ∀ j, j < in0 + in1 → Bt (gi inp j) := fun j hj => Zdc (by rw [← hinp]; exact allB_iff.2 fun z hz => (List.mem_append.1 hz).elim (allB_iff.1 (bitsK_bd _ _ _) z) (allB_iff.1 (bitsK_bd _ _ _) z)) (by omega)
 rw [hinp]
 intro k
 induction k with
 | zero => intro _; exact ⟨Kp.refl _ _ _, rfl, fun j hj => by omega, fun z hz => by simp [cS] at hz, rfl, fun j hj => by omega⟩
 | succ k ih =>
  intro hk
  have hi := ih (by omega)
  have hci := cS_inv (in0 : Int) in1 h.2.1 k (by omega)
  obtain ⟨sf1, sf2, sf3, sf4, sf5, sf6⟩ := Zev ((in0 : Int) + in1) h.2.1 (by omega : k < l.length) hci
  -- the new line's wires
  have hr : PrOk (in0 + in1) inp (cS l in0 in1 k).g (stepG l in0 in1 k (cS l in0 in1 k)) (stepV l xs ys k (valK l xs ys k)) ∧ ((stepG l in0 in1 k (cS l in0 in1 k)).o.length : Int) = gi (wids sW l) k := by
   unfold stepG stepV
   by_cases k1 : (lx l k).kind = 1
   ·rw [if_pos k1, if_pos k1]
    have hw := sf4 k1
    obtain ⟨W, hW⟩ : ∃ W : Nat, (lx l k).width = W := ⟨(lx l k).width.toNat, by omega⟩
    have hp : (lx l k).party = 0 ∨ (lx l k).party = 1 := by
     rcases sf1 with q | q | q | q | q | q
     ·exact q.2.1
     all_goals (exfalso; have := q.1; omega)
    -- where the wires begin
    have hst : ∃ a : Nat, nxt l in0 (lx l k).party k = a ∧ a + W ≤ in0 + in1 ∧ (inp.drop a).take W = bitsN (inV l xs ys k).toNat W ∧ 0 ≤ inV l xs ys k ∧ inV l xs ys k ≤ 2 ^ W - 1 := by
     unfold nxt inV
     rcases hp with hp | hp
     ·obtain ⟨i1, i2, i3⟩ := insL_at (by omega) k1 hp
      rw [hp, if_pos rfl, if_pos rfl, i3]
      obtain ⟨j, hj⟩ : ∃ j, (insL (l.take k) 0).length = j := ⟨_, rfl⟩
      rw [hj] at i1 i2 ⊢
      have hs := Zce hb0 i1
      have hle := offs_le hb0 (by omega : j + 1 ≤ (insL l 0).length) lR
      have hpt := bitsK_part hb0 xs (insL l 0).length lR i1
      have hnn := (Zeb (M := 10) (fun z hz => by have := hb0 z hz; omega) j (Nat.le_of_lt i1)).1
      have hft := (fitB_at f0).2 j i1
      rw [i2, hW] at hs hpt hft
      have hWn : ((W : Nat) : Int).toNat = W := by simp
      rw [hWn] at hs hpt hft
      refine ⟨offs (insL l 0) j, by unfold offs; omega, by omega, ?_, hft.1, hft.2⟩
      rw [← hinp, List.drop_append_of_le_length (by omega), List.take_append_of_le_length (by simp; omega), hpt]
     ·obtain ⟨i1, i2, i3⟩ := insL_at (by omega) k1 hp
      rw [hp, if_neg (by decide), if_neg (by decide), i3]
      obtain ⟨j, hj⟩ : ∃ j, (insL (l.take k) 1).length = j := ⟨_, rfl⟩
      rw [hj] at i1 i2 ⊢
      have hs := Zce hb1 i1
      have hle := offs_le hb1 (by omega : j + 1 ≤ (insL l 1).length) lR
      have hpt := bitsK_part hb1 ys (insL l 1).length lR i1
      have hnn := (Zeb (M := 10) (fun z hz => by have := hb1 z hz; omega) j (Nat.le_of_lt i1)).1
      have hft := (fitB_at f1).2 j i1
      rw [i2, hW] at hs hpt hft
      have hWn : ((W : Nat) : Int).toNat = W := by simp
      rw [hWn] at hs hpt hft
      refine ⟨in0 + offs (insL l 1) j, by unfold offs; omega, by omega, ?_, hft.1, hft.2⟩
      rw [← hinp, ← e0, List.drop_length_add_append, hpt]
    obtain ⟨a, ha, haw, hbits, hv0, hv1⟩ := hst
    rw [ha, hW]
    have hWn : ((W : Nat) : Int).toNat = W := by simp
    rw [hWn]
    have hwv : ∀ i, i < W → wv inp (cS l in0 in1 k).g ((a + i : Nat) : Int) = gi inp (a + i) := fun i hi' => by
     rw [hi.kp.v _ (by simp; omega), wv_nil, Int.toNat_natCast]
    refine ⟨⟨Kp.refl _ _ _, fun z hz => ?_, ?_⟩, by dsimp only; rw [Zck]; omega⟩
    ·obtain ⟨i, hi', rfl⟩ := List.mem_map.1 hz
     have hi2 := List.mem_range.1 hi'
     have e : (a : Int) + (i : Int) = ((a + i : Nat) : Int) := by omega
     dsimp only
     rw [e]
     exact ⟨by have := hi.kp.len; omega, by rw [hwv i hi2]; exact hbt _ (by omega)⟩
    ·dsimp only
     rw [pv_spn hwv (by omega), hbits, numN_bitsN]
     ·omega
     ·have e : ((2 ^ W : Nat) : Int) = (2 : Int) ^ W := by rw [Int.natCast_pow]; rfl
      have : ((inV l xs ys k).toNat : Int) < ((2 ^ W : Nat) : Int) := by rw [e]; omega
      exact Int.ofNat_lt.1 this
   ·rw [if_neg k1, if_neg k1]
    have hps : ∀ j, j < (psL l (cS l in0 in1 k).ws (lx l k)).length → Wl (in0 + in1) inp (cS l in0 in1 k).g (gl (psL l (cS l in0 in1 k).ws (lx l k)) j) ∧ numN (pv inp (cS l in0 in1 k).g (gl (psL l (cS l in0 in1 k).ws (lx l k)) j)) = gi (pvsL l (valK l xs ys k) (lx l k)) j ∧ ((gl (psL l (cS l in0 in1 k).ws (lx l k)) j).length : Int) = gi (wids sW l) (sFind l (sx (lx l k).parts j)).toNat := fun j hj => by
     have hj' : j < (lx l k).parts.length := by simpa [psL] using hj
     have hm : (lx l k).parts[j] ∈ (lx l k).parts := List.getElem_mem hj'
     have hq := sf2 _ hm
     have e1 : gl (psL l (cS l in0 in1 k).ws (lx l k)) j = gl (cS l in0 in1 k).ws (sFind l (lx l k).parts[j]).toNat := by
      unfold gl psL
      rw [List.getD_eq_getElem?_getD, List.getElem?_map, List.getElem?_eq_getElem hj']
      rfl
     have e2 : gi (pvsL l (valK l xs ys k) (lx l k)) j = gi (valK l xs ys k) (sFind l (lx l k).parts[j]).toNat := by
      unfold gi pvsL
      rw [List.getD_eq_getElem?_getD, List.getElem?_map, List.getElem?_eq_getElem hj']
      rfl
     have e3 : sx (lx l k).parts j = (lx l k).parts[j] := by simp [sx, hj']
     have h9 := hi.w (sFind l (lx l k).parts[j]).toNat (by omega)
     have h8 := (hci.wid (sFind l (lx l k).parts[j]).toNat (by omega)).1
     rw [e1, e2, e3]
     exact ⟨h9.1, h9.2, h8⟩
    have hpr := lineG_v hX (g := (cS l in0 in1 k).g) (pvs := pvsL l (valK l xs ys k) (lx l k)) sf1 k1 (fun k2 => val_fit h.2.1 (by omega) k2) (fun j hj => ⟨(hps j hj).1, (hps j hj).2.1⟩)
    have hXi : ((in0 + in1 : Nat) : Int) = (in0 : Int) + in1 := by omega
    rw [hXi] at hpr
    refine ⟨?_, (sf3 k1).2⟩
    have hn : lineV (lx l k) (gl (psL l (cS l in0 in1 k).ws (lx l k)) 0).length (pvsL l (valK l xs ys k) (lx l k)) = lineV (lx l k) (nP l (lx l k)) (pvsL l (valK l xs ys k) (lx l k)) := by
     by_cases hp0 : 0 < (psL l (cS l in0 in1 k).ws (lx l k)).length
     ·have := (hps 0 hp0).2.2
      have e : (gl (psL l (cS l in0 in1 k).ws (lx l k)) 0).length = nP l (lx l k) := by unfold nP; omega
      rw [e]
     ·have hk2 : (lx l k).kind = 2 := by
       rcases sf1 with q | q | q | q | q | q
       ·exact absurd q.1 k1
       ·exact q.1
       all_goals (exfalso; have := q.2.1; omega)
      unfold lineV; rw [if_pos hk2, if_pos hk2]
    rw [← hn]
    exact hpr
  obtain ⟨hpr, hlen⟩ := hr
  show VInv l (in0 + in1) inp (k + 1) (stepC l (stepG l in0 in1 k (cS l in0 in1 k)) k (cS l in0 in1 k)) (valK l xs ys k ++ [stepV l xs ys k (valK l xs ys k)])
  generalize stepG l in0 in1 k (cS l in0 in1 k) = r at *
  generalize stepV l xs ys k (valK l xs ys k) = v at *
  have hvl := valK_len l xs ys k
  generalize valK l xs ys k = vs at *
  have hwl := hci.ws
  generalize cS l in0 in1 k = s at *
  obtain ⟨kp, wl, hn⟩ := hpr
  have hvb : 0 ≤ v ∧ v < 2 ^ (gi (wids sW l) k).toNat := by
   have h9 := numN_bd wl.bd
   rw [hn, pv_len] at h9
   have e : (gi (wids sW l) k).toNat = r.o.length := by omega
   rw [e]; exact h9
  have hgv : ∀ j, j < k → gi (vs ++ [v]) j = gi vs j := fun j hj => gi_snocL (by omega)
  have hgk : gi (vs ++ [v]) k = v := by rw [← hvl]; exact Zcg
  have hoV : oV l (vs ++ [v]) k = oV l vs k := oV_congr k hgv
  obtain ⟨q1, q2⟩ := hi.os.kp kp
  refine ⟨hi.kp.trans kp, by simp [hvl], fun j hj => ?_, ?_, ?_, fun j hj => ?_⟩
  ·simp only [stepC]
   rcases Nat.lt_or_ge j k with hj1 | hj1
   ·rw [Zeq (by omega), hgv j hj1]
    obtain ⟨a1, a2⟩ := (hi.w j hj1).1.kp kp
    exact ⟨a1, by rw [a2]; exact (hi.w j hj1).2⟩
   ·obtain rfl : j = k := by omega
    rw [Zdu hwl, hgk]
    exact ⟨wl, hn⟩
  ·simp only [stepC]
   split
   ·exact q1.app wl
   ·exact q1
  ·simp only [stepC]
   rw [byK, oV, hoV, hgk]
   by_cases h6 : (lx l k).kind = 6
   ·have hO : outP (lx l k) = true := by simp [outP, h6]
    rw [if_pos h6, if_pos h6, if_pos hO, pv_app, q2, hi.o, List.length_append, show ([gi (wids sW l) k] : List Int).length = 1 from rfl, bitsK]
    have hol := oV_len l vs k
    rw [Zcg, show gi (oV l vs k ++ [v]) (byK outP l (wids sW l) k).length = v by rw [← hol]; exact Zcg]
    congr 1
    ·exact bitsK_congr _ fun j hj => ⟨(gi_snocL hj).symm, (gi_snocL (by omega)).symm⟩
    ·have := bitsN_numN wl.bd
     rw [hn, pv_len] at this
     rw [show (gi (wids sW l) k).toNat = r.o.length by omega]
     exact this.symm
   ·have hO : ¬ outP (lx l k) = true := by simp [outP, h6]
    rw [if_neg h6, if_neg h6, if_neg hO, q2, hi.o]
  ·rcases Nat.lt_or_ge j k with hj1 | hj1
   ·rw [hgv j hj1]; exact hi.b j hj1
   ·obtain rfl : j = k := by omega
    rw [hgk]; exact hvb
def rpV (l : List Ln) (xs ys : List Int) : List Int := oV l (valK l xs ys l.length) l.length
def pwK (l : List Ln) (x : Ln) (j : Nat) : Int := gi (wids sW l) (sFind l (sx x.parts j)).toNat
theorem psL_atV {l : List Ln} {ws : List (List Int)} {x : Ln} {j : Nat} (h : j < x.parts.length) : gl (psL l ws x) j = gl ws (sFind l (sx x.parts j)).toNat := by
 unfold gl psL sx
 simp [List.getD_eq_getElem?_getD, h]
 rfl
theorem pvsL_at {l : List Ln} {vs : List Int} {x : Ln} {j : Nat} (h : j < x.parts.length) : gi (pvsL l vs x) j = gi vs (sFind l (sx x.parts j)).toNat := by
 unfold gi pvsL sx
 simp [List.getD_eq_getElem?_getD, h]
 rfl
theorem pvsL_len (l : List Ln) (vs : List Int) (x : Ln) : (pvsL l vs x).length = x.parts.length := by simp [pvsL]
theorem pvsL_take {l : List Ln} {vs : List Int} {x : Ln} {j : Nat} (h : j < x.parts.length) : (pvsL l vs x).take (j + 1) = (pvsL l vs x).take j ++ [gi vs (sFind l (sx x.parts j)).toNat] := by
 rw [Zbj (by rw [pvsL_len]; exact h), pvsL_at h]
def LFit (l : List Ln) (x : Ln) : Prop :=
 (x.kind = 1 ∧ x.parts.length = 0 ∧ (x.party = 0 ∨ x.party = 1)) ∨
 (x.kind = 2 ∧ x.parts.length = 0 ∧ 0 ≤ x.value ∧ x.value ≤ 1023) ∨
 (x.kind = 3 ∧ x.parts.length = 2 ∧ 1 ≤ pwK l x 0 ∧ pwK l x 0 ≤ 10 ∧ pwK l x 1 = pwK l x 0 ∧ opB x.op = true) ∨
 (x.kind = 4 ∧ x.parts.length = 1 ∧ 1 ≤ pwK l x 0 ∧ pwK l x 0 ≤ 10) ∨
 (x.kind = 5 ∧ x.parts.length = 3 ∧ pwK l x 0 = 1) ∨
 (x.kind = 6 ∧ x.parts.length = 1)
theorem sx_memV {ps : List Str} {j : Nat} (h : j < ps.length) : sx ps j ∈ ps := by
 unfold sx; simp [List.getD_eq_getElem?_getD, h]
theorem line_fit {l : List Ln} {k : Nat} (h : allW l) (hk : k < l.length) :
 (∀ nm ∈ (lx l k).parts, 0 ≤ sFind l nm ∧ sFind l nm < k) ∧ LFit l (lx l k) := by
 have hi := cS_inv 0 0 h k (by omega)
 obtain ⟨f1, f2, _⟩ := Zev 0 h hk hi
 refine ⟨f2, ?_⟩
 have hlen : (psL l (cS l 0 0 k).ws (lx l k)).length = (lx l k).parts.length := by simp [psL]
 have hp : ∀ j, j < (lx l k).parts.length → ((gl (psL l (cS l 0 0 k).ws (lx l k)) j).length : Int) = pwK l (lx l k) j := fun j hj => by
  have hf := f2 _ (sx_memV hj)
  rw [psL_atV hj, (hi.wid _ (by omega)).1]; rfl
 unfold LFit
 rcases f1 with ⟨k1, k2, _, _, k5⟩ | ⟨k1, _, _, k4, k5, k6⟩ | ⟨k1, k2, k3, k4, k5, _⟩ | ⟨k1, k2, k3⟩ | ⟨k1, k2, k3, _⟩ | ⟨k1, k2, _⟩
 ·exact .inl ⟨k1, by omega, k2⟩
 ·exact .inr (.inl ⟨k1, by omega, k4, k5⟩)
 ·have h0 := hp 0 (by omega)
  have h1 := hp 1 (by omega)
  obtain ⟨k6, k7⟩ := k3
  exact .inr (.inr (.inl ⟨k1, by omega, by omega, by omega, by omega, k5⟩))
 ·have h0 := hp 0 (by omega)
  obtain ⟨k6, k7⟩ := k3
  exact .inr (.inr (.inr (.inl ⟨k1, by omega, by omega, by omega⟩)))
 ·have h0 := hp 0 (by omega)
  exact .inr (.inr (.inr (.inr (.inl ⟨k1, by omega, by omega⟩))))
 ·exact .inr (.inr (.inr (.inr (.inr ⟨k1, by omega⟩))))
theorem valK_bd {l : List Ln} {xs ys : List Int} (hg : goodP l) (f0 : fitB (insL l 0) xs = true) (f1 : fitB (insL l 1) ys = true) {k : Nat} (hk : k ≤ l.length) {j : Nat} (hj : j < k) :
 0 ≤ gi (valK l xs ys k) j ∧ gi (valK l xs ys k) j < 2 ^ (gi (wids sW l) j).toNat := by
 have hs := goodP_sums hg
 obtain ⟨in0, h0⟩ : ∃ in0 : Nat, (in0 : Int) = sumI (insL l 0) := ⟨(sumI (insL l 0)).toNat, by omega⟩
 obtain ⟨in1, h1⟩ : ∃ in1 : Nat, (in1 : Int) = sumI (insL l 1) := ⟨(sumI (insL l 1)).toNat, by omega⟩
 exact (cS_val hg h0 h1 f0 f1 k hk).b j hj
theorem valK_1023 {l : List Ln} {xs ys : List Int} (hg : goodP l) (f0 : fitB (insL l 0) xs = true) (f1 : fitB (insL l 1) ys = true) {k : Nat} (hk : k ≤ l.length) {j : Nat} (hj : j < k) :
 0 ≤ gi (valK l xs ys k) j ∧ gi (valK l xs ys k) j ≤ 1023 := by
 obtain ⟨h1, h2⟩ := valK_bd hg f0 f1 hk hj
 refine ⟨h1, ?_⟩
 have hw := gi_bd (wids_bd l) (show (0 : Int) ≤ 0 ∧ (0 : Int) ≤ 10 by omega) j
 have : (2 : Int) ^ (gi (wids sW l) j).toNat ≤ 2 ^ 10 := by
  have h3 : (2 : Nat) ^ (gi (wids sW l) j).toNat ≤ 2 ^ 10 := Nat.pow_le_pow_right (by omega) (by omega)
  exact_mod_cast h3
 have h4 : (2 : Int) ^ 10 = 1024 := by decide
 omega
def cntI (l : List Ln) (p : Int) (k : Nat) : Nat := (insL (l.take k) p).length
theorem cntI_succ {l : List Ln} (p : Int) {k : Nat} (hk : k < l.length) : cntI l p (k + 1) = cntI l p k + if (lx l k).kind = 1 ∧ (lx l k).party = p then 1 else 0 := by
 unfold cntI
 rw [Zdg hk, Zbi]
 split <;> simp
theorem cntI_lt {l : List Ln} {p : Int} {k : Nat} (hk : k < l.length) (h1 : (lx l k).kind = 1) (hp : (lx l k).party = p) : cntI l p k < (insL l p).length := (insL_at hk h1 hp).1
theorem stepV_1 {l : List Ln} {xs ys : List Int} {k : Nat} {vs : List Int} (h : (lx l k).kind = 1) : stepV l xs ys k vs = if (lx l k).party = 0 then gi xs (cntI l 0 k) else gi ys (cntI l 1 k) := by
 unfold stepV inV cntI; rw [if_pos h]
theorem stepV_o {l : List Ln} {xs ys : List Int} {k : Nat} {vs : List Int} (h : (lx l k).kind ≠ 1) : stepV l xs ys k vs = lineV (lx l k) (pwK l (lx l k) 0).toNat (pvsL l vs (lx l k)) := by
 unfold stepV; rw [if_neg h]; rfl
theorem lineV_2 {x : Ln} {n : Nat} {ps : List Int} (h : x.kind = 2) : lineV x n ps = x.value := by unfold lineV; rw [if_pos h]
theorem lineV_3 {x : Ln} {n : Nat} {ps : List Int} (h : x.kind = 3) : lineV x n ps = opV x.op n (gi ps 0) (gi ps 1) := by unfold lineV; rw [if_neg (by omega), if_pos h]
theorem lineV_4 {x : Ln} {n : Nat} {ps : List Int} (h : x.kind = 4) : lineV x n ps = 2 ^ n - 1 - gi ps 0 := by unfold lineV; rw [if_neg (by omega), if_neg (by omega), if_pos h]
theorem lineV_5 {x : Ln} {n : Nat} {ps : List Int} (h : x.kind = 5) : lineV x n ps = gi ps (2 - gi ps 0).toNat := by unfold lineV; rw [if_neg (by omega), if_neg (by omega), if_neg (by omega), if_pos h]
theorem lineV_6 {x : Ln} {n : Nat} {ps : List Int} (h : x.kind = 6) : lineV x n ps = gi ps 0 := by unfold lineV; rw [if_neg (by omega), if_neg (by omega), if_neg (by omega), if_neg (by omega)]
theorem fitB_lenV {ws ns : List Int} (h : fitB ws ns = true) : ws.length = ns.length := by
 unfold fitB at h
 rw [Bool.and_eq_true] at h
 exact of_decide_eq_true h.1
end Go.Proofs.YtenknpcbbcbciaaGreat
