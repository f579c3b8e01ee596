/- The product's gates and outs; slices of rows; rows beside makers. No program in sight. Constants of a maker without outs. -/
import Derived.Test.YtliicemcdfidmaaQP07
import Derived.Test.YtliicemcdfidmaaQP12
import Derived.Test.YtliicemcdfidmaaQP05
import Derived.Test.YtliicemcdfidmaaQP04
import Derived.Test.YtliicemcdfidmaaQP08
import Derived.Test.YtliicemcdfidmaaQP11
namespace Go.Proofs.Ytliicemcdfidmaa
open Go.RowKit
set_option linter.unusedVariables false
set_option linter.unusedSimpArgs false
def prodRest (X : Int) (i : Nat) (s : Go2) : List Int := if i = 1 then s.o.drop 1 ++ [X + s.g.length + 1] else s.o.drop i
def prodG1 (X : Int) (i : Nat) (s : Go2) : List G3 := if i = 1 then s.g ++ [⟨3, 0, 0⟩] ++ [⟨2, X + s.g.length, 0⟩] else s.g
def prodStep (X : Int) (us vs : List Int) (n i : Nat) (s : Go2) : Go2 :=
  if i = 0 then rowG X (gi vs i) us s.g n
  else ⟨(addS X (rowG X (gi vs i) us (prodG1 X i s) n).g (prodRest X i s) (rowG X (gi vs i) us (prodG1 X i s) n).o n).g,
    s.o.take i ++ (addS X (rowG X (gi vs i) us (prodG1 X i s) n).g (prodRest X i s) (rowG X (gi vs i) us (prodG1 X i s) n).o n).o ++ [(addS X (rowG X (gi vs i) us (prodG1 X i s) n).g (prodRest X i s) (rowG X (gi vs i) us (prodG1 X i s) n).o n).c]⟩
def prodS (X : Int) (g0 : List G3) (us vs : List Int) (n : Nat) : Nat → Go2
  | 0 => ⟨g0, []⟩
  | i + 1 => prodStep X us vs n i (prodS X g0 us vs n i)
theorem prodStep_g (X : Int) (us vs : List Int) (n i : Nat) (s : Go2) : (prodStep X us vs n i s).g.length ≤ s.g.length + 6 * n + 2 := by
  unfold prodStep
  split
  · rw [row_g]; omega
  · have h1 := addS_g X (rowG X (gi vs i) us (prodG1 X i s) n).g (prodRest X i s) (rowG X (gi vs i) us (prodG1 X i s) n).o n
    have h2 := row_g X (gi vs i) us (prodG1 X i s) n
    have h3 : (prodG1 X i s).length ≤ s.g.length + 2 := by unfold prodG1; split <;> simp
    dsimp only; omega
theorem prodS_g (X : Int) (g0 : List G3) (us vs : List Int) (n : Nat) (hn : n ≤ 8) (i : Nat) : (prodS X g0 us vs n i).g.length ≤ g0.length + 50 * i := by
  induction i with
  | zero => simp [prodS]
  | succ i ih => have := prodStep_g X us vs n i (prodS X g0 us vs n i); simp only [prodS]; omega
theorem prodS_o (X : Int) (g0 : List G3) (us vs : List Int) (n : Nat) (hn : 1 ≤ n) (i : Nat) : (prodS X g0 us vs n (i + 1)).o.length = if i = 0 then n else i + n + 1 := by
  induction i with
  | zero => simp [prodS, prodStep, row_o]
  | succ i ih =>
    rw [prodS, prodStep, if_neg (by omega), if_neg (by omega)]
    simp only [List.length_append, List.length_take, addS_o, List.length_cons, List.length_nil]
    rw [ih]; split <;> omega
def prodG (w : Nat) : Go2 := prodS (w + w) [] (spn 0 w) (spn w w) w w
theorem prodG_ok : ∀ w : Nat, 1 ≤ w → w ≤ 5 → circB (w : Nat) (w : Nat) (prodG w).g (prodG w).o = true := by
  intro w h1 h2
  rcases (show w = 1 ∨ w = 2 ∨ w = 3 ∨ w = 4 ∨ w = 5 by omega) with rfl | rfl | rfl | rfl | rfl <;> kernel_rfl
theorem RI.drop_ {w : World} {g o n k : Nat} {xs : List Int} (h : RI w (some ⟨g, o, none⟩) n xs) (hk : k ≤ n) : RI w (some ⟨g, o + k, none⟩) (n - k) (xs.drop k) := by
  refine ⟨by simp [h.len], fun hn => ?_⟩
  obtain ⟨b, q, hA, hlt, hc⟩ := h.2 (by omega)
  simp only [Option.some.injEq, Addr.mk.injEq, and_true] at hA
  obtain ⟨rfl, rfl⟩ := hA
  refine ⟨g, o + k, rfl, hlt, fun j hj => ?_⟩
  rw [show o + k + j = o + (k + j) by omega, hc (k + j) (by omega)]
  simp [gi]
theorem RI.take_ {w : World} {A : Option Addr} {n k : Nat} {xs : List Int} (h : RI w A n xs) (hk : k ≤ n) : RI w A k (xs.take k) := by
  refine ⟨by simp [h.len]; omega, fun hn => ?_⟩
  obtain ⟨b, q, hA, hlt, hc⟩ := h.2 (by omega)
  refine ⟨b, q, hA, hlt, fun j hj => ?_⟩
  rw [hc j (by omega)]
  simp [gi, List.getElem?_take, hj]
theorem OM.ofOwn {w w' : World} {lo' b lo n : Nat} {x y : Int} {gs : List G3} {G : Option Nat} {v : Value} {xs : List Int} (hm : Mk w lo' b x y gs G) (h : Own w' lo w'.heap.size v n xs) (hl : w.heap.size ≤ lo) : OM w' b G lo v n xs :=
  ⟨h, fun g hg => ⟨by have := hm.1; have := h.lt g hg; omega, fun hc => by have := hm.lt g hc; have := h.lt g hg; omega⟩⟩
def OH (w : World) (b : Nat) (G : Option Nat) (lo hi : Nat) (v : Value) (n : Nat) (xs : List Int) : Prop := Own w lo hi v n xs ∧ ∀ g, v.ownBlock = some g → g ≠ b ∧ G ≠ some g
theorem OM.toOH {w : World} {b lo n : Nat} {G : Option Nat} {v : Value} {xs : List Int} (h : OM w b G lo v n xs) : OH w b G lo w.heap.size v n xs := h
theorem OH.toOM {w : World} {b lo hi n : Nat} {G : Option Nat} {v : Value} {xs : List Int} (h : OH w b G lo hi v n xs) : OM w b G lo v n xs := ⟨h.1.now, h.2⟩
theorem OH.mv {w w' : World} {b lo hi n : Nat} {G G' : Option Nat} {v : Value} {xs : List Int} (h : OH w b G lo hi v n xs) (k : Mv b G G' w w') : OH w' b G' lo hi v n xs :=
  ⟨⟨((OH.toOM h).mv k).1.1, h.1.2⟩, ((OH.toOM h).mv k).2⟩
theorem OH.below_ {w w' : World} {b lo hi n B : Nat} {G : Option Nat} {v : Value} {xs : List Int} (h : OH w b G lo hi v n xs) (k : Below B w w') (hB : w.heap.size ≤ B) : OH w' b G lo hi v n xs := ⟨h.1.below k (.inl hB), h.2⟩
theorem OH.alloc_ {w : World} {b lo hi n : Nat} {G : Option Nat} {v : Value} {xs : List Int} (h : OH w b G lo hi v n xs) (o : Obj) : OH (w.alloc o) b G lo hi v n xs := h.below_ ((Below.refl _ _).alloc (Nat.le_refl _) o) (Nat.le_refl _)
theorem OH.hi_ {w : World} {b lo hi hi' n : Nat} {G : Option Nat} {v : Value} {xs : List Int} (h : OH w b G lo hi v n xs) (hl : hi ≤ hi') : OH w b G lo hi' v n xs := ⟨h.1.hi_ hl, h.2⟩
theorem OH.app {w w' : World} {b lo hi n lo' m c : Nat} {G : Option Nat} {v : Value} {xs ys : List Int} {A : Option Addr} (h : OH w b G lo hi v n xs) (ho : OM w b G lo' (.slice A m c) m ys) (hg : w.grownBy w' (Value.slice A m c).ownBlock) (hl : hi ≤ lo') : OH w' b G lo hi v n xs := by
  refine ⟨h.1.grown hg ?_, h.2⟩
  cases hv : v.ownBlock with
  | none => exact .inl rfl
  | some g => exact .inr (fun he => by have := h.1.lt g hv; have := ho.1.lt g he.symm; omega)
theorem with_0 (A : Option Addr) (n c : Nat) (xs : List Int) (w : World) (ha : RI w A n xs) (hn : n ≤ 2097152) :
    Calls Try.prog 40 #[.slice A n c, .slice none 0 0] w fun e w' => ∃ A' c', e = .returned (.slice A' n c') ∧ Own w' w.heap.size w'.heap.size (.slice A' n c') n xs ∧ Below w.heap.size w w' :=
  (with_any A none n c 0 0 xs [] w ha ⟨rfl, fun h => absurd h (by omega)⟩ hn (by omega)).mono fun e w' ⟨A', c', h1, h2, h3⟩ => ⟨A', c', by simpa using h1, by simpa using h2, h3⟩
theorem maker_zero_v (lo b : Nat) (x y : Int) (gs : List G3) (G : Option Nat) (v : Int) (w : World) (hm : Mk w lo b x y gs G) (hx : 0 ≤ x ∧ x ≤ 20) (hy : 0 ≤ y ∧ y ≤ 20) (hn : gs.length ≤ 90000) (hlo : lo ≤ w.heap.size) (hv : x + y + (gs.length : Int) = v) :
    Calls Try.prog 66 #[.pointer (some ⟨b, 0, none⟩)] w (RetW lo b x y (gs ++ [⟨3, 0, 0⟩] ++ [⟨2, v, 0⟩]) G (v + 1) w) := by
  subst hv
  go_enter Try.func66, Try.ntmps66
  go_wp2_with fail
  refine (maker_gate_any lo b x y gs G 3 0 0 w hm hx hy (by omega) hlo).mono ?_
  rintro e w1 ⟨G1, rfl, hm1, hv1⟩
  go_wp2_with fail
  refine (maker_not_v lo b x y (gs ++ [⟨3, 0, 0⟩]) G1 (x + y + gs.length) (x + y + gs.length + 1) _ hm1 hx hy (by simp; omega) (Nat.le_trans hlo hv1.size) (by simp; omega)).mono ?_
  rintro e w2 ⟨G2, rfl, hm2, hv2⟩
  go_wp2
  go_ret
  exact ⟨G2, rfl, hm2, hv1.trans_ hv2⟩
theorem RI.app_other {w w' : World} {bb bo n m : Nat} {xs : List Int} {r : Option Nat} (h : RI w (some ⟨bb, bo, none⟩) n xs) (hg : w.grownBy w' r) (hne : r ≠ some bb) : RI w' (some ⟨bb, bo, none⟩) n xs :=
  h.alt (Alt.of_grown (S := fun i => r = some i) hg (fun _ h => h)) (fun _ q o hA => by
    simp only [Option.some.injEq, Addr.mk.injEq, and_true] at hA
    obtain ⟨rfl, _⟩ := hA
    exact hne)
set_option maxHeartbeats 1600000 in
theorem maker_constant_any (lo b : Nat) (x y : Int) (g0 : List G3) (G : Option Nat) (v k : Nat) (w : World) (hm : Mk w lo b x y g0 G) (hx : 0 ≤ x ∧ x ≤ 20) (hy : 0 ≤ y ∧ y ≤ 20) (hg : g0.length ≤ 40000) (hv : v ≤ 70000) (hk1 : 1 ≤ k) (hk : k ≤ 20) (hlo : lo ≤ w.heap.size) :
    Calls Try.prog 43 #[.pointer (some ⟨b, 0, none⟩), .int .i64 v, .int .i64 k] w (RetRow lo b x y (cstS (x + y) v k g0).g (cstS (x + y) v k g0).o G w) := by
  obtain ⟨N, hN⟩ : ∃ N : Int, Hid (x + y + (g0.length : Int) = N) := ⟨_, Lib.hid rfl⟩
  have hCG : Hid ((cstS (x + y) v k g0).g = g0 ++ [⟨3, 0, 0⟩] ++ [⟨2, N, 0⟩]) := Lib.hid (by unfold cstS; rw [hN.out])
  have hCO : Hid ((cstS (x + y) v k g0).o = cstW N (bitsN v k)) := Lib.hid (by unfold cstS cstW; rw [hN.out])
  have hbl := bitsN_len2 v k
  have hb01 : Hid (∀ j, j < k → gi (bitsN v k) j = 0 ∨ gi (bitsN v k) j = 1) := Lib.hid (fun j hj => bitsN_01 v k j hj)
  have hNb : 0 ≤ N ∧ N ≤ 50000 := by have := hN.out; omega
  rw [hCG.out, hCO.out]
  obtain ⟨bits, hbits⟩ : ∃ bits, Hid (bitsN v k = bits) := ⟨_, Lib.hid rfl⟩
  rw [hbits.out] at hbl hb01 ⊢
  go_enter Try.func43, Try.ntmps43
  go_wp2_with fail
  refine (maker_zero_v lo b x y g0 G N w hm hx hy (by omega) hlo hN.out).mono ?_
  rintro e w1 ⟨G1, rfl, hm1, hv1⟩
  have hz1 := hv1.size
  have ho1 := OM.new0 hm1 hz1
  have hm2 := hm1.alloc_ (.cells #[] 3)
  have hv2 := hv1.alloc_ (.cells #[] 3)
  have hT0 := bitsOf_any v k (w1.alloc (.cells #[] 3)) (by omega) (by omega)
  rw [hbits.out] at hT0
  go_wp2_with fail
  refine (hT0).mono ?_
  rintro e w3 hT
  obtain ⟨A, c, rfl, hown, hb3⟩ := hT.open_ hbl
  have hm3 := hm2.below_ hb3 (Nat.le_refl _)
  have hv3 := hv2.below_ hb3 (Nat.le_refl _)
  have ho3 := ho1.below_ hb3 (Nat.le_refl _)
  have hz3 := hb3.size
  rw [World.size_alloc] at hz3
  have hr3 := hown.reads
  obtain ⟨bb, rfl, hbb1, hbb2, hbb3⟩ := hown.some_ (by omega)
  rw [World.size_alloc] at hbb1
  have hne3 : (Value.slice (some ⟨w1.heap.size, 0, none⟩) 0 0).ownBlock ≠ some bb := by simp [Value.ownBlock]; omega
  clear hm1 hv1 ho1 hm2 hv2 hT0 hT hown
  go_wp2
  go_loopw [8, 18] (fun o i wr => ∃ (j : Nat) (O : Option Addr) (oc : Nat), j ≤ k ∧ i = .int .i64 j ∧ o = .slice O j oc ∧ Mk wr lo b x y (g0 ++ [⟨3, 0, 0⟩] ++ [⟨2, N, 0⟩]) G1 ∧ OM wr b G1 w.heap.size (.slice O j oc) j (cstW N (bits.take j)) ∧ Mv b G G1 w wr ∧ RI wr (some ⟨bb, 0, none⟩) k bits ∧ (Value.slice O j oc).ownBlock ≠ some bb ∧ bb < wr.heap.size) (fun _ i _ => k - (intOf i).toNat)
  case atStart => exact ⟨0, _, _, Nat.zero_le _, rfl, rfl, hm3, ho3, hv3, hr3, hne3, hbb3⟩
  case round =>
    obtain ⟨j, O, oc, hj, rfl, rfl, hmr, hor, hvr, hrr, hne, hbl2⟩ := hrel
    clear hm3 ho3 hv3 hr3 hne3
    have hzr := hvr.size
    by_cases hlt : j < k
    · obtain ⟨bb', bo', hA, _, cb⟩ := hrr.at_ hlt
      simp only [Option.some.injEq, Addr.mk.injEq, and_true] at hA
      obtain ⟨rfl, rfl⟩ := hA
      simp only [Nat.zero_add] at cb
      have h01 := hb01.out j hlt
      have hsn : Hid (cstW N (bits.take (j + 1)) = cstW N (bits.take j) ++ [N + 1 - gi bits j]) := Lib.hid (cstW_snoc (by omega))
      obtain ⟨u, hu⟩ : ∃ u, Hid (gi bits j = u) := ⟨_, Lib.hid rfl⟩
      rw [hu.out] at cb h01 hsn
      have hub : 0 ≤ u ∧ u ≤ 1 := by omega
      clear h01
      have hwr : IntKind.i64.wrap (N + 1 - u) = N + 1 - u := by rw [IntKind.wrap_i64] <;> omega
      have hoA := hor.alloc_ (.cells #[.int .i64 (N + 1 - u)] 3); have hmA := hmr.alloc_ (.cells #[.int .i64 (N + 1 - u)] 3); have hvA := hvr.alloc_ (.cells #[.int .i64 (N + 1 - u)] 3); have hrA := hrr.alloc (.cells #[.int .i64 (N + 1 - u)] 3)
      go_wp2_with (at_builtin; refine wpList_appI _ rfl _ _ rfl rfl hoA.1 rfl (RI_one _ _ _ _ (by simp)) (by omega) (by first | omega | (simp; done) | (simp; omega)) ?_; intro A5 c5 w5 hown5 hg5 hat5 hk5)
      have ho5 := hoA.app hmA hown5 hat5; have hm5 := hmA.app hoA hg5; have hv5 := hvA.app hoA hg5
      have hr5 := RI.app_other (m := 0) hrA hg5 hne
      have hne5 : (Value.slice A5 (j + 1) c5).ownBlock ≠ some bb := by
        rcases hat5 with h | h
        · rw [h]; exact hne
        · rw [h]; simp; omega
      have hbl5 : bb < w5.heap.size := by have := hg5.size; simp at this; omega
      clear hoA hmA hvA hrA hown5 hg5 hat5 hk5 hor hmr hvr hrr hne
      go_wp2
      go_roundw
      case rel => exact ⟨j + 1, _, _, by omega, by go_num, rfl, hm5, by rw [hsn.out]; exact ho5, hv5, hr5, hne5, hbl5⟩
      case measure => simp [intOf]; omega
    · obtain rfl : k = j := Nat.le_antisymm (Nat.le_of_not_lt hlt) hj
      rw [List.take_of_length_le (by omega)] at hor
      have hcl : (cstW N bits).length = k := by simp [cstW, hbl]
      go_wp2
      go_ret
      exact RetRow.mk_ hcl rfl hmr hvr hor
set_option maxHeartbeats 1600000 in
theorem gdConst_any (lo b : Nat) (x y : Int) (g0 : List G3) (G : Option Nat) (v k : Nat) (w : World) (hm : Mk w lo b x y g0 G) (hx : 0 ≤ x ∧ x ≤ 20) (hy : 0 ≤ y ∧ y ≤ 20) (hg : g0.length ≤ 40000) (hv : v ≤ 70000) (hk1 : 1 ≤ k) (hk : k ≤ 20) (hlo : lo ≤ w.heap.size) :
    Calls Try.prog 46 #[.pointer (some ⟨b, 0, none⟩), .int .i64 v, .int .i64 k] w (RetRow lo b x y (cstS (x + y) v k g0).g (cstS (x + y) v k g0).o G w) := by
  obtain ⟨N, hN⟩ : ∃ N : Int, Hid (x + y + (g0.length : Int) = N) := ⟨_, Lib.hid rfl⟩
  have hCG : Hid ((cstS (x + y) v k g0).g = g0 ++ [⟨3, 0, 0⟩] ++ [⟨2, N, 0⟩]) := Lib.hid (by unfold cstS; rw [hN.out])
  have hCO : Hid ((cstS (x + y) v k g0).o = cstW N (bitsN v k)) := Lib.hid (by unfold cstS cstW; rw [hN.out])
  have hbl := bitsN_len2 v k
  have hb01 : Hid (∀ j, j < k → gi (bitsN v k) j = 0 ∨ gi (bitsN v k) j = 1) := Lib.hid (fun j hj => bitsN_01 v k j hj)
  have hNb : 0 ≤ N ∧ N ≤ 50000 := by have := hN.out; omega
  rw [hCG.out, hCO.out]
  obtain ⟨bits, hbits⟩ : ∃ bits, Hid (bitsN v k = bits) := ⟨_, Lib.hid rfl⟩
  rw [hbits.out] at hbl hb01 ⊢
  go_enter Try.func46, Try.ntmps46
  go_wp2_with fail
  refine (ciMaker_one_any lo b x y g0 G w hm hx hy (by omega) hlo).mono ?_
  rintro e w0 ⟨G0, rfl, hm0, hv0⟩
  rw [hN.out]
  go_wp2_with fail
  refine (ciMaker_not_v lo b x y (g0 ++ [⟨3, 0, 0⟩]) G0 N (N + 1) _ hm0 hx hy (by simp; omega) (Nat.le_trans hlo hv0.size) (by have := hN.out; simp; omega)).mono ?_
  rintro e w1 ⟨G1, rfl, hm1, hv1_⟩
  have hv1 := hv0.trans_ hv1_
  have hz1 := hv1.size
  have hT0 := btOf_any v k w1 (by omega) (by omega)
  rw [hbits.out] at hT0
  go_wp2_with fail
  refine (hT0).mono ?_
  rintro e w3 hT
  obtain ⟨A, c, rfl, hown, hb3⟩ := hT.open_ hbl
  have hm3 := hm1.below_ hb3 (Nat.le_refl _)
  have hv3 := hv1.below_ hb3 (Nat.le_refl _)
  have hz3 := hb3.size
  have ho3 := OM.none_ w3 b G1 w.heap.size
  have hr3 := hown.reads
  obtain ⟨bb, rfl, hbb1, hbb2, hbb3⟩ := hown.some_ (by omega)
  have hne3 : (Value.slice none 0 0).ownBlock ≠ some bb := by simp [Value.ownBlock]
  clear hm1 hv1 hm0 hv0 hv1_ hT0 hT hown
  go_wp2
  go_loopw [9, 21] (fun o i wr => ∃ (j : Nat) (O : Option Addr) (oc : Nat), j ≤ k ∧ i = .int .i64 j ∧ o = .slice O j oc ∧ Mk wr lo b x y (g0 ++ [⟨3, 0, 0⟩] ++ [⟨2, N, 0⟩]) G1 ∧ OM wr b G1 w.heap.size (.slice O j oc) j (cstW N (bits.take j)) ∧ Mv b G G1 w wr ∧ RI wr (some ⟨bb, 0, none⟩) k bits ∧ (Value.slice O j oc).ownBlock ≠ some bb ∧ bb < wr.heap.size) (fun _ i _ => k - (intOf i).toNat)
  case atStart => exact ⟨0, _, _, Nat.zero_le _, rfl, rfl, hm3, ho3, hv3, hr3, hne3, hbb3⟩
  case round =>
    obtain ⟨j, O, oc, hj, rfl, rfl, hmr, hor, hvr, hrr, hne, hbl2⟩ := hrel
    clear hm3 ho3 hv3 hr3 hne3
    have hzr := hvr.size
    by_cases hlt : j < k
    · obtain ⟨bb', bo', hA, _, cb⟩ := hrr.at_ hlt
      simp only [Option.some.injEq, Addr.mk.injEq, and_true] at hA
      obtain ⟨rfl, rfl⟩ := hA
      simp only [Nat.zero_add] at cb
      have h01 := hb01.out j hlt
      have hsn : Hid (cstW N (bits.take (j + 1)) = cstW N (bits.take j) ++ [N + 1 - gi bits j]) := Lib.hid (cstW_snoc (by omega))
      obtain ⟨u, hu⟩ : ∃ u, Hid (gi bits j = u) := ⟨_, Lib.hid rfl⟩
      rw [hu.out] at cb h01 hsn
      rcases h01 with hu0 | hu0
      · have hsn2 : Hid (cstW N (bits.take (j + 1)) = cstW N (bits.take j) ++ [N + 1]) := Lib.hid (by rw [hsn.out, hu0]; congr 2; omega)
        rw [hu0] at cb
        clear hsn hu0 hu
        have hoA := hor.alloc_ (.cells #[.int .i64 (N + 1)] 3); have hmA := hmr.alloc_ (.cells #[.int .i64 (N + 1)] 3); have hvA := hvr.alloc_ (.cells #[.int .i64 (N + 1)] 3); have hrA := hrr.alloc (.cells #[.int .i64 (N + 1)] 3)
        go_wp2_with (at_builtin; refine wpList_appI _ rfl _ _ rfl rfl hoA.1 rfl (RI_one _ _ _ _ (by simp)) (by omega) (by first | omega | (simp; done) | (simp; omega)) ?_; intro A5 c5 w5 hown5 hg5 hat5 hk5)
        have ho5 := hoA.app hmA hown5 hat5; have hm5 := hmA.app hoA hg5; have hv5 := hvA.app hoA hg5
        have hr5 := RI.app_other (m := 0) hrA hg5 hne
        have hne5 : (Value.slice A5 (j + 1) c5).ownBlock ≠ some bb := by
          rcases hat5 with h | h
          · rw [h]; exact hne
          · rw [h]; simp; omega
        have hbl5 : bb < w5.heap.size := by have := hg5.size; simp at this; omega
        clear hoA hmA hvA hrA hown5 hg5 hat5 hk5 hor hmr hvr hrr hne
        go_wp2
        go_roundw
        case rel => exact ⟨j + 1, _, _, by omega, by go_num, rfl, hm5, by rw [hsn2.out]; exact ho5, hv5, hr5, hne5, hbl5⟩
        case measure => simp [intOf]; omega
      · have hsn2 : Hid (cstW N (bits.take (j + 1)) = cstW N (bits.take j) ++ [N]) := Lib.hid (by rw [hsn.out, hu0]; congr 2; omega)
        rw [hu0] at cb
        clear hsn hu0 hu
        have hoA := hor.alloc_ (.cells #[.int .i64 (N)] 3); have hmA := hmr.alloc_ (.cells #[.int .i64 (N)] 3); have hvA := hvr.alloc_ (.cells #[.int .i64 (N)] 3); have hrA := hrr.alloc (.cells #[.int .i64 (N)] 3)
        go_wp2_with (at_builtin; refine wpList_appI _ rfl _ _ rfl rfl hoA.1 rfl (RI_one _ _ _ _ (by simp)) (by omega) (by first | omega | (simp; done) | (simp; omega)) ?_; intro A5 c5 w5 hown5 hg5 hat5 hk5)
        have ho5 := hoA.app hmA hown5 hat5; have hm5 := hmA.app hoA hg5; have hv5 := hvA.app hoA hg5
        have hr5 := RI.app_other (m := 0) hrA hg5 hne
        have hne5 : (Value.slice A5 (j + 1) c5).ownBlock ≠ some bb := by
          rcases hat5 with h | h
          · rw [h]; exact hne
          · rw [h]; simp; omega
        have hbl5 : bb < w5.heap.size := by have := hg5.size; simp at this; omega
        clear hoA hmA hvA hrA hown5 hg5 hat5 hk5 hor hmr hvr hrr hne
        go_wp2
        go_roundw
        case rel => exact ⟨j + 1, _, _, by omega, by go_num, rfl, hm5, by rw [hsn2.out]; exact ho5, hv5, hr5, hne5, hbl5⟩
        case measure => simp [intOf]; omega
    · obtain rfl : k = j := Nat.le_antisymm (Nat.le_of_not_lt hlt) hj
      rw [List.take_of_length_le (by omega)] at hor
      have hcl : (cstW N bits).length = k := by simp [cstW, hbl]
      go_wp2
      go_ret
      exact RetRow.mk_ hcl rfl hmr hvr hor
end Go.Proofs.Ytliicemcdfidmaa
