/- The product's gates and outs; slices of rows; rows beside makers. No program in sight. Contracts of the product. -/
import Derived.Test.YtimmjppkaadggaaQP08
namespace Go.Proofs.Ytimmjppkaadggaa
open Go.RowKit
set_option linter.unusedVariables false
set_option linter.unusedSimpArgs false
def prodRest (X : Int) (i : Nat) (s : Go2) : List Int := if i = 1 then s.o.drop 1 ++ [X + s.g.length + 1] else s.o.drop i
def prodG1 (X : Int) (i : Nat) (s : Go2) : List G3 := if i = 1 then s.g ++ [⟨3, 0, 0⟩] ++ [⟨2, X + s.g.length, 0⟩] else s.g
def prodStep (X : Int) (us vs : List Int) (n i : Nat) (s : Go2) : Go2 :=
  if i = 0 then rowG X (gi vs i) us s.g n
  else ⟨(addS X (rowG X (gi vs i) us (prodG1 X i s) n).g (prodRest X i s) (rowG X (gi vs i) us (prodG1 X i s) n).o n).g,
    s.o.take i ++ (addS X (rowG X (gi vs i) us (prodG1 X i s) n).g (prodRest X i s) (rowG X (gi vs i) us (prodG1 X i s) n).o n).o ++ [(addS X (rowG X (gi vs i) us (prodG1 X i s) n).g (prodRest X i s) (rowG X (gi vs i) us (prodG1 X i s) n).o n).c]⟩
def prodS (X : Int) (g0 : List G3) (us vs : List Int) (n : Nat) : Nat → Go2
  | 0 => ⟨g0, []⟩
  | i + 1 => prodStep X us vs n i (prodS X g0 us vs n i)
theorem prodStep_g (X : Int) (us vs : List Int) (n i : Nat) (s : Go2) : (prodStep X us vs n i s).g.length ≤ s.g.length + 6 * n + 2 := by
  unfold prodStep
  split
  · rw [row_g]; omega
  · have h1 := addS_g X (rowG X (gi vs i) us (prodG1 X i s) n).g (prodRest X i s) (rowG X (gi vs i) us (prodG1 X i s) n).o n
    have h2 := row_g X (gi vs i) us (prodG1 X i s) n
    have h3 : (prodG1 X i s).length ≤ s.g.length + 2 := by unfold prodG1; split <;> simp
    dsimp only; omega
theorem prodS_g (X : Int) (g0 : List G3) (us vs : List Int) (n : Nat) (hn : n ≤ 8) (i : Nat) : (prodS X g0 us vs n i).g.length ≤ g0.length + 50 * i := by
  induction i with
  | zero => simp [prodS]
  | succ i ih => have := prodStep_g X us vs n i (prodS X g0 us vs n i); simp only [prodS]; omega
theorem prodS_o (X : Int) (g0 : List G3) (us vs : List Int) (n : Nat) (hn : 1 ≤ n) (i : Nat) : (prodS X g0 us vs n (i + 1)).o.length = if i = 0 then n else i + n + 1 := by
  induction i with
  | zero => simp [prodS, prodStep, row_o]
  | succ i ih =>
    rw [prodS, prodStep, if_neg (by omega), if_neg (by omega)]
    simp only [List.length_append, List.length_take, addS_o, List.length_cons, List.length_nil]
    rw [ih]; split <;> omega
theorem prodRest_len {X : Int} {i n : Nat} {s : Go2} (hi : 1 ≤ i) (hn : i < n) (h : s.o.length = if i = 1 then n else i - 1 + n + 1) : (prodRest X i s).length = n := by
  unfold prodRest
  split
  · rename_i h1; rw [if_pos h1] at h; simp [h]; omega
  · rename_i h1; rw [if_neg h1] at h; simp [h]; omega
def prodG (w : Nat) : Go2 := prodS (w + w) [] (spn 0 w) (spn w w) w w
theorem prodG_ok : ∀ w : Nat, 1 ≤ w → w ≤ 5 → circB (w : Nat) (w : Nat) (prodG w).g (prodG w).o = true := by
  intro w h1 h2
  rcases (show w = 1 ∨ w = 2 ∨ w = 3 ∨ w = 4 ∨ w = 5 by omega) with rfl | rfl | rfl | rfl | rfl <;> kernel_rfl
theorem RI.drop_ {w : World} {g o n k : Nat} {xs : List Int} (h : RI w (some ⟨g, o, none⟩) n xs) (hk : k ≤ n) : RI w (some ⟨g, o + k, none⟩) (n - k) (xs.drop k) := by
  refine ⟨by simp [h.len], fun hn => ?_⟩
  obtain ⟨b, q, hA, hlt, hc⟩ := h.2 (by omega)
  simp only [Option.some.injEq, Addr.mk.injEq, and_true] at hA
  obtain ⟨rfl, rfl⟩ := hA
  refine ⟨g, o + k, rfl, hlt, fun j hj => ?_⟩
  rw [show o + k + j = o + (k + j) by omega, hc (k + j) (by omega)]
  simp [gi]
theorem RI.take_ {w : World} {A : Option Addr} {n k : Nat} {xs : List Int} (h : RI w A n xs) (hk : k ≤ n) : RI w A k (xs.take k) := by
  refine ⟨by simp [h.len]; omega, fun hn => ?_⟩
  obtain ⟨b, q, hA, hlt, hc⟩ := h.2 (by omega)
  refine ⟨b, q, hA, hlt, fun j hj => ?_⟩
  rw [hc j (by omega)]
  simp [gi, List.getElem?_take, hj]
theorem OM.ofOwn {w w' : World} {lo' b lo n : Nat} {x y : Int} {gs : List G3} {G : Option Nat} {v : Value} {xs : List Int} (hm : Mk w lo' b x y gs G) (h : Own w' lo w'.heap.size v n xs) (hl : w.heap.size ≤ lo) : OM w' b G lo v n xs :=
  ⟨h, fun g hg => ⟨by have := hm.1; have := h.lt g hg; omega, fun hc => by have := hm.lt g hc; have := h.lt g hg; omega⟩⟩
def OH (w : World) (b : Nat) (G : Option Nat) (lo hi : Nat) (v : Value) (n : Nat) (xs : List Int) : Prop := Own w lo hi v n xs ∧ ∀ g, v.ownBlock = some g → g ≠ b ∧ G ≠ some g
theorem OM.toOH {w : World} {b lo n : Nat} {G : Option Nat} {v : Value} {xs : List Int} (h : OM w b G lo v n xs) : OH w b G lo w.heap.size v n xs := h
theorem OH.toOM {w : World} {b lo hi n : Nat} {G : Option Nat} {v : Value} {xs : List Int} (h : OH w b G lo hi v n xs) : OM w b G lo v n xs := ⟨h.1.now, h.2⟩
theorem OH.mv {w w' : World} {b lo hi n : Nat} {G G' : Option Nat} {v : Value} {xs : List Int} (h : OH w b G lo hi v n xs) (k : Mv b G G' w w') : OH w' b G' lo hi v n xs :=
  ⟨⟨((OH.toOM h).mv k).1.1, h.1.2⟩, ((OH.toOM h).mv k).2⟩
theorem OH.below_ {w w' : World} {b lo hi n B : Nat} {G : Option Nat} {v : Value} {xs : List Int} (h : OH w b G lo hi v n xs) (k : Below B w w') (hB : w.heap.size ≤ B) : OH w' b G lo hi v n xs := ⟨h.1.below k (.inl hB), h.2⟩
theorem OH.alloc_ {w : World} {b lo hi n : Nat} {G : Option Nat} {v : Value} {xs : List Int} (h : OH w b G lo hi v n xs) (o : Obj) : OH (w.alloc o) b G lo hi v n xs := h.below_ ((Below.refl _ _).alloc (Nat.le_refl _) o) (Nat.le_refl _)
theorem OH.hi_ {w : World} {b lo hi hi' n : Nat} {G : Option Nat} {v : Value} {xs : List Int} (h : OH w b G lo hi v n xs) (hl : hi ≤ hi') : OH w b G lo hi' v n xs := ⟨h.1.hi_ hl, h.2⟩
theorem OH.app {w w' : World} {b lo hi n lo' m c : Nat} {G : Option Nat} {v : Value} {xs ys : List Int} {A : Option Addr} (h : OH w b G lo hi v n xs) (ho : OM w b G lo' (.slice A m c) m ys) (hg : w.grownBy w' (Value.slice A m c).ownBlock) (hl : hi ≤ lo') : OH w' b G lo hi v n xs := by
  refine ⟨h.1.grown hg ?_, h.2⟩
  cases hv : v.ownBlock with
  | none => exact .inl rfl
  | some g => exact .inr (fun he => by have := h.1.lt g hv; have := ho.1.lt g he.symm; omega)
theorem with_0 (A : Option Addr) (n c : Nat) (xs : List Int) (w : World) (ha : RI w A n xs) (hn : n ≤ 2097152) :
    Calls Try.prog 31 #[.slice A n c, .slice none 0 0] w fun e w' => ∃ A' c', e = .returned (.slice A' n c') ∧ Own w' w.heap.size w'.heap.size (.slice A' n c') n xs ∧ Below w.heap.size w w' :=
  (with_any A none n c 0 0 xs [] w ha ⟨rfl, fun h => absurd h (by omega)⟩ hn (by omega)).mono fun e w' ⟨A', c', h1, h2, h3⟩ => ⟨A', c', by simpa using h1, by simpa using h2, h3⟩
theorem maker_zero_v (lo b : Nat) (x y : Int) (gs : List G3) (G : Option Nat) (v : Int) (w : World) (hm : Mk w lo b x y gs G) (hx : 0 ≤ x ∧ x ≤ 20) (hy : 0 ≤ y ∧ y ≤ 20) (hn : gs.length ≤ 90000) (hlo : lo ≤ w.heap.size) (hv : x + y + (gs.length : Int) = v) :
    Calls Try.prog 75 #[.pointer (some ⟨b, 0, none⟩)] w (RetW lo b x y (gs ++ [⟨3, 0, 0⟩] ++ [⟨2, v, 0⟩]) G (v + 1) w) := by
  subst hv
  go_enter Try.func75, Try.ntmps75
  go_wp2_with fail
  refine (maker_gate_any lo b x y gs G 3 0 0 w hm hx hy (by omega) hlo).mono ?_
  rintro e w1 ⟨G1, rfl, hm1, hv1⟩
  go_wp2_with fail
  refine (maker_not_v lo b x y (gs ++ [⟨3, 0, 0⟩]) G1 (x + y + gs.length) (x + y + gs.length + 1) _ hm1 hx hy (by simp; omega) (Nat.le_trans hlo hv1.size) (by simp; omega)).mono ?_
  rintro e w2 ⟨G2, rfl, hm2, hv2⟩
  go_wp2
  go_ret
  exact ⟨G2, rfl, hm2, hv1.trans_ hv2⟩
set_option maxRecDepth 100000 in
set_option maxHeartbeats 8000000 in
theorem maker_product_any (lo b : Nat) (x y : Int) (g0 : List G3) (G : Option Nat) (A B : Option Addr) (n c d : Nat) (us vs : List Int) (w : World) (hm : Mk w lo b x y g0 G) (ha : RM w b G A n us) (hb : RM w b G B n vs) (hx : 0 ≤ x ∧ x ≤ 20) (hy : 0 ≤ y ∧ y ≤ 20) (hg : g0.length ≤ 40000) (hn : n ≤ 8) (hn1 : 1 ≤ n) (hlo : lo ≤ w.heap.size) :
    Calls Try.prog 46 #[.pointer (some ⟨b, 0, none⟩), .slice A n c, .slice B n d] w (RetRow lo b x y (prodS (x + y) g0 us vs n n).g (prodS (x + y) g0 us vs n n).o G w) := by
  have HG : Hid (∀ i, (prodS (x + y) g0 us vs n i).g.length ≤ g0.length + 50 * i) := Lib.hid (prodS_g (x + y) g0 us vs n hn)
  have HO : Hid (∀ i, (prodS (x + y) g0 us vs n (i + 1)).o.length = if i = 0 then n else i + n + 1) := Lib.hid (prodS_o (x + y) g0 us vs n hn1)
  have H0 : Hid (prodS (x + y) g0 us vs n 0 = ⟨g0, []⟩) := Lib.hid rfl
  have HS : Hid (∀ i, prodS (x + y) g0 us vs n (i + 1) = prodStep (x + y) us vs n i (prodS (x + y) g0 us vs n i)) := Lib.hid fun i => rfl
  generalize prodS (x + y) g0 us vs n = P at *
  have hst : Mk (w.alloc (.cells #[] 3)) lo b x y (P 0).g G ∧ OM (w.alloc (.cells #[] 3)) b G w.heap.size (.slice (some ⟨w.heap.size, 0, none⟩) 0 0) 0 (P 0).o ∧ Mv b G G w (w.alloc (.cells #[] 3)) := by
    rw [H0.out]; exact ⟨hm.alloc_ _, OM.new0 hm (Nat.le_refl _), (Mv.refl_ b G w).alloc_ _⟩
  obtain ⟨hm0, ho0, hv0⟩ := hst
  go_enter Try.func46, Try.ntmps46
  go_wp2
  go_loopw [7, 18] (fun o i wr => ∃ (k m : Nat) (O : Option Addr) (oc : Nat) (G1 : Option Nat), k ≤ n ∧ i = .int .i64 k ∧ o = .slice O m oc ∧ Mk wr lo b x y (P k).g G1 ∧ OM wr b G1 w.heap.size (.slice O m oc) m (P k).o ∧ Mv b G G1 w wr) (fun _ i _ => n - (intOf i).toNat)
  case atStart => exact ⟨0, _, _, _, _, Nat.zero_le _, rfl, rfl, hm0, ho0, hv0⟩
  case round =>
    obtain ⟨k, m, O, oc, G1, hk, rfl, rfl, hm1, ho1, hv1⟩ := hrel
    clear hm0 ho0 hv0
    have hz1 := hv1.size
    by_cases hlt : k < n
    · obtain ⟨ka, oa, rfl, hka, ca⟩ := ha.1.at_ (k := 0) (by omega)
      obtain ⟨kb, ob, rfl, hkb, cb⟩ := hb.1.at_ hlt
      clear hka ca hkb cb
      obtain ⟨vk, hvk⟩ : ∃ vk, Hid (gi vs k = vk) := ⟨_, Lib.hid rfl⟩
      have hgl := HG.out k
      have hS := Lib.hid (HS.out k)
      have hml := ho1.len
      obtain ⟨SG, SO, hSk⟩ : ∃ SG SO, Hid (P k = ⟨SG, SO⟩) := ⟨_, _, Lib.hid rfl⟩
      rw [hSk.out] at hm1 ho1 hgl hml
      rw [hSk.out] at hS
      dsimp only at hm1 ho1 hgl hml
      by_cases h0 : k = 0
      · have hgt : ¬ (0 : Int) < (k : Int) := by omega
        have hz0 : ((k : Int) == 0) = true := by simp [h0]
        have hz1' : ((k : Int) == 1) = false := by simp; omega
        obtain ⟨Rn, hRn⟩ : ∃ Rn, Hid (rowG (x + y) vk us SG n = Rn) := ⟨_, Lib.hid rfl⟩
        have hS1 : Hid (P (k + 1) = Rn) := Lib.hid (by rw [hS.out]; unfold prodStep; rw [if_pos h0, hvk.out, hRn.out])
        have hkk := Lib.hid h0
        clear h0 hS
        have hm2 := hm1.alloc_ (.cells #[] 3)
        have hoo := OM.new0 (lo := wr.heap.size + 1) hm2 (by simp)
        simp only [World.size_alloc] at hoo
        obtain ⟨LO, hLO⟩ : ∃ LO, Hid (LO = wr.heap.size + 1) := ⟨_, Lib.hid rfl⟩
        have hoo := hoo.lo_ (lo' := LO) (by have := hLO.out; omega)
        have hLw : w.heap.size ≤ LO := by have := hLO.out; omega
        have hLe : LO ≤ ((wr.alloc (.cells #[] 3)).alloc (.cells #[] 3)).heap.size := by have := hLO.out; simp; omega
        have hm2' := hm2.alloc_ (.cells #[] 3)
        have hv2 := (hv1.alloc_ (.cells #[] 3)).alloc_ (.cells #[] 3)
        clear hm1 ho1
        have HR : Hid (∀ j, (rowG (x + y) vk us SG j).g.length = (SG).length + j) := Lib.hid (row_g (x + y) vk us SG)
        have HQ : Hid (∀ j, rowG (x + y) vk us SG (j + 1) = ⟨(rowG (x + y) vk us SG j).g ++ [⟨1, gi us j, vk⟩], (rowG (x + y) vk us SG j).o ++ [x + y + (rowG (x + y) vk us SG j).g.length]⟩) := Lib.hid fun j => rfl
        have HP : Hid (rowG (x + y) vk us SG 0 = ⟨SG, []⟩) := Lib.hid rfl
        have HN : Hid (rowG (x + y) vk us SG n = Rn) := hRn
        obtain ⟨F, hF⟩ : ∃ F, Hid (rowG (x + y) vk us SG = F) := ⟨_, Lib.hid rfl⟩
        rw [hF.out] at HR HQ HP HN
        have hs0 : Mk ((wr.alloc (.cells #[] 3)).alloc (.cells #[] 3)) lo b x y (F 0).g G1 ∧ OM ((wr.alloc (.cells #[] 3)).alloc (.cells #[] 3)) b G1 (LO) (.slice (some ⟨wr.heap.size + 1, 0, none⟩) 0 0) 0 (F 0).o := by rw [HP.out]; exact ⟨hm2', hoo⟩
        clear HP hF
        go_wp2
        go_loopw [10, 38] (fun r i w3 => ∃ (j : Nat) (R : Option Addr) (rc : Nat) (G3_ : Option Nat), j ≤ n ∧ i = .int .i64 j ∧ r = .slice R j rc ∧ Mk w3 lo b x y (F j).g G3_ ∧ OM w3 b G3_ (LO) (.slice R j rc) j (F j).o ∧ Mv b G G3_ w w3 ∧ LO ≤ w3.heap.size) (fun _ i _ => n - (intOf i).toNat)
        case atStart => exact ⟨0, _, _, _, Nat.zero_le _, rfl, rfl, hs0.1, hs0.2, hv2, hLe⟩
        case round =>
          obtain ⟨j, R, rc, G3_, hj, rfl, rfl, hm3, ho3, hv3, hl3⟩ := hrel
          clear hs0
          have hz3 := hv3.size
          by_cases hjn : j < n
          · obtain ⟨uj, huj⟩ : ∃ uj, Hid (gi us j = uj) := ⟨_, Lib.hid rfl⟩
            obtain ⟨ca, na, hka0⟩ := ha.cellV hv3 hjn huj
            obtain ⟨cb, nb, hkb0⟩ := hb.cellV hv3 hlt hvk
            have hgl := HR.out j
            obtain ⟨FG, FO, hFj⟩ : ∃ FG FO, Hid (F j = ⟨FG, FO⟩) := ⟨_, _, Lib.hid rfl⟩
            have hS := Lib.hid (HQ.out j)
            rw [hFj.out] at hm3 ho3 hgl
            rw [huj.out, hFj.out] at hS
            dsimp only at hm3 ho3 hgl hS
            obtain ⟨N, hN⟩ : ∃ N : Int, Hid (x + y + (FG.length : Int) = N) := ⟨_, Lib.hid rfl⟩
            rw [hN.out] at hS
            go_wp2_with fail
            refine (maker_and_v lo b x y FG G3_ uj vk N _ hm3 hx hy (by omega) (by omega) hN.out).mono ?_
            rintro e w4 ⟨G4, rfl, hm4, hv4_⟩
            have hv4 := hv3.trans_ hv4_; have ho4 := ho3.mv hv4_; have hz4 := hv4.size; have hl4 := Nat.le_trans hl3 hv4_.size
            clear hm3 ho3 hv3 hv4_ ca na hka0 cb nb hkb0
            have hoA := ho4.alloc_ (.cells #[.int .i64 N] 3); have hmA := hm4.alloc_ (.cells #[.int .i64 N] 3); have hvA := hv4.alloc_ (.cells #[.int .i64 N] 3)
            go_wp2_with (at_builtin; refine wpList_appI _ rfl _ _ rfl rfl hoA.1 rfl (RI_one _ _ _ _ (by simp)) (by omega) (by first | omega | (simp; done) | (simp; omega)) ?_; intro A5 c5 w5 hown5 hg5 hat5 hk5)
            have ho5 := hoA.app hmA hown5 hat5; have hm5 := hmA.app hoA hg5
            have hv5 := hvA.grown_ hg5 (fun g hc => by have := (hoA.1.lt g hc).1; omega)
            have hl5 : LO ≤ w5.heap.size := by have := hg5.size; simp at this; omega
            have hrel1 : Mk w5 lo b x y (F (j + 1)).g G4 ∧ OM w5 b G4 (LO) (.slice A5 (j + 1) c5) (j + 1) (F (j + 1)).o := by rw [hS.out]; exact ⟨hm5, ho5⟩
            clear hm5 ho5 hS hFj hgl hN huj hoA hmA hvA hown5 hg5 hat5 hk5 hm4 ho4 hv4
            go_wp2
            go_roundw
            case rel => exact ⟨j + 1, _, _, _, by omega, by go_num, rfl, hrel1.1, hrel1.2, hv5, hl5⟩
            case measure => simp [intOf]; omega
          · obtain rfl : n = j := Nat.le_antisymm (Nat.le_of_not_lt hjn) hj
            rw [HN.out] at hm3 ho3
            have hgR := HR.out n
            rw [HN.out] at hgR
            rw [← hS1.out] at hm3 ho3
            go_wp2
            go_roundw
            case rel => exact ⟨k + 1, _, _, _, _, by omega, by go_num, rfl, hm3, ho3.lo_ (by omega), hv3⟩
            case measure => simp [intOf]; omega
      · have hgt : (0 : Int) < (k : Int) := by omega
        have hz0 : ((k : Int) == 0) = false := by simp [h0]
        obtain ⟨k', hk'⟩ : ∃ k', Hid (k = k' + 1) := ⟨k - 1, Lib.hid (by omega)⟩
        have hmk : Hid (m = if k = 1 then n else k + n) := Lib.hid (by
          have h1 := HO.out k'
          rw [← hk'.out, hSk.out] at h1
          dsimp only at h1
          rw [hml] at h1
          have := hk'.out
          rw [h1]; split <;> split <;> omega)
        have hkm : k < m := by have := hmk.out; split at this <;> omega
        obtain ⟨g, rfl, hg1, hg2, hg3⟩ := ho1.1.some_ (by omega)
        have hmc : m ≤ oc := by
          obtain ⟨A9, c9, h9, _, h8⟩ := ho1.1.form
          simp only [Value.slice.injEq, true_and] at h9
          omega
        have hco : ¬ oc - k = 0 := by omega
        obtain ⟨N0, hN0⟩ : ∃ N : Int, Hid (x + y + (SG.length : Int) = N) := ⟨_, Lib.hid rfl⟩
        obtain ⟨HS_, hHS⟩ : ∃ h, Hid (h = wr.heap.size) := ⟨_, Lib.hid rfl⟩
        have hs0 : OH wr b G1 w.heap.size HS_ (.slice (some ⟨g, 0, none⟩) m oc) m SO := by have := ho1.toOH; rwa [← hHS.out] at this
        have hs1 := hs0.alloc_ (.cells #[] 3)
        have hmE := hm1.alloc_ (.cells #[] 3)
        have hvE := hv1.alloc_ (.cells #[] 3)
        have hrd := (RI.drop_ hs1.1.reads (Nat.le_of_lt hkm))
        rw [Nat.zero_add] at hrd
        by_cases h1 : k = 1
        · have hz1' : ((k : Int) == 1) = true := by simp [h1]
          have hmn : Hid (m = n) := Lib.hid (by have := hmk.out; rw [if_pos h1] at this; exact this)
          have hq1 : m - k + 1 = n := by have := hmn.out; omega
          obtain ⟨S3, hS3⟩ : ∃ S3, Hid ((SG ++ [(⟨3, 0, 0⟩ : G3)] ++ [(⟨2, N0, 0⟩ : G3)]) = S3) := ⟨_, Lib.hid rfl⟩
          have hl3 : S3.length = SG.length + 2 := by rw [← hS3.out]; simp
          obtain ⟨Rn, hRn⟩ : ∃ Rn, Hid (rowG (x + y) vk us S3 n = Rn) := ⟨_, Lib.hid rfl⟩
          obtain ⟨T, hT⟩ : ∃ T, Hid (addS (x + y) Rn.g (SO.drop k ++ [N0 + 1]) Rn.o n = T) := ⟨_, Lib.hid rfl⟩
          have hS1 : Hid (P (k + 1) = ⟨T.g, SO.take k ++ T.o ++ [T.c]⟩) := Lib.hid (by
            rw [hS.out]; unfold prodStep prodRest prodG1; rw [if_neg h0, if_pos h1, if_pos h1]; dsimp only; rw [hvk.out, hN0.out, hS3.out, hRn.out, ← h1, hT.out])
          have hkk := Lib.hid h0
          have hkk1 := Lib.hid h1
          clear h0 h1 hS hm1 ho1 hs0 hv1
          go_wp2_with fail
          refine (with_0 (some ⟨g, k, none⟩) (m - k) (oc - k) (SO.drop k) _ hrd (by omega)).mono ?_
          rintro e w2 ⟨RA, rac, rfl, hownr, hbr⟩
          have hm2 := hmE.below_ hbr (Nat.le_refl _)
          have hv2 := hvE.below_ hbr (Nat.le_refl _)
          have hs2 := hs1.below_ hbr (Nat.le_refl _)
          have hHSw : w.heap.size ≤ HS_ := by have := hHS.out; omega
          have hr2 := (OM.ofOwn hmE hownr (Nat.le_refl _)).lo_ (lo' := HS_) (by have := hHS.out; simp; omega)
          have hz2 := hv2.size
          have hHw : HS_ ≤ w2.heap.size := by have h9 := hbr.size; have h8 := hHS.out; simp only [World.size_alloc] at h9; omega
          clear hmE hvE hs1 hrd hownr
          go_wp2_with fail
          refine (maker_zero_v lo b x y SG G1 N0 _ hm2 hx hy (by omega) (by omega) hN0.out).mono ?_
          rintro e w3 ⟨G3, rfl, hm3, hv3_⟩
          rw [hS3.out] at hm3
          have hv3 := hv2.trans_ hv3_; have hs3 := hs2.mv hv3_; have hr3 := hr2.mv hv3_; have hz3 := hv3.size
          have hHw3 : HS_ ≤ w3.heap.size := Nat.le_trans hHw hv3_.size
          have hrA := hr3.alloc_ (.cells #[.int .i64 (N0 + 1)] 3); have hmA := hm3.alloc_ (.cells #[.int .i64 (N0 + 1)] 3); have hvA := hv3.alloc_ (.cells #[.int .i64 (N0 + 1)] 3); have hsA := hs3.alloc_ (.cells #[.int .i64 (N0 + 1)] 3)
          have hrl : wr.heap.size ≤ w2.heap.size := by have h9 := hbr.size; simp only [World.size_alloc] at h9; omega
          go_wp2_with (at_builtin; refine wpList_appI _ rfl _ _ rfl rfl hrA.1 rfl (RI_one _ _ _ _ (by simp)) (by omega) (by first | omega | (simp; done) | (simp; omega)) ?_; intro A9 c9 w9 hown9 hg9 hat9 hk9)
          rw [hq1] at hown9 hat9
          have hrx := hrA.app hmA hown9 hat9; have hmx := hmA.app hrA hg9; have hvx := hvA.grown_ hg9 (fun g hc => by have := (hrA.1.lt g hc).1; omega)
          have hsx : OH w9 b G3 w.heap.size HS_ (.slice (some ⟨g, 0, none⟩) m oc) m SO := hsA.app hrA hg9 (Nat.le_refl _)
          have hzx := hvx.size
          have hHx : HS_ ≤ w9.heap.size := by have h9 := hg9.size; simp only [World.size_alloc] at h9; omega
          clear hm2 hv2 hv3_ hs2 hr2 hm3 hv3 hs3 hr3 hrA hmA hvA hsA hown9 hat9 hg9 hk9
          clear hbr
          obtain ⟨LO, hLO⟩ : ∃ LO, Hid (LO = w9.heap.size) := ⟨_, Lib.hid rfl⟩
          have hoo := (OM.new0 (lo := w9.heap.size) hmx (Nat.le_refl _)).lo_ (lo' := LO) (by have := hLO.out; omega)
          have hrE : OH (w9.alloc (.cells #[] 3)) b G3 w.heap.size LO (.slice A9 n c9) n (SO.drop k ++ [N0 + 1]) := by have := (hrx.lo_ hHSw).toOH; rw [← hLO.out] at this; exact this.alloc_ _
          have hsE := hsx.alloc_ (.cells #[] 3)
          have hmE := hmx.alloc_ (.cells #[] 3)
          have hvE := hvx.alloc_ (.cells #[] 3)
          have hLw : w.heap.size ≤ LO := by have := hLO.out; omega
          have hHL : HS_ ≤ LO := by have := hLO.out; omega
          have hLe : LO ≤ (w9.alloc (.cells #[] 3)).heap.size := by have := hLO.out; simp; omega
          clear hrx hsx hmx hvx
          have HR : Hid (∀ j, (rowG (x + y) vk us S3 j).g.length = (S3).length + j) := Lib.hid (row_g (x + y) vk us S3)
          have HQ : Hid (∀ j, rowG (x + y) vk us S3 (j + 1) = ⟨(rowG (x + y) vk us S3 j).g ++ [⟨1, gi us j, vk⟩], (rowG (x + y) vk us S3 j).o ++ [x + y + (rowG (x + y) vk us S3 j).g.length]⟩) := Lib.hid fun j => rfl
          have HP : Hid (rowG (x + y) vk us S3 0 = ⟨S3, []⟩) := Lib.hid rfl
          have HN : Hid (rowG (x + y) vk us S3 n = Rn) := hRn
          obtain ⟨F, hF⟩ : ∃ F, Hid (rowG (x + y) vk us S3 = F) := ⟨_, Lib.hid rfl⟩
          rw [hF.out] at HR HQ HP HN
          have hs0 : Mk (w9.alloc (.cells #[] 3)) lo b x y (F 0).g G3 ∧ OM (w9.alloc (.cells #[] 3)) b G3 (LO) (.slice (some ⟨w9.heap.size, 0, none⟩) 0 0) 0 (F 0).o := by rw [HP.out]; exact ⟨hmE, hoo⟩
          clear HP hF
          go_wp2
          go_loopw [10, 38] (fun r i w3 => ∃ (j : Nat) (R : Option Addr) (rc : Nat) (G3_ : Option Nat), j ≤ n ∧ i = .int .i64 j ∧ r = .slice R j rc ∧ Mk w3 lo b x y (F j).g G3_ ∧ OM w3 b G3_ (LO) (.slice R j rc) j (F j).o ∧ Mv b G G3_ w w3 ∧ LO ≤ w3.heap.size ∧ OH w3 b G3_ w.heap.size HS_ (.slice (some ⟨g, 0, none⟩) m oc) m SO ∧ OH w3 b G3_ w.heap.size LO (.slice A9 n c9) n (SO.drop k ++ [N0 + 1])) (fun _ i _ => n - (intOf i).toNat)
          case atStart => exact ⟨0, _, _, _, Nat.zero_le _, rfl, rfl, hs0.1, hs0.2, hvE, hLe, hsE, hrE⟩
          case round =>
            obtain ⟨j, R, rc, G3_, hj, rfl, rfl, hm3, ho3, hv3, hl3, hsu, hre⟩ := hrel
            clear hs0
            have hz3 := hv3.size
            by_cases hjn : j < n
            · obtain ⟨uj, huj⟩ : ∃ uj, Hid (gi us j = uj) := ⟨_, Lib.hid rfl⟩
              obtain ⟨ca, na, hka0⟩ := ha.cellV hv3 hjn huj
              obtain ⟨cb, nb, hkb0⟩ := hb.cellV hv3 hlt hvk
              have hgl := HR.out j
              obtain ⟨FG, FO, hFj⟩ : ∃ FG FO, Hid (F j = ⟨FG, FO⟩) := ⟨_, _, Lib.hid rfl⟩
              have hS := Lib.hid (HQ.out j)
              rw [hFj.out] at hm3 ho3 hgl
              rw [huj.out, hFj.out] at hS
              dsimp only at hm3 ho3 hgl hS
              obtain ⟨N, hN⟩ : ∃ N : Int, Hid (x + y + (FG.length : Int) = N) := ⟨_, Lib.hid rfl⟩
              rw [hN.out] at hS
              go_wp2_with fail
              refine (maker_and_v lo b x y FG G3_ uj vk N _ hm3 hx hy (by omega) (by omega) hN.out).mono ?_
              rintro e w4 ⟨G4, rfl, hm4, hv4_⟩
              have hv4 := hv3.trans_ hv4_; have ho4 := ho3.mv hv4_; have hz4 := hv4.size; have hl4 := Nat.le_trans hl3 hv4_.size
              have hsu4 := hsu.mv hv4_
              have hre4 := hre.mv hv4_
              clear hm3 ho3 hv3 hv4_ ca na hka0 cb nb hkb0 hsu hre
              have hoA := ho4.alloc_ (.cells #[.int .i64 N] 3); have hmA := hm4.alloc_ (.cells #[.int .i64 N] 3); have hvA := hv4.alloc_ (.cells #[.int .i64 N] 3)
              have hsuA := hsu4.alloc_ (.cells #[.int .i64 N] 3)
              have hreA := hre4.alloc_ (.cells #[.int .i64 N] 3)
              go_wp2_with (at_builtin; refine wpList_appI _ rfl _ _ rfl rfl hoA.1 rfl (RI_one _ _ _ _ (by simp)) (by omega) (by first | omega | (simp; done) | (simp; omega)) ?_; intro A5 c5 w5 hown5 hg5 hat5 hk5)
              have ho5 := hoA.app hmA hown5 hat5; have hm5 := hmA.app hoA hg5
              have hv5 := hvA.grown_ hg5 (fun g hc => by have := (hoA.1.lt g hc).1; omega)
              have hsu5 := hsuA.app hoA hg5 (by omega)
              have hre5 := hreA.app hoA hg5 (by omega)
              have hl5 : LO ≤ w5.heap.size := by have := hg5.size; simp at this; omega
              have hrel1 : Mk w5 lo b x y (F (j + 1)).g G4 ∧ OM w5 b G4 (LO) (.slice A5 (j + 1) c5) (j + 1) (F (j + 1)).o := by rw [hS.out]; exact ⟨hm5, ho5⟩
              clear hm5 ho5 hS hFj hgl hN huj hoA hmA hvA hown5 hg5 hat5 hk5 hm4 ho4 hv4 hsuA hsu4 hreA hre4
              go_wp2
              go_roundw
              case rel => exact ⟨j + 1, _, _, _, by omega, by go_num, rfl, hrel1.1, hrel1.2, hv5, hl5, hsu5, hre5⟩
              case measure => simp [intOf]; omega
            · obtain rfl : n = j := Nat.le_antisymm (Nat.le_of_not_lt hjn) hj
              rw [HN.out] at hm3 ho3
              have hgR := HR.out n
              rw [HN.out] at hgR
              obtain ⟨Rg, Ro⟩ := Rn
              obtain ⟨Tg, To, Tc⟩ := T
              dsimp only at hm3 ho3 hgR hT hS1
              go_wp2_with fail
              have q9 := maker_add_any lo b x y Rg G3_ A9 R n c9 rc (SO.drop k ++ [N0 + 1]) Ro _ hm3 hre.toOM.reads ho3.reads hx hy (by omega) (by omega) (by omega)
              rw [hT.out] at q9
              refine q9.mono ?_
              clear q9
              rintro e w6 ⟨G6, T6, t6c, rfl, hm6, hv6_, ho6⟩
              have hv6 := hv3.trans_ hv6_; have hs6 := hsu.mv hv6_; have hz6 := hv6.size
              dsimp only at hm6 ho6
              clear hm3 ho3 hv3 hsu hre hv6_
              go_wp2_with fail
              refine (with_0 (some ⟨g, 0, none⟩) k oc (SO.take k) _ (hs6.1.reads.take_ (Nat.le_of_lt hkm)) (by omega)).mono ?_
              rintro e w7 ⟨R7, r7c, rfl, hown7, hb7⟩
              have ho7 := OM.ofOwn hm6 hown7 (Nat.le_refl _)
              have hm7 := hm6.below_ hb7 (Nat.le_refl _)
              have hv7 := hv6.below_ hb7 (Nat.le_refl _)
              have hsu7 := ho6.below_ hb7 (Nat.le_refl _)
              have hz7 := hb7.size
              clear hm6 hv6 ho6 hs6 hown7 hb7
              go_wp2_with (at_builtin; refine wpList_appI _ rfl _ _ rfl rfl ho7.1 rfl hsu7.reads.1 (by omega) (by first | omega | (simp; done) | (simp; omega)) ?_; intro A8 c8 w8 hown8 hg8 hat8 hk8)
              have ho8 := ho7.app hm7 hown8 hat8; have hm8 := hm7.app ho7 hg8
              have hv8 := hv7.grown_ hg8 (fun g hc => by have := (ho7.1.lt g hc).1; omega)
              have hz8 := hg8.size
              have hmA := hm8.alloc_ (.cells #[.int .i64 Tc] 3)
              clear ho7 hm7 hv7 hsu7 hown8 hg8 hat8 hk8
              refine (with_any A8 (some ⟨w8.heap.size, 0, none⟩) (k + n) c8 1 1 (SO.take k ++ To) [Tc] _ (ho8.alloc_ _).reads.1 (RI_new1 _ _ _) (by omega) (by omega)).mono ?_
              rintro e w9' ⟨A10, c10, rfl, hown10, hb10⟩
              have hm10 := hmA.below_ hb10 (Nat.le_refl _)
              have hv10 := (hv8.alloc_ (.cells #[.int .i64 Tc] 3)).below_ hb10 (Nat.le_refl _)
              have ho10 := (OM.ofOwn hmA hown10 (Nat.le_refl _)).lo_ (lo' := w.heap.size) (by simp; omega)
              have hrel1 : Mk w9' lo b x y (P (k + 1)).g G6 ∧ OM w9' b G6 w.heap.size (.slice A10 (k + n + 1) c10) (k + n + 1) (P (k + 1)).o := by rw [hS1.out]; exact ⟨hm10, ho10⟩
              clear hm10 ho10 hmA hm8 ho8 hv8 hown10 hb10 hS1 hT
              go_wp2
              go_roundw
              case rel => exact ⟨k + 1, _, _, _, _, by omega, by go_num, rfl, hrel1.1, hrel1.2, hv10⟩
              case measure => simp [intOf]; omega
        · have hz1' : ((k : Int) == 1) = false := by simp; omega
          have hq1 : m - k = n := by have := hmk.out; rw [if_neg h1] at this; omega
          obtain ⟨Rn, hRn⟩ : ∃ Rn, Hid (rowG (x + y) vk us SG n = Rn) := ⟨_, Lib.hid rfl⟩
          obtain ⟨T, hT⟩ : ∃ T, Hid (addS (x + y) Rn.g (SO.drop k) Rn.o n = T) := ⟨_, Lib.hid rfl⟩
          have hS1 : Hid (P (k + 1) = ⟨T.g, SO.take k ++ T.o ++ [T.c]⟩) := Lib.hid (by
            rw [hS.out]; unfold prodStep prodRest prodG1; rw [if_neg h0, if_neg h1, if_neg h1]; dsimp only; rw [hvk.out, hRn.out, hT.out])
          rw [hq1] at hrd
          have hkk := Lib.hid h0
          have hkk1 := Lib.hid h1
          clear h0 h1 hS hm1 ho1 hs0 hv1
          go_wp2_with fail
          refine (with_0 (some ⟨g, k, none⟩) n (oc - k) (SO.drop k) _ hrd (by omega)).mono ?_
          rintro e w2 ⟨RA, rac, rfl, hownr, hbr⟩
          have hm2 := hmE.below_ hbr (Nat.le_refl _)
          have hv2 := hvE.below_ hbr (Nat.le_refl _)
          have hs2 := hs1.below_ hbr (Nat.le_refl _)
          have hHSw : w.heap.size ≤ HS_ := by have := hHS.out; omega
          have hr2 := (OM.ofOwn hmE hownr (Nat.le_refl _)).lo_ (lo' := HS_) (by have := hHS.out; simp; omega)
          have hz2 := hv2.size
          have hHw : HS_ ≤ w2.heap.size := by have h9 := hbr.size; have h8 := hHS.out; simp only [World.size_alloc] at h9; omega
          clear hmE hvE hs1 hrd hownr
          have hrx := hr2; have hmx := hm2; have hvx := hv2; have hsx := hs2; have hzx := hz2; have hHx := hHw
          clear hr2 hm2 hv2 hs2
          clear hbr
          obtain ⟨LO, hLO⟩ : ∃ LO, Hid (LO = w2.heap.size) := ⟨_, Lib.hid rfl⟩
          have hoo := (OM.new0 (lo := w2.heap.size) hmx (Nat.le_refl _)).lo_ (lo' := LO) (by have := hLO.out; omega)
          have hrE : OH (w2.alloc (.cells #[] 3)) b G1 w.heap.size LO (.slice RA n rac) n (SO.drop k) := by have := (hrx.lo_ hHSw).toOH; rw [← hLO.out] at this; exact this.alloc_ _
          have hsE := hsx.alloc_ (.cells #[] 3)
          have hmE := hmx.alloc_ (.cells #[] 3)
          have hvE := hvx.alloc_ (.cells #[] 3)
          have hLw : w.heap.size ≤ LO := by have := hLO.out; omega
          have hHL : HS_ ≤ LO := by have := hLO.out; omega
          have hLe : LO ≤ (w2.alloc (.cells #[] 3)).heap.size := by have := hLO.out; simp; omega
          clear hrx hsx hmx hvx
          have HR : Hid (∀ j, (rowG (x + y) vk us SG j).g.length = (SG).length + j) := Lib.hid (row_g (x + y) vk us SG)
          have HQ : Hid (∀ j, rowG (x + y) vk us SG (j + 1) = ⟨(rowG (x + y) vk us SG j).g ++ [⟨1, gi us j, vk⟩], (rowG (x + y) vk us SG j).o ++ [x + y + (rowG (x + y) vk us SG j).g.length]⟩) := Lib.hid fun j => rfl
          have HP : Hid (rowG (x + y) vk us SG 0 = ⟨SG, []⟩) := Lib.hid rfl
          have HN : Hid (rowG (x + y) vk us SG n = Rn) := hRn
          obtain ⟨F, hF⟩ : ∃ F, Hid (rowG (x + y) vk us SG = F) := ⟨_, Lib.hid rfl⟩
          rw [hF.out] at HR HQ HP HN
          have hs0 : Mk (w2.alloc (.cells #[] 3)) lo b x y (F 0).g G1 ∧ OM (w2.alloc (.cells #[] 3)) b G1 (LO) (.slice (some ⟨w2.heap.size, 0, none⟩) 0 0) 0 (F 0).o := by rw [HP.out]; exact ⟨hmE, hoo⟩
          clear HP hF
          go_wp2
          go_loopw [10, 38] (fun r i w3 => ∃ (j : Nat) (R : Option Addr) (rc : Nat) (G3_ : Option Nat), j ≤ n ∧ i = .int .i64 j ∧ r = .slice R j rc ∧ Mk w3 lo b x y (F j).g G3_ ∧ OM w3 b G3_ (LO) (.slice R j rc) j (F j).o ∧ Mv b G G3_ w w3 ∧ LO ≤ w3.heap.size ∧ OH w3 b G3_ w.heap.size HS_ (.slice (some ⟨g, 0, none⟩) m oc) m SO ∧ OH w3 b G3_ w.heap.size LO (.slice RA n rac) n (SO.drop k)) (fun _ i _ => n - (intOf i).toNat)
          case atStart => exact ⟨0, _, _, _, Nat.zero_le _, rfl, rfl, hs0.1, hs0.2, hvE, hLe, hsE, hrE⟩
          case round =>
            obtain ⟨j, R, rc, G3_, hj, rfl, rfl, hm3, ho3, hv3, hl3, hsu, hre⟩ := hrel
            clear hs0
            have hz3 := hv3.size
            by_cases hjn : j < n
            · obtain ⟨uj, huj⟩ : ∃ uj, Hid (gi us j = uj) := ⟨_, Lib.hid rfl⟩
              obtain ⟨ca, na, hka0⟩ := ha.cellV hv3 hjn huj
              obtain ⟨cb, nb, hkb0⟩ := hb.cellV hv3 hlt hvk
              have hgl := HR.out j
              obtain ⟨FG, FO, hFj⟩ : ∃ FG FO, Hid (F j = ⟨FG, FO⟩) := ⟨_, _, Lib.hid rfl⟩
              have hS := Lib.hid (HQ.out j)
              rw [hFj.out] at hm3 ho3 hgl
              rw [huj.out, hFj.out] at hS
              dsimp only at hm3 ho3 hgl hS
              obtain ⟨N, hN⟩ : ∃ N : Int, Hid (x + y + (FG.length : Int) = N) := ⟨_, Lib.hid rfl⟩
              rw [hN.out] at hS
              go_wp2_with fail
              refine (maker_and_v lo b x y FG G3_ uj vk N _ hm3 hx hy (by omega) (by omega) hN.out).mono ?_
              rintro e w4 ⟨G4, rfl, hm4, hv4_⟩
              have hv4 := hv3.trans_ hv4_; have ho4 := ho3.mv hv4_; have hz4 := hv4.size; have hl4 := Nat.le_trans hl3 hv4_.size
              have hsu4 := hsu.mv hv4_
              have hre4 := hre.mv hv4_
              clear hm3 ho3 hv3 hv4_ ca na hka0 cb nb hkb0 hsu hre
              have hoA := ho4.alloc_ (.cells #[.int .i64 N] 3); have hmA := hm4.alloc_ (.cells #[.int .i64 N] 3); have hvA := hv4.alloc_ (.cells #[.int .i64 N] 3)
              have hsuA := hsu4.alloc_ (.cells #[.int .i64 N] 3)
              have hreA := hre4.alloc_ (.cells #[.int .i64 N] 3)
              go_wp2_with (at_builtin; refine wpList_appI _ rfl _ _ rfl rfl hoA.1 rfl (RI_one _ _ _ _ (by simp)) (by omega) (by first | omega | (simp; done) | (simp; omega)) ?_; intro A5 c5 w5 hown5 hg5 hat5 hk5)
              have ho5 := hoA.app hmA hown5 hat5; have hm5 := hmA.app hoA hg5
              have hv5 := hvA.grown_ hg5 (fun g hc => by have := (hoA.1.lt g hc).1; omega)
              have hsu5 := hsuA.app hoA hg5 (by omega)
              have hre5 := hreA.app hoA hg5 (by omega)
              have hl5 : LO ≤ w5.heap.size := by have := hg5.size; simp at this; omega
              have hrel1 : Mk w5 lo b x y (F (j + 1)).g G4 ∧ OM w5 b G4 (LO) (.slice A5 (j + 1) c5) (j + 1) (F (j + 1)).o := by rw [hS.out]; exact ⟨hm5, ho5⟩
              clear hm5 ho5 hS hFj hgl hN huj hoA hmA hvA hown5 hg5 hat5 hk5 hm4 ho4 hv4 hsuA hsu4 hreA hre4
              go_wp2
              go_roundw
              case rel => exact ⟨j + 1, _, _, _, by omega, by go_num, rfl, hrel1.1, hrel1.2, hv5, hl5, hsu5, hre5⟩
              case measure => simp [intOf]; omega
            · obtain rfl : n = j := Nat.le_antisymm (Nat.le_of_not_lt hjn) hj
              rw [HN.out] at hm3 ho3
              have hgR := HR.out n
              rw [HN.out] at hgR
              obtain ⟨Rg, Ro⟩ := Rn
              obtain ⟨Tg, To, Tc⟩ := T
              dsimp only at hm3 ho3 hgR hT hS1
              go_wp2_with fail
              have q9 := maker_add_any lo b x y Rg G3_ RA R n rac rc (SO.drop k) Ro _ hm3 hre.toOM.reads ho3.reads hx hy (by omega) (by omega) (by omega)
              rw [hT.out] at q9
              refine q9.mono ?_
              clear q9
              rintro e w6 ⟨G6, T6, t6c, rfl, hm6, hv6_, ho6⟩
              have hv6 := hv3.trans_ hv6_; have hs6 := hsu.mv hv6_; have hz6 := hv6.size
              dsimp only at hm6 ho6
              clear hm3 ho3 hv3 hsu hre hv6_
              go_wp2_with fail
              refine (with_0 (some ⟨g, 0, none⟩) k oc (SO.take k) _ (hs6.1.reads.take_ (Nat.le_of_lt hkm)) (by omega)).mono ?_
              rintro e w7 ⟨R7, r7c, rfl, hown7, hb7⟩
              have ho7 := OM.ofOwn hm6 hown7 (Nat.le_refl _)
              have hm7 := hm6.below_ hb7 (Nat.le_refl _)
              have hv7 := hv6.below_ hb7 (Nat.le_refl _)
              have hsu7 := ho6.below_ hb7 (Nat.le_refl _)
              have hz7 := hb7.size
              clear hm6 hv6 ho6 hs6 hown7 hb7
              go_wp2_with (at_builtin; refine wpList_appI _ rfl _ _ rfl rfl ho7.1 rfl hsu7.reads.1 (by omega) (by first | omega | (simp; done) | (simp; omega)) ?_; intro A8 c8 w8 hown8 hg8 hat8 hk8)
              have ho8 := ho7.app hm7 hown8 hat8; have hm8 := hm7.app ho7 hg8
              have hv8 := hv7.grown_ hg8 (fun g hc => by have := (ho7.1.lt g hc).1; omega)
              have hz8 := hg8.size
              have hmA := hm8.alloc_ (.cells #[.int .i64 Tc] 3)
              clear ho7 hm7 hv7 hsu7 hown8 hg8 hat8 hk8
              refine (with_any A8 (some ⟨w8.heap.size, 0, none⟩) (k + n) c8 1 1 (SO.take k ++ To) [Tc] _ (ho8.alloc_ _).reads.1 (RI_new1 _ _ _) (by omega) (by omega)).mono ?_
              rintro e w9' ⟨A10, c10, rfl, hown10, hb10⟩
              have hm10 := hmA.below_ hb10 (Nat.le_refl _)
              have hv10 := (hv8.alloc_ (.cells #[.int .i64 Tc] 3)).below_ hb10 (Nat.le_refl _)
              have ho10 := (OM.ofOwn hmA hown10 (Nat.le_refl _)).lo_ (lo' := w.heap.size) (by simp; omega)
              have hrel1 : Mk w9' lo b x y (P (k + 1)).g G6 ∧ OM w9' b G6 w.heap.size (.slice A10 (k + n + 1) c10) (k + n + 1) (P (k + 1)).o := by rw [hS1.out]; exact ⟨hm10, ho10⟩
              clear hm10 ho10 hmA hm8 ho8 hv8 hown10 hb10 hS1 hT
              go_wp2
              go_roundw
              case rel => exact ⟨k + 1, _, _, _, _, by omega, by go_num, rfl, hrel1.1, hrel1.2, hv10⟩
              case measure => simp [intOf]; omega
    · obtain rfl : n = k := Nat.le_antisymm (Nat.le_of_not_lt hlt) hk
      go_wp2
      go_ret
      exact RetRow.mk_ ho1.len rfl hm1 hv1 ho1
end Go.Proofs.Ytimmjppkaadggaa
