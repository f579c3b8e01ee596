/- Contracts of EqualOuts. Contracts of the library's repetition of a list of one number. -/
import Derived.Test.YtcdhmcpocohbpaaQP18
import Derived.Deep.RegionLaw
import Derived.Laws.CopyOwn
import Derived.Test.YtcdhmcpocohbpaaQP15
namespace Go.Proofs.Ytcdhmcpocohbpaa
open Go.RowKit
set_option linter.unusedVariables false
set_option linter.unusedSimpArgs false
def firstEq (f : Nat → List Int) (k : Nat) : Nat := ((List.range (k + 1)).find? fun i => decide (f i = f k)).getD 0
theorem firstEq_is {f : Nat → List Int} {k i : Nat} (hi : i ≤ k) (he : f i = f k) (hn : ∀ j, j < i → ¬ f j = f k) : firstEq f k = i := by
  have : (List.range (k + 1)).find? (fun i => decide (f i = f k)) = some i := by
    rw [List.find?_eq_some_iff_getElem]
    refine ⟨by simpa using he, i, by simp; omega, by simp, fun j hj => ?_⟩
    simp [hn j hj]
  rw [firstEq, this]; rfl
theorem firstEq_spec (f : Nat → List Int) (k : Nat) : firstEq f k ≤ k ∧ f (firstEq f k) = f k ∧ ∀ j, j < firstEq f k → ¬ f j = f k := by
  have hex : ∃ i, i ≤ k ∧ f i = f k ∧ ∀ j, j < i → ¬ f j = f k := by
    have : ∀ n, n ≤ k + 1 → (∃ i, i ≤ k ∧ f i = f k ∧ ∀ j, j < i → ¬ f j = f k) ∨ ∀ j, j < n → ¬ f j = f k := by
      intro n
      induction n with
      | zero => intro _; exact .inr fun j hj => absurd hj (by omega)
      | succ n ih =>
        intro hn
        rcases ih (by omega) with h | h
        · exact .inl h
        · by_cases he : f n = f k
          · exact .inl ⟨n, by omega, he, h⟩
          · refine .inr fun j hj => ?_
            rcases Nat.lt_or_ge j n with h1 | h1
            · exact h j h1
            · obtain rfl : j = n := by omega
              exact he
    rcases this (k + 1) (Nat.le_refl _) with h | h
    · exact h
    · exact absurd rfl (h k (by omega))
  obtain ⟨i, h1, h2, h3⟩ := hex
  rw [firstEq_is h1 h2 h3]
  exact ⟨h1, h2, h3⟩
theorem LII.lt {w : World} {lo hi n : Nat} {v : Value} {xss : List (List Int)} {bad : Option Nat} (h : LII w lo hi v n xss bad) : ∀ g, v.ownBlock = some g → lo ≤ g ∧ g < hi := by
  obtain ⟨vals, h1, h2, _⟩ := h
  exact fun g hg => ⟨(h1.lt g hg).1, h2 g hg⟩
theorem LII.hi_ {w : World} {lo hi hi' n : Nat} {v : Value} {xss : List (List Int)} {bad : Option Nat} (h : LII w lo hi v n xss bad) (hl : hi ≤ hi') : LII w lo hi' v n xss bad := by
  obtain ⟨vals, h1, h2, h3, h4⟩ := h
  exact ⟨vals, h1, fun g hg => Nat.lt_of_lt_of_le (h2 g hg) hl, h3, h4⟩
theorem gl_tabL_len {n N q : Nat} {f : Nat → List Int} (h : ∀ k, (f k).length = N) : (gl (tabL n f) q).length ≤ N := by
  rcases Nat.lt_or_ge q n with h1 | h1
  · rw [gl_tabL h1, h q]; exact Nat.le_refl _
  · unfold gl; rw [List.getD_eq_getElem?_getD, List.getElem?_eq_none (by rw [tabL_len]; exact h1)]; simp
def eqoF (x y : Int) (gs : List G3) (os : List Int) : Option (List Int) :=
  if smallB x y gs os 40 then some (tab os.length fun k => (firstEq (colN gs os (x + y).toNat) k : Int)) else none
theorem eqoF_len (x y : Int) (gs : List G3) (os : List Int) : ((eqoF x y gs os).getD []).length ≤ 40 := by
  unfold eqoF
  split
  · rename_i h
    have := (smallB_bd h).2.2
    simpa [tab_len] using this
  · simp
set_option maxRecDepth 100000 in
set_option maxHeartbeats 1600000 in
theorem spec_EqualOuts_any (x y : Int) (Ag : Option Addr) (ng cg : Nat) (Ao : Option Addr) (no co : Nat) (gs : List G3) (os : List Int) (w : World) (hr : RG w Ag ng gs ∧ RI w Ao no os) (hng : ng ≤ 2097152) (hno : no ≤ 2097152) :
    Calls Try.prog 12 #[.agg #[.int .i64 x, .int .i64 y, .slice Ag ng cg, .slice Ao no co]] w (RetO w (eqoF x y gs os)) := by
  have hB : Below w.heap.size w (w.alloc (.cells #[.int .i64 x, .int .i64 y, .slice Ag ng cg, .slice Ao no co] 26)) := (Below.refl _ _).alloc (Nat.le_refl _) _
  have hlg := hr.1.len
  have hlo := hr.2.len
  cases h0 : smallB x y gs os 40 with
  | false =>
    have HR : Hid (eqoF x y gs os = none) := Lib.hid (by simp [eqoF, h0])
    have H0 := Lib.hid h0; clear h0
    go_enter Try.func12, Try.ntmps12
    go_wp2_with fail
    refine (siSmall_any x y Ag ng cg Ao no co gs os _ ⟨hr.1.below hB (Nat.le_refl _), hr.2.below hB (Nat.le_refl _)⟩ hng hno).mono ?_
    rintro e v1 ⟨rfl, hb1⟩
    rw [H0.out]
    go_wp2
    go_ret2
    exact RetO.none_ (hB.trans (hb1.mono hB.size)) HR.out rfl
  | true =>
    obtain ⟨h1, h2, h3⟩ := smallB_bd h0
    obtain ⟨⟨b1, b2⟩, ⟨b3, b4⟩, b5, b6, b7, b8⟩ := circB_bd h1
    obtain ⟨X, hX⟩ : ∃ X : Nat, x + y = X := ⟨(x + y).toNat, by omega⟩
    have hXt : (x + y).toNat = X := by omega
    rw [hX] at b7 b8
    obtain ⟨N, hN⟩ : ∃ N, N = 2 ^ X := ⟨_, rfl⟩
    have hP := (pow_wrap hN (by omega)).1
    obtain ⟨f, hf⟩ : ∃ f, f = colN gs os X := ⟨_, rfl⟩
    have HR : Hid (eqoF x y gs os = some (tab no fun k => (firstEq f k : Int))) := Lib.hid (by simp [eqoF, h0, hlo, hXt, hf])
    have hfl : ∀ k, (f k).length = N := fun k => by rw [hf, colN_len, hN]
    have HFC : Hid (∀ k, tab N (fun n => gi (outsN gs os X n) k) = f k) := Lib.hid fun k => by rw [hf, colN, hN]
    have HFL := Lib.hid hfl; clear hfl
    have hx : 0 ≤ x ∧ x ≤ 20 := ⟨b1, b2⟩
    have hy : 0 ≤ y ∧ y ≤ 20 := ⟨b3, b4⟩
    have HN := Lib.hid hN; clear hN hf
    have H0 := Lib.hid h0; have H7 := Lib.hid b7; have H8 := Lib.hid b8; clear h0 h1 b7 b8
    go_enter Try.func12, Try.ntmps12
    go_wp2_with fail
    refine (siSmall_any x y Ag ng cg Ao no co gs os _ ⟨hr.1.below hB (Nat.le_refl _), hr.2.below hB (Nat.le_refl _)⟩ hng hno).mono ?_
    rintro e v1 ⟨rfl, hb1⟩
    rw [H0.out]
    have hz1 := hb1.size
    simp only [World.size_alloc] at hz1 hb1
    have hB1 := hB.trans (hb1.mono (by omega))
    have hq0 := box_at hb1
    obtain ⟨k0, k1, k2, k3⟩ := hq0
    go_wp2_with fail
    go_loopw [4, 13] (fun v i wr => ∃ (k : Nat) (A' : Option Addr) (c' : Nat), k ≤ no ∧ i = .int .i64 k ∧ v = .slice A' k c' ∧ Own wr v1.heap.size wr.heap.size (.slice A' k c') k (tab k fun q => (firstEq f q : Int)) ∧ Below v1.heap.size v1 wr) (fun _ i _ => no - (intOf i).toNat)
    case atStart => exact ⟨0, _, _, Nat.zero_le _, rfl, rfl, Own.none_ _ _ _, Below.refl _ _⟩
    case round =>
      clear k0 k1 k2 k3
      obtain ⟨k, A', c', hk, rfl, rfl, hown, hb⟩ := hrel
      have hz := hb.size
      by_cases hlt : k < no
      · have hsn : Hid (tab (k + 1) (fun q => (firstEq f q : Int)) = tab k (fun q => (firstEq f q : Int)) ++ [(firstEq f k : Int)]) := Lib.hid (tab_snoc k _)
        have hst := Below.refl wr.heap.size wr
        go_wp2_with fail
        go_loopw [6] (fun i wq => ∃ j : Nat, j ≤ k ∧ i = .int .i64 j ∧ Hid (∀ q, q < j → ¬ f q = f k) ∧ Below wr.heap.size wr wq) (fun i _ => k - (intOf i).toNat)
        case atStart => exact ⟨0, Nat.zero_le _, rfl, Lib.hid fun q hq => absurd hq (by omega), hst⟩
        case round =>
          clear hst
          obtain ⟨j, hj, rfl, hq, hb2⟩ := hrel
          have hz2 := hb2.size
          have hbx := (hb1.trans (hb.mono hz1)).trans (hb2.mono (by omega))
          have hq0 := box_at hbx
          obtain ⟨k0, k1, k2, k3⟩ := hq0
          have hbw := (hB1.trans (hb.mono hB1.size)).trans (hb2.mono (by omega))
          have hbd := below_drewN hbw 1
          have hl1 := HFL.out j
          have hl2 := HFL.out k
          cases hs0 : sameB (f j) (f k) with
          | true =>
            have hE : f j = f k := by simpa [sameB] using hs0
            have HS := Lib.hid hs0
            have hfe : Hid (firstEq f k = j) := Lib.hid (firstEq_is hj hE hq.out)
            clear hE hs0
            go_wp2_with fail
            go_region_held3 (fun w' => w'.cell? ⟨w.heap.size, 0, none⟩ = some (.int .i64 x) ∧ w'.cell? ⟨w.heap.size, 1, none⟩ = some (.int .i64 y) ∧ w'.cell? ⟨w.heap.size, 2, none⟩ = some (.slice Ag ng cg) ∧ w'.cell? ⟨w.heap.size, 3, none⟩ = some (.slice Ao no co))
              (first | go_keep | (go_split_ands; exact ⟨cell_below (by assumption) hb4, cell_below (by assumption) hb4, cell_below (by assumption) hb4, cell_below (by assumption) hb4⟩) | (go_split_ands; exact ⟨cell_below (by assumption) hb3, cell_below (by assumption) hb3, cell_below (by assumption) hb3, cell_below (by assumption) hb3⟩) | ((try dsimp only); (repeat' apply And.intro) <;> go_keep))
              (first | (go_at_call_of 48 (Value.int IntKind.i64 (j : Int)); refine (siOut_any x y Ag ng cg Ao no co gs os X N j _ ⟨hr.1.below hbd (Nat.le_refl _), hr.2.below hbd (Nat.le_refl _)⟩ hx hy hX (by omega) HN.out H7.out H8.out (by omega) (by omega) (by omega)).mono ?_; rintro e W3 hT; rw [HFC.out] at hT; obtain ⟨A3, c3, rfl, ho3, hb3⟩ := hT.open_ hl1) | (go_at_call_of 48 (Value.int IntKind.i64 (k : Int)); refine (siOut_any x y Ag ng cg Ao no co gs os X N k _ ⟨hr.1.below (hbd.trans (hb3.mono hbd.size)) (Nat.le_refl _), hr.2.below (hbd.trans (hb3.mono hbd.size)) (Nat.le_refl _)⟩ hx hy hX (by omega) HN.out H7.out H8.out (by omega) (by omega) (by omega)).mono ?_; rintro e W4 hT; rw [HFC.out] at hT; obtain ⟨A4, c4, rfl, ho4, hb4⟩ := hT.open_ hl2) | (go_at_call 47; refine (l1Same_any A3 A4 N c3 N c4 (f j) (f k) _ (ho3.reads.below hb4 (Nat.le_refl _)) ho4.reads (by omega) (by omega)).mono ?_; rintro e W5 ⟨he, j5, rfl⟩; rw [HS.out] at he; obtain rfl := he))
            have hb5 := hb2.trans ((below_drewN (bnext (bnext (below_of_drewN 1) hb3) hb4) j5).mono hz2)
            have hb6 := hb.trans (hb5.mono hz)
            have hown5 := (hown.below hb5 (.inl (Nat.le_refl _))).now
            have hz5 : v1.heap.size ≤ W4.heap.size := hb6.size
            rw [hfe.out] at hsn
            clear hb3 hb4 ho3 ho4 hown hb hb2 hbx hbw hbd k0 k1 k2 k3
            have hownA := hown5.alloc (.cells #[.int .i64 (j : Int)] 3)
            have hbA := hb6.alloc hz5 (.cells #[.int .i64 (j : Int)] 3)
            go_wp2_with (at_builtin; refine wpList_app _ rfl _ _ rfl rfl hownA rfl (RI_one _ _ _ _ (by simp)) (by omega) (by first | omega | (simp; done) | (simp; omega)) ?_; intro A7 c7 w7 hown7 hg7 hat7)
            have hb7 := below_app hbA hownA hg7 (by simp; omega) (Nat.le_refl _)
            rw [← hsn.out] at hown7
            clear hownA hbA hg7 hat7
            go_wp2
            go_roundw
            case rel => exact ⟨k + 1, _, _, by omega, by go_num, rfl, hown7, hb7⟩
            case measure => simp [intOf]; omega
          | false =>
            have hE : ¬ f j = f k := by simpa [sameB] using hs0
            have HS := Lib.hid hs0
            have hjk : j < k := by
              rcases Nat.lt_or_ge j k with h | h
              · exact h
              · exact absurd (by rw [Nat.le_antisymm hj h]) hE
            have hq' : Hid (∀ q, q < j + 1 → ¬ f q = f k) := Lib.hid fun q h => by
              rcases Nat.lt_or_ge q j with h1 | h1
              · exact hq.out q h1
              · obtain rfl : q = j := Nat.le_antisymm (Nat.le_of_lt_succ h) h1
                exact hE
            clear hE hs0
            go_wp2_with fail
            go_region_held3 (fun w' => w'.cell? ⟨w.heap.size, 0, none⟩ = some (.int .i64 x) ∧ w'.cell? ⟨w.heap.size, 1, none⟩ = some (.int .i64 y) ∧ w'.cell? ⟨w.heap.size, 2, none⟩ = some (.slice Ag ng cg) ∧ w'.cell? ⟨w.heap.size, 3, none⟩ = some (.slice Ao no co))
              (first | go_keep | (go_split_ands; exact ⟨cell_below (by assumption) hb4, cell_below (by assumption) hb4, cell_below (by assumption) hb4, cell_below (by assumption) hb4⟩) | (go_split_ands; exact ⟨cell_below (by assumption) hb3, cell_below (by assumption) hb3, cell_below (by assumption) hb3, cell_below (by assumption) hb3⟩) | ((try dsimp only); (repeat' apply And.intro) <;> go_keep))
              (first | (go_at_call_of 48 (Value.int IntKind.i64 (j : Int)); refine (siOut_any x y Ag ng cg Ao no co gs os X N j _ ⟨hr.1.below hbd (Nat.le_refl _), hr.2.below hbd (Nat.le_refl _)⟩ hx hy hX (by omega) HN.out H7.out H8.out (by omega) (by omega) (by omega)).mono ?_; rintro e W3 hT; rw [HFC.out] at hT; obtain ⟨A3, c3, rfl, ho3, hb3⟩ := hT.open_ hl1) | (go_at_call_of 48 (Value.int IntKind.i64 (k : Int)); refine (siOut_any x y Ag ng cg Ao no co gs os X N k _ ⟨hr.1.below (hbd.trans (hb3.mono hbd.size)) (Nat.le_refl _), hr.2.below (hbd.trans (hb3.mono hbd.size)) (Nat.le_refl _)⟩ hx hy hX (by omega) HN.out H7.out H8.out (by omega) (by omega) (by omega)).mono ?_; rintro e W4 hT; rw [HFC.out] at hT; obtain ⟨A4, c4, rfl, ho4, hb4⟩ := hT.open_ hl2) | (go_at_call 47; refine (l1Same_any A3 A4 N c3 N c4 (f j) (f k) _ (ho3.reads.below hb4 (Nat.le_refl _)) ho4.reads (by omega) (by omega)).mono ?_; rintro e W5 ⟨he, j5, rfl⟩; rw [HS.out] at he; obtain rfl := he))
            have hb5 := hb2.trans ((below_drewN (bnext (bnext (below_of_drewN 1) hb3) hb4) j5).mono hz2)
            clear hb3 hb4 ho3 ho4 hb2 hbx hbw hbd k0 k1 k2 k3
            go_wp2
            go_roundw
            case rel => exact ⟨j + 1, by omega, by go_num, hq', hb5⟩
            case measure => simp [intOf]; omega
      · obtain rfl : k = no := Nat.le_antisymm hk (Nat.le_of_not_lt hlt)
        go_wp2
        go_ret2
        exact RetO.some_ (hB1.trans (hb.mono hB1.size)) HR.out (tab_len _ _) rfl (hown.lo_ hB1.size)
set_option maxHeartbeats 400000 in
theorem IndexFuncL_any (f : FuncId) (hcf : ∀ args w, Sem.run Try.prog (callFunc f args) w = .ok (.enter f args) w) (cap : Array Value) (q : List Int → Bool) (A : Option Addr) (n c i : Nat) (xss : List (List Int)) (w : World) (ha : RII w A n xss) (hn : n ≤ 2097152)
    (hi : i < n) (hit : q (gl xss i) = true) (hno : ∀ j, j < i → q (gl xss j) = false)
    (hf : Hid (∀ A' m c' k w1, RI w1 A' m (gl xss k) → Below w.heap.size w w1 → Calls Try.prog f (#[.slice A' m c'] ++ cap) w1 fun e w' => e = .returned (.bool (q (gl xss k))) ∧ Below w1.heap.size w1 w')) :
    Calls Try.prog 43 #[.slice A n c, .func (.func f) #[] cap] w fun e w' => e = .returned (.int .i64 i) ∧ Below w.heap.size w w' := by
  have hl := ha.len
  have HT := Lib.hid hit; have HNO := Lib.hid hno; clear hit hno
  go_enter Try.func43, Try.ntmps43
  go_wp2
  go_loopw [8] (fun v wr => ∃ k : Nat, k ≤ i ∧ v = .int .i64 k ∧ Below w.heap.size w wr) (fun v _ => n - (intOf v).toNat)
  case atStart => exact ⟨0, Nat.zero_le _, rfl, Below.refl _ _⟩
  case round =>
    obtain ⟨k, hk, rfl, hb⟩ := hrel
    obtain ⟨b, o, A', m, c', rfl, hbB, c2, hr2⟩ := (ha.below hb (Nat.le_refl _)).at_ (k := k) (by omega)
    have hkn : (k : Int) < n := by omega
    clear ha
    by_cases hki : k = i
    · have HQ : Hid (q (gl xss k) = true) := Lib.hid (by rw [hki]; exact HT.out)
      have HK := Lib.hid hki; clear hki
      go_wp2_with fail
      refine (hf.out A' m c' k _ hr2 hb).mono ?_
      rintro e w1 ⟨rfl, hb1⟩
      rw [HQ.out]
      go_wp2
      go_ret
      exact ⟨by rw [← HK.out]; rfl, hb.trans (hb1.mono hb.size)⟩
    · have hlt : k < i := Nat.lt_of_le_of_ne hk hki
      have HQ : Hid (q (gl xss k) = false) := Lib.hid (HNO.out k hlt)
      clear hki
      go_wp2_with fail
      refine (hf.out A' m c' k _ hr2 hb).mono ?_
      rintro e w1 ⟨rfl, hb1⟩
      rw [HQ.out]
      go_wp2
      go_roundw
      case rel => exact ⟨k + 1, by omega, by go_num, hb.trans (hb1.mono hb.size)⟩
      case measure => simp [intOf]; omega
theorem EqualOuts_1_any (B : Nat) (A A1 : Option Addr) (n c n1 c1 : Nat) (xs ys : List Int) (w : World) (hc : w.cell? ⟨B, 0, none⟩ = some (.slice A1 n1 c1)) (ha : RI w A n xs) (hb : RI w A1 n1 ys) (hn : n ≤ 2097152) (hn1 : n1 ≤ 2097152) :
    Calls Try.prog 44 #[.slice A n c, .pointer (some ⟨B, 0, none⟩)] w fun e w' => e = .returned (.bool (sameB xs ys)) ∧ Below w.heap.size w w' := by
  go_enter Try.func44, Try.ntmps44
  go_wp2_with fail
  refine (Equal_any A A1 n c n1 c1 xs ys _ ha hb hn hn1).mono ?_
  rintro e w1 ⟨rfl, j, rfl⟩
  go_wp2
  go_ret
  exact ⟨rfl, below_of_drewN j⟩
set_option maxRecDepth 100000 in
set_option maxHeartbeats 1600000 in
theorem EqualOuts_any (x y : Int) (Ag : Option Addr) (ng cg : Nat) (Ao : Option Addr) (no co : Nat) (gs : List G3) (os : List Int) (w : World) (hr : RG w Ag ng gs ∧ RI w Ao no os) (hng : ng ≤ 2097152) (hno : no ≤ 2097152) :
    Calls Try.prog 11 #[.agg #[.int .i64 x, .int .i64 y, .slice Ag ng cg, .slice Ao no co]] w (RetO w (eqoF x y gs os)) := by
  have hB : Below w.heap.size w (w.alloc (.cells #[.int .i64 x, .int .i64 y, .slice Ag ng cg, .slice Ao no co] 26)) := (Below.refl _ _).alloc (Nat.le_refl _) _
  have hlg := hr.1.len
  have hlo := hr.2.len
  cases h0 : smallB x y gs os 40 with
  | false =>
    have HR : Hid (eqoF x y gs os = none) := Lib.hid (by simp [eqoF, h0])
    have H0 := Lib.hid h0; clear h0
    go_enter Try.func11, Try.ntmps11
    go_wp2_with fail
    refine (isSmall_any x y Ag ng cg Ao no co gs os _ ⟨hr.1.below hB (Nat.le_refl _), hr.2.below hB (Nat.le_refl _)⟩ hng hno).mono ?_
    rintro e v1 ⟨rfl, hb1⟩
    rw [H0.out]
    go_wp2
    go_ret2
    exact RetO.none_ (hB.trans (hb1.mono hB.size)) HR.out rfl
  | true =>
    obtain ⟨h1, h2, h3⟩ := smallB_bd h0
    obtain ⟨⟨b1, b2⟩, ⟨b3, b4⟩, b5, b6, b7, b8⟩ := circB_bd h1
    obtain ⟨f, hf⟩ : ∃ f, f = colN gs os (x + y).toNat := ⟨_, rfl⟩
    obtain ⟨N, hN⟩ : ∃ N, N = 2 ^ (x + y).toNat := ⟨_, rfl⟩
    have hP := (pow_wrap hN (by omega)).1
    have HR : Hid (eqoF x y gs os = some (tab no fun k => (firstEq f k : Int))) := Lib.hid (by simp [eqoF, h0, hlo, hf])
    have HFL : Hid (∀ k, (f k).length = N) := Lib.hid fun k => by rw [hf, colN_len, hN]
    have HCF : Hid (∀ k : Nat, k < no → columnF x y gs os (k : Int) = some (f k)) := Lib.hid fun k hk => by
      unfold columnF; rw [h0, hlo, inB_t (by omega), hf]; simp
    clear hN hf
    have H0 := Lib.hid h0; clear h0 h1 b7 b8
    go_enter Try.func11, Try.ntmps11
    go_wp2_with fail
    refine (isSmall_any x y Ag ng cg Ao no co gs os _ ⟨hr.1.below hB (Nat.le_refl _), hr.2.below hB (Nat.le_refl _)⟩ hng hno).mono ?_
    rintro e v1 ⟨rfl, hb1⟩
    rw [H0.out]
    have hz1 := hb1.size
    simp only [World.size_alloc] at hz1 hb1
    have hB1 := hB.trans (hb1.mono (by omega))
    have hO := (Own_new0 v1 v1.heap.size (Nat.le_refl _)).alloc (.cells #[] 24)
    have hL := LII.new0 (v1.alloc (.cells #[] 3)) v1.heap.size (by simp) (some v1.heap.size)
    have hbA := ((Below.refl v1.heap.size v1).alloc (Nat.le_refl _) (.cells #[] 3)).alloc (by simp) (.cells #[] 24)
    have hq0 := box_at (hb1.trans (hbA.mono hz1))
    obtain ⟨k0, k1, k2, k3⟩ := hq0
    go_wp2_with fail
    go_loopw [4, 5, 17] (fun v l i wr => ∃ (k : Nat) (A' L' : Option Addr) (c' d' : Nat), k ≤ no ∧ i = .int .i64 k ∧ v = .slice A' k c' ∧ l = .slice L' k d' ∧ Own wr v1.heap.size wr.heap.size (.slice A' k c') k (tab k fun q => (firstEq f q : Int)) ∧ LII wr v1.heap.size wr.heap.size (.slice L' k d') k (tabL k f) (Value.slice A' k c').ownBlock ∧ Below v1.heap.size v1 wr) (fun _ _ i _ => no - (intOf i).toNat)
    case atStart => exact ⟨0, _, _, _, _, Nat.zero_le _, rfl, rfl, rfl, by simpa [tab] using hO.now, by simpa [tabL, Value.ownBlock] using hL, hbA⟩
    case round =>
      clear k0 k1 k2 k3 hO hL hbA
      obtain ⟨k, A', L', c', d', hk, rfl, rfl, rfl, hown, hlst, hb⟩ := hrel
      have hz := hb.size
      have hbw := hB1.trans (hb.mono hB1.size)
      have hq0 := box_at (hb1.trans (hb.mono hz1))
      obtain ⟨k0, k1, k2, k3⟩ := hq0
      by_cases hlt : k < no
      · have hsn : Hid (tab (k + 1) (fun q => (firstEq f q : Int)) = tab k (fun q => (firstEq f q : Int)) ++ [(firstEq f k : Int)]) := Lib.hid (tab_snoc k _)
        have hln : Hid (tabL (k + 1) f = tabL k f ++ [f k]) := Lib.hid (tabL_snoc k f)
        have hcf := HCF.out k hlt
        have hfl := HFL.out k
        go_wp2_with fail
        refine (column_any x y Ag ng cg Ao no co (k : Int) gs os _ ⟨hr.1.below hbw (Nat.le_refl _), hr.2.below hbw (Nat.le_refl _)⟩ hng hno).mono ?_
        rintro e w2 hT
        rw [hcf] at hT
        obtain ⟨A1, c1, rfl, hown1, hb2⟩ := hT
        simp only [Option.getD_some, Option.isSome_some] at hown1 ⊢
        rw [hfl] at hown1 ⊢
        clear hcf
        have hz2 := hb2.size
        have hbx2 := ((Below.refl w2.heap.size w2).alloc (Nat.le_refl _) (.cells #[.slice A1 N c1] 24)).alloc (by simp) (.cells #[.slice A1 N c1] 24)
        have hlA := (hlst.below hb2 (Nat.le_refl _)).below hbx2 (Nat.le_refl _)
        have hnA := hown1.below hbx2 (.inl (Nat.le_refl _))
        have hoA := (hown.below hb2 (.inl (Nat.le_refl _))).below hbx2 (.inl (Nat.le_refl _))
        have hcA : ((w2.alloc (.cells #[.slice A1 N c1] 24)).alloc (.cells #[.slice A1 N c1] 24)).cell? ⟨w2.heap.size + 1, 0, none⟩ = some (.slice A1 N c1) := by simp
        have hcB := cell_below (box_cell w2 #[.slice A1 N c1] (T := 24) 0 _ rfl) ((Below.refl _ _).alloc (Nat.le_refl _) (.cells #[.slice A1 N c1] 24))
        have hbadA : ∀ g, (Value.slice A1 N c1).ownBlock = some g → (Value.slice A' k c').ownBlock ≠ some g := fun g hg he => by
          have q1 := hown1.lt g hg
          have q2 := hown.lt g he
          omega
        have hfarL := hlst.lt
        have hbA := (hb.trans (hb2.mono hz)).trans (hbx2.mono (Nat.le_trans hz hz2))
        obtain ⟨i, hi⟩ : ∃ i, i = firstEq f k := ⟨_, rfl⟩
        obtain ⟨hi1, hi2, hi3⟩ := firstEq_spec f k
        rw [← hi] at hi1 hi2 hi3 hsn
        have hgl : Hid (∀ j, j ≤ k → gl (tabL k f ++ [f k]) j = f j) := Lib.hid fun j hj => by rw [← hln.out, gl_tabL (Nat.lt_succ_of_le hj)]
        have hit : Hid (sameB (gl (tabL k f ++ [f k]) i) (f k) = true) := Lib.hid (by rw [hgl.out i hi1]; simp [sameB, hi2])
        have hno_ : Hid (∀ j, j < i → sameB (gl (tabL k f ++ [f k]) j) (f k) = false) := Lib.hid fun j hj => by rw [hgl.out j (by omega)]; simpa [sameB] using hi3 j hj
        have hgn : Hid (∀ q, (gl (tabL k f ++ [f k]) q).length ≤ N) := Lib.hid fun q => by rw [← hln.out]; exact gl_tabL_len HFL.out
        clear hi hi2 hi3 k0 k1 k2 k3 hfl
        go_wp2_with (first | (at_builtin; refine wpList_appLL _ rfl _ _ rfl rfl hlA rfl hnA hbadA hcA (by omega) (by first | omega | (simp; done) | (simp; omega)) ?_; intro A5 c5 w5 hl5 hg5 hk5; have hc5 := hk5 _ _ _ hcB (fun g9 hg9 he9 => by have := (hfarL g9 (by rw [hg9]; rfl)).2; omega); have ho5 := hoA.besideL hlA hg5; have hr5 := hlA.reads_new hnA hg5; have hb5 := below_grown hbA hg5 (by simp; omega) (fun q hq => (hfarL q hq).1)) | (go_at_call 43; refine (IndexFuncL_any 44 Try.call44 #[.pointer (some ⟨w2.heap.size, 0, none⟩)] (fun ys => sameB ys (f k)) A5 (k + 1) c5 i _ _ hl5.reads (by omega) (by omega) hit.out hno_.out (Lib.hid fun B' m' e' q' w9 hr9 hb9 => EqualOuts_1_any w2.heap.size B' A1 m' e' N c1 _ (f k) w9 (cell_below hc5 hb9) hr9 (hr5.below hb9 (Nat.le_refl _)) (by have q1 := hr9.len; have q2 := hgn.out q'; omega) (by omega))).mono ?_; rintro e w6 ⟨rfl, hb6⟩; have ho6 := ho5.below hb6 (.inl (Nat.le_refl _)); have hl6 := hl5.below hb6 (Nat.le_refl _); have hz5 := hb5.size; have hb7 := hb5.trans (hb6.mono hz5); have hz7 := hb7.size; have hownA := ho6.alloc (.cells #[.int .i64 (i : Int)] 3); have hlB := hl6.alloc (.cells #[.int .i64 (i : Int)] 3)) | (at_builtin; refine wpList_app _ rfl _ _ rfl rfl hownA rfl (RI_one _ _ _ _ (by simp)) (by omega) (by first | omega | (simp; done) | (simp; omega)) ?_; intro A8 c8 w8 hown8 hg8 hat8))
        have hb8 := below_app (hb7.alloc hz7 (.cells #[.int .i64 (i : Int)] 3)) hownA hg8 (by simp; omega) (Nat.le_refl _)
        have hz8 := hg8.size
        have hz6 := hb6.size
        simp only [World.size_alloc] at hz8
        have hl8 := (hlB.beside hownA hg8 hat8).hi_ (hi' := w8.heap.size) (by omega)
        rw [← hsn.out] at hown8
        rw [← hln.out] at hl8
        go_roundw
        case rel => exact ⟨k + 1, A8, A5, c8, c5, by omega, by go_num, rfl, rfl, hown8, hl8, hb8⟩
        case measure => simp [intOf]; omega
      · obtain rfl : k = no := Nat.le_antisymm hk (Nat.le_of_not_lt hlt)
        go_wp2
        go_ret2
        exact RetO.some_ (hB1.trans (hb.mono hB1.size)) HR.out (tab_len _ _) rfl (hown.lo_ hB1.size)
theorem ofInt_u64 {a : Nat} (ha : a < 18446744073709551616) : (BitVec.ofInt 64 (a : Int)).toNat = a := by
  rw [BitVec.ofInt_natCast, BitVec.toNat_ofNat]; exact Nat.mod_eq_of_lt (by omega)
theorem u64_mask {a : Nat} (ha : a < 4294967296) : bits .and .u64 (a : Int) 4294967295 = (a : Int) := by
  show IntKind.u64.wrap ((BitVec.ofInt 64 (a : Int) &&& BitVec.ofInt 64 ((4294967295 : Nat) : Int)).toNat : Int) = _
  rw [BitVec.toNat_and, ofInt_u64 (by omega), ofInt_u64 (by omega), show (4294967295 : Nat) = 2 ^ 32 - 1 from rfl, Nat.and_two_pow_sub_one_eq_mod, Nat.mod_eq_of_lt (by omega), IntKind.wrap_u64]
  omega
def repC (n : Nat) (v : Int) (k : Nat) : List Value := List.replicate k (.int .i64 v) ++ List.replicate (n - k) (.int .i64 0)
theorem repC_len {n k : Nat} (v : Int) (h : k ≤ n) : (repC n v k).length = n := by simp [repC]; omega
theorem repC_next {n k c : Nat} (v : Int) (h : k + c ≤ n) : splice (repC n v k) k (List.replicate c (.int .i64 v)) = repC n v (k + c) := by
  unfold splice repC
  rw [List.take_append_of_le_length (by simp), List.take_of_length_le (by simp), List.length_replicate, List.drop_append]
  simp only [List.length_replicate, List.drop_replicate, List.replicate_append_replicate]
  rw [show k - (k + c) = 0 from by omega, show n - k - (k + c - k) = n - (k + c) from by omega]
  simp [← List.append_assoc, List.replicate_append_replicate]
theorem repC_all (n : Nat) (v : Int) : repC n v n = (List.replicate n v).map (Value.int .i64) := by simp [repC]
theorem Mul64_one (n : Nat) (w : World) (hn : n ≤ 1000000) : Calls Try.prog 86 #[.int .u64 1, .int .u64 n] w fun e w' => e = .returned (.tuple #[.int .u64 0, .int .u64 n]) ∧ w = w' := by
  have e1 : bits .and .u64 1 4294967295 = 1 := by decide
  have e2 : bits .and .u64 (n : Int) 4294967295 = n := u64_mask (by omega)
  have e0 : bits .and .u64 0 4294967295 = 0 := by decide
  have e3 : (n : Int) / 4294967296 = 0 := by omega
  have e4 : IntKind.u64.wrap 0 = 0 := by decide
  go_enter Try.func86, Try.ntmps86
  go_wp2
  go_ret2
  exact ⟨by simp [e4], rfl⟩
theorem Mul_one (n : Nat) (w : World) (hn : n ≤ 1000000) : Calls Try.prog 68 #[.int .u64 1, .int .u64 n] w fun e w' => e = .returned (.tuple #[.int .u64 0, .int .u64 n]) ∧ w = w' := by
  go_enter Try.func68, Try.ntmps68
  go_wp2_with fail
  refine (Mul64_one n _ hn).mono ?_
  rintro e w1 ⟨rfl, rfl⟩
  go_wp2
  go_ret2
  exact ⟨rfl, rfl⟩
theorem info_int1 : (Try.prog.info? 3).map (·.size) = some 1 := by kernel_rfl
theorem repC_cell {w : World} {g n k m : Nat} {v : Int} {fr : Nat × Nat} (hg : w.heap[g]? = some (.cells (repC n v k).toArray 3 fr)) (hm : m ≤ k) : ∀ j u, (List.replicate m (Value.int .i64 v))[j]? = some u → w.cell? ((⟨g, 0, none⟩ : Addr).add j) = some u := by
  intro j u hu
  have hj : j < m := by
    rcases Nat.lt_or_ge j m with h | h
    · exact h
    · rw [List.getElem?_eq_none (by simpa using h)] at hu; cases hu
  rw [addr_add, Nat.zero_add, cell_of_row _ g j _ _ _ hg]
  rw [List.getElem?_replicate, if_pos hj] at hu
  rw [← hu]
  simp [repC, List.getElem?_append_left (show j < (List.replicate k (Value.int .i64 v)).length by simp; omega), show j < k by omega]
theorem made_heap {w3 : World} {B g k : Nat} (v : Int) (h : w3.ownsRow B 3 1 (.slice (some ⟨g, 0, none⟩) k k) k (madeCells (Value.int .i64 0).cells (k * 1)).toList) : w3.heap[g]? = some (.cells (repC k v 0).toArray 3 (0, 0)) := by
  have hm : (madeCells (Value.int .i64 0).cells (k * 1)).toList = repC k v 0 := by simp [Value.cells, toList_madeCells_one, repC]
  rw [hm] at h
  rcases h.2 with ⟨hv, _⟩ | ⟨g', cap, cur, hv, _, hg, _, _, hs, ht⟩
  · simp at hv
  · simp only [Value.slice.injEq, Option.some.injEq, Addr.mk.injEq, and_true, true_and] at hv
    obtain ⟨rfl, rfl⟩ := hv
    have : cur.toList = repC k v 0 := by rw [← ht, List.take_of_length_le (by simp; omega)]
    rw [hg, ← this]
theorem rep_own {w' : World} {g k : Nat} {v : Int} {lo : Nat} (hg : w'.heap[g]? = some (.cells (repC k v k).toArray 3 (0, 0))) (hl : lo ≤ g) (hk : k ≤ 1000) : Own w' lo w'.heap.size (.slice (some ⟨g, 0, none⟩) k k) k (List.replicate k v) := by
  refine Own.mk_ ⟨by simp, .inr ⟨g, k, _, rfl, hl, hg, Nat.le_refl _, by unfold maxLen; omega, by simp [repC_len v (Nat.le_refl k)], ?_⟩⟩
  rw [← repC_all, List.take_of_length_le (by simp [repC_len v (Nat.le_refl k)])]
set_option maxRecDepth 100000 in
set_option maxHeartbeats 1600000 in
theorem Repeat_any (A : Option Addr) (c k : Nat) (v : Int) (w : World) (ha : RI w A 1 [v]) (hk : k ≤ 1000) :
    Calls Try.prog 39 #[.slice A 1 c, .int .i64 k] w (RetI w (List.replicate k v)) := by
  obtain ⟨b, o, rfl, hbB, c1⟩ := ha.at_ (k := 0) (by omega)
  have hv : gi [v] 0 = v := rfl
  rw [hv, Nat.add_zero] at c1
  obtain ⟨i0, hi, hz0, hz1, hz2⟩ := info_parts info_int
  clear ha
  rcases Nat.eq_zero_or_pos k with h0 | h0
  · subst h0
    go_enter Try.func39, Try.ntmps39
    go_wp2_with fail
    refine (Mul_one 0 _ (by omega)).mono ?_
    rintro e w1 ⟨rfl, rfl⟩
    go_wp2_with (first | (at_make; refine wpList_make_full _ rfl _ _ 24 rfl w.heap.size 3 i0 (.int .i64 0) 1 Try.underlying24 hi hz0 hz1 _ _ _ _ 0 rfl rfl rfl rfl (by rw [hz2]; omega) (by unfold maxLen; omega) (Nat.le_refl _) ?_; intro w3 hown hgrow; have hg3 := made_heap v hown; have hb3 := below_of_grownBy hgrow; have c3 := cell_below c1 hb3) | (have _ := hg3; refine wpList_copy_splice rfl _ _ 24 24 rfl 3 Try.underlying24 info_int1 _ _ _ _ _ _ rfl rfl w.heap.size 0 _ 3 hg3 [] rfl (fun h => absurd h (by simp)) (by simp) (fun u hu => by simp at hu) w.heap.size w hb3 (Nat.le_refl _) ?_; intro w4 hg4 hb4))
    go_loopw [8] (fun i wr => i = .int .i64 0 ∧ w4 = wr) (fun _ _ => 0)
    case atStart => exact ⟨rfl, rfl⟩
    case round =>
      obtain ⟨rfl, rfl⟩ := hrel
      go_wp2
      go_ret
      exact RetI.mk_ rfl rfl (rep_own (k := 0) hg4.out (Nat.le_refl _) (by omega)) hb4
  · have h1k : (1 : Nat) ≤ k := h0
    go_enter Try.func39, Try.ntmps39
    go_wp2_with fail
    refine (Mul_one k _ (by omega)).mono ?_
    rintro e w1 ⟨rfl, rfl⟩
    go_wp2_with (first | (at_make; refine wpList_make_full _ rfl _ _ 24 rfl w.heap.size 3 i0 (.int .i64 0) 1 Try.underlying24 hi hz0 hz1 _ _ _ _ k rfl rfl rfl rfl (by rw [hz2]; omega) (by unfold maxLen; omega) (Nat.le_refl _) ?_; intro w3 hown hgrow; have hg3 := made_heap v hown; have hb3 := below_of_grownBy hgrow; have c3 := cell_below c1 hb3) | (have _ := hg3; refine wpList_copy_splice rfl _ _ 24 24 rfl 3 Try.underlying24 info_int1 _ _ _ _ _ _ rfl rfl w.heap.size 0 _ 3 hg3 [.int .i64 v] (by simp [Nat.min_def]; omega) (fun _ => ⟨rfl, ⟨b, o, none⟩, rfl, fun j u hu => by cases j with | zero => (simp at hu; subst hu; rw [addr_add]; exact c3) | succ j => simp at hu⟩) (by rw [repC_len v (Nat.zero_le _)]; simpa using h1k) (fun u hu => by simp at hu; subst hu; rfl) w.heap.size w hb3 (Nat.le_refl _) ?_; intro w4 hg4 hb4))
    have hst := Lib.hid (show w4.heap[w.heap.size]? = some (.cells (repC k v 1).toArray 3 (0, 0)) from by rw [hg4.out, ← repC_next (k := 0) (c := 1) v (by omega)]; rfl)
    clear hg4
    go_loopw [8] (fun i wr => ∃ m : Nat, 1 ≤ m ∧ m ≤ k ∧ i = .int .i64 m ∧ Hid (wr.heap[w.heap.size]? = some (.cells (repC k v m).toArray 3 (0, 0))) ∧ Below w.heap.size w wr) (fun i _ => k - (intOf i).toNat)
    case atStart => exact ⟨1, Nat.le_refl _, h1k, rfl, hst, hb4⟩
    case round =>
      clear hst hb4
      obtain ⟨m, hm1, hm, rfl, hgm, hb⟩ := hrel
      by_cases hlt : m < k
      · have hmk : (m : Int) ≤ k := by omega
        have hkm : ¬ (k = m) := by omega
        obtain ⟨q, hq⟩ : ∃ q, q = min m (k - m) := ⟨_, rfl⟩
        have hq1 : 1 ≤ q ∧ q ≤ m ∧ m + q ≤ k := by omega
        go_wp2_with fail
        go_region_law (first | (simp only [Act.put, List.setIfInBounds_toArray, List.set_cons_zero, List.set_cons_succ]; refine step_copy_splice (by rfl) _ _ 24 24 (by rfl) 3 Try.underlying24 info_int1 _ _ _ _ _ _ (by rfl) (by rfl) w.heap.size m _ 3 hgm.out (List.replicate q (.int .i64 v)) (by rw [List.length_replicate, hq]) (fun _ => ⟨by simp [hkm], ⟨w.heap.size, 0, none⟩, by simp, repC_cell hgm.out hq1.2.1⟩) (by rw [repC_len v hm, List.length_replicate]; exact hq1.2.2) (by intro u hu; rw [List.eq_of_mem_replicate hu]; rfl) w.heap.size w (below_drewN hb 1) (Nat.le_refl _) ?_; intro w5 hg5 hb5))
        have hwr : IntKind.i64.wrap ((m : Int) + ((min m (k - m) : Nat) : Int)) = ((m + q : Nat) : Int) := by
          rw [← hq]; exact (IntWalk.i64_in _ (by omega)).trans (by omega)
        have hg6 : Hid (w5.heap[w.heap.size]? = some (.cells (repC k v (m + q)).toArray 3 (0, 0))) := Lib.hid (by rw [hg5.out, repC_next v hq1.2.2])
        rw [hwr]
        clear hwr hg5 hgm hb hq
        simp only [Act.put, List.getElem_toArray, List.getElem_cons_succ, List.getElem_cons_zero, List.setIfInBounds_toArray, List.set_cons_zero, List.set_cons_succ]
        go_wp2
        go_roundw
        case rel => exact ⟨m + q, by omega, hq1.2.2, by go_num, hg6, hb5⟩
        case measure => simp [intOf]; omega
      · obtain rfl : m = k := Nat.le_antisymm hm (Nat.le_of_not_lt hlt)
        go_wp2
        go_ret
        exact RetI.mk_ (by simp) rfl (rep_own hgm.out (Nat.le_refl _) (by omega)) hb
end Go.Proofs.Ytcdhmcpocohbpaa
