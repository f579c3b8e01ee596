/- Contracts of putting a number into a list in order, and of DependsOn. -/
import Derived.Test.YtgenehiiakdadaaQBes
namespace Go.Proofs.Ytgenehiiakdadaa
open Go.RowKit
set_option linter.unusedVariables false
set_option linter.unusedSimpArgs false

/-- How many elements at the beginning of a list are less than x. -/
def lessN (l : List Int) (x : Int) : Nat := (l.takeWhile fun z => decide (z < x)).length
/-- A list with a number put in, in order. -/
def putL (l : List Int) (x : Int) : List Int := if gi l (lessN l x) = x ∧ lessN l x < l.length then l else l.take (lessN l x) ++ x :: l.drop (lessN l x)
theorem ownsRow_cap {w : World} {lo : Nat} {t : TypeId} {s n c : Nat} {A : Option Addr} {xs : List Value} (h : w.ownsRow lo t s (.slice A n c) n xs) : n ≤ c := by
  rcases h.2 with ⟨hv, hn⟩ | ⟨g, cap, cur, hv, _, _, hnc, _⟩
  · simp only [Value.slice.injEq] at hv; omega
  · simp only [Value.slice.injEq] at hv; omega
theorem lessN_le (l : List Int) (x : Int) : lessN l x ≤ l.length := by
  induction l with
  | nil => simp [lessN]
  | cons a l ih =>
    unfold lessN at *
    by_cases h : a < x
    · simp [h]; exact ih
    · simp [h]
theorem lessN_lt {l : List Int} {x : Int} : ∀ j, j < lessN l x → gi l j < x := by
  induction l with
  | nil => intro j hj; simp [lessN] at hj
  | cons a l ih =>
    intro j hj
    unfold lessN at hj
    by_cases h : a < x
    · simp [h] at hj
      cases j with
      | zero => exact h
      | succ j => exact ih j (by unfold lessN; omega)
    · simp [h] at hj
theorem lessN_not {l : List Int} {x : Int} (h : lessN l x < l.length) : ¬ gi l (lessN l x) < x := by
  induction l with
  | nil => simp at h
  | cons a l ih =>
    by_cases ha : a < x
    · have e : lessN (a :: l) x = lessN l x + 1 := by simp [lessN, ha]
      rw [e] at h ⊢
      exact ih (by simpa using h)
    · have e : lessN (a :: l) x = 0 := by simp [lessN, ha]
      rw [e]; exact ha
theorem lessN_unique {l : List Int} {x : Int} {k : Nat} (hk : k ≤ l.length) (h1 : ∀ j, j < k → gi l j < x) (h2 : k < l.length → ¬ gi l k < x) : lessN l x = k := by
  rcases Nat.lt_trichotomy (lessN l x) k with h | h | h
  · exact absurd (h1 _ h) (lessN_not (by omega))
  · exact h
  · exact absurd (lessN_lt k h) (h2 (Nat.lt_of_lt_of_le h (lessN_le l x)))
theorem putL_len (l : List Int) (x : Int) : (putL l x).length = if gi l (lessN l x) = x ∧ lessN l x < l.length then l.length else l.length + 1 := by
  have := lessN_le l x
  unfold putL
  split
  · rfl
  · simp; omega
theorem putL_mem {l : List Int} {x z : Int} : z ∈ putL l x ↔ z = x ∨ z ∈ l := by
  unfold putL
  split
  · rename_i h
    constructor
    · exact .inr
    · rintro (rfl | h')
      · have := gi_mem h.2
        rw [h.1] at this; exact this
      · exact h'
  · have : z ∈ l ↔ z ∈ l.take (lessN l x) ∨ z ∈ l.drop (lessN l x) := by
      rw [← List.mem_append, List.take_append_drop]
    rw [this]
    simp only [List.mem_append, List.mem_cons]
    constructor
    · rintro (h | h | h)
      · exact .inr (.inl h)
      · exact .inl h
      · exact .inr (.inr h)
    · rintro (h | h | h)
      · exact .inr (.inl h)
      · exact .inl h
      · exact .inr (.inr h)
theorem putL_last {l : List Int} {x : Int} (h : ∀ z ∈ l, z < x) : putL l x = l ++ [x] := by
  have e : lessN l x = l.length := lessN_unique (Nat.le_refl _) (fun j hj => h _ (gi_mem hj)) (fun hc => absurd hc (Nat.lt_irrefl _))
  unfold putL
  rw [e, if_neg (fun hc => absurd hc.2 (Nat.lt_irrefl _))]
  simp
theorem putL_again {l : List Int} {x : Int} (h : ∀ z ∈ l, z < x) : putL (l ++ [x]) x = l ++ [x] := by
  have e : lessN (l ++ [x]) x = l.length := lessN_unique (by simp) (fun j hj => by rw [gi_append_lt hj]; exact h _ (gi_mem hj)) (fun _ => by rw [gi_append_at]; omega)
  unfold putL
  rw [e, if_pos ⟨gi_append_at, by simp⟩]
theorem RI.take_ {w : World} {A : Option Addr} {n : Nat} {xs : List Int} (h : RI w A n xs) (k : Nat) (hk : k ≤ n) : RI w A k (xs.take k) := by
  have hl := h.len
  refine ⟨by simp; omega, fun hn => ?_⟩
  obtain ⟨b, o, hA, hlt, hc⟩ := h.2 (by omega)
  refine ⟨b, o, hA, hlt, fun j hj => ?_⟩
  rw [hc j (by omega)]
  congr 2
  unfold gi; rw [List.getD_eq_getElem?_getD, List.getD_eq_getElem?_getD, List.getElem?_take_of_lt hj]
theorem RI.drop_ {w : World} {b o n : Nat} {xs : List Int} (h : RI w (some ⟨b, o, none⟩) n xs) (k : Nat) (hk : k ≤ n) : RI w (some ⟨b, o + k, none⟩) (n - k) (xs.drop k) := by
  have hl := h.len
  refine ⟨by simp; omega, fun hn => ?_⟩
  obtain ⟨b', o', hA, hlt, hc⟩ := h.2 (by omega)
  injection hA with hA
  injection hA with h1 h2
  subst h1; subst h2
  refine ⟨b, o + k, rfl, hlt, fun j hj => ?_⟩
  rw [show o + k + j = o + (k + j) from by omega, hc (k + j) (by omega)]
  congr 2
  unfold gi; rw [List.getD_eq_getElem?_getD, List.getD_eq_getElem?_getD, List.getElem?_drop]

theorem RI_nil (w : World) (A : Option Addr) : RI w A 0 [] := ⟨rfl, fun h => absurd h (by omega)⟩

set_option maxRecDepth 100000 in
set_option maxHeartbeats 800000 in
theorem l1Put_any (A : Option Addr) (n c lo hi : Nat) (l : List Int) (x : Int) (w : World) (h : Own w lo hi (.slice A n c) n l) (hlo : lo ≤ w.heap.size) (hn : n ≤ 2097152) :
    Calls Try.prog 57 #[.slice A n c, .int .i64 x] w fun e w' => ∃ A' c', e = .returned (.slice A' (putL l x).length c') ∧ Own w' lo w'.heap.size (.slice A' (putL l x).length c') (putL l x).length (putL l x) ∧ Below w.heap.size w w' := by
  have ha := h.reads
  have hl := ha.len
  have hle := lessN_le l x
  have hnc : n ≤ c := ownsRow_cap h.1
  go_enter Try.func57, Try.ntmps57
  go_wp2
  go_loop [5] (fun i => ∃ k : Nat, k ≤ lessN l x ∧ i = .int .i64 k) (fun i => n - (intOf i).toNat)
  case atStart => exact ⟨0, Nat.zero_le _, rfl⟩
  case round =>
    obtain ⟨k, hk, rfl⟩ := hrel
    by_cases hlt : k < lessN l x
    · have h1 := lessN_lt k hlt
      obtain ⟨b, o, rfl, hbB, c1⟩ := ha.at_ (k := k) (by omega)
      clear ha h
      generalize gi l k = X at *
      have hkn : (k : Int) < n := by omega
      go_wp2
      go_round
      case rel => exact ⟨k + 1, by omega, by go_num⟩
      case measure => simp [intOf]; omega
    · obtain rfl : k = lessN l x := by omega
      by_cases hlt2 : lessN l x < n
      · have h2 := lessN_not (l := l) (x := x) (by omega)
        obtain ⟨b, o, rfl, hbB, c1⟩ := ha.at_ hlt2
        have hkn : ((lessN l x : Nat) : Int) < n := by omega
        by_cases he : gi l (lessN l x) = x
        · have hp : Hid (putL l x = l) := Lib.hid (by unfold putL; rw [if_pos ⟨he, by omega⟩])
          have heq : (gi l (lessN l x) == x) = true := by simpa using he
          clear he ha
          generalize gi l (lessN l x) = X at *
          generalize lessN l x = k at *
          go_wp2
          go_ret
          exact ⟨_, c, by rw [hp.out, hl]; rfl, by rw [hp.out, hl]; exact h.now, Below.refl _ _⟩
        · have hp : Hid (putL l x = (l.take (lessN l x) ++ [x]) ++ l.drop (lessN l x)) := Lib.hid (by unfold putL; rw [if_neg (fun hc => he hc.1)]; simp)
          have heq : (gi l (lessN l x) == x) = false := by simpa using he
          have hkc : ((lessN l x : Nat) : Int) ≤ c := by omega
          have hck : ¬ (c = lessN l x) := by omega
          have r1 := ha.take_ (lessN l x) (by omega)
          have r2 := ha.drop_ (lessN l x) (by omega)
          clear he ha
          generalize gi l (lessN l x) = X at *
          generalize lessN l x = k at *
          have hown0 := Own_new0 w w.heap.size (Nat.le_refl _)
          have hb0 := (Below.refl w.heap.size w).alloc (Nat.le_refl _) (.cells #[] 3)
          go_wp2_with (at_builtin; first | (refine wpList_app _ rfl _ _ rfl rfl hown0 rfl (r1.below hb0 (Nat.le_refl _)) (by omega) (by first | omega | (simp; done) | (simp; omega)) ?_; intro A5 c5 w5 hown5 hg5 hat5; have hb5 := below_app hb0 hown0 hg5 (by simp) (Nat.le_refl _); have hz5 := hb5.size; simp only [Nat.zero_add, List.nil_append] at hown5; have hownA := hown5.alloc (.cells #[.int .i64 x] 3)) | (refine wpList_app _ rfl _ _ rfl rfl hownA rfl (RI_one _ _ _ _ (by simp)) (by omega) (by first | omega | (simp; done) | (simp; omega)) ?_; intro A6 c6 w6 hown6 hg6 hat6; have hb6 := below_app (hb5.alloc hz5 (.cells #[.int .i64 x] 3)) hownA hg6 (by simp; omega) (Nat.le_refl _); have hz6 := hb6.size) | (refine wpList_app _ rfl _ _ rfl rfl hown6 rfl (r2.below hb6 (Nat.le_refl _)) (by omega) (by first | omega | (simp; done) | (simp; omega)) ?_; intro A7 c7 w7 hown7 hg7 hat7; have hb7 := below_app hb6 hown6 hg7 hz6 (Nat.le_refl _)))
          have hlen : (putL l x).length = k + 1 + (n - k) := by rw [hp.out]; simp; omega
          rw [← hp.out] at hown7
          go_ret
          refine ⟨A7, c7, ?_, ?_, hb7⟩
          · rw [hlen]; simp
          · rw [hlen]; simpa using hown7.lo_ hlo
      · have hkn : lessN l x = n := by omega
        have hp : Hid (putL l x = (l.take n ++ [x]) ++ ([] : List Int)) := Lib.hid (by unfold putL; rw [hkn, if_neg (fun hc => by omega), List.drop_of_length_le (Nat.le_of_eq hl)]; simp)
        rw [hkn]
        have r1 := ha.take_ n (Nat.le_refl _)
        clear ha
        rcases h.1.2 with ⟨hv, hn0⟩ | ⟨g, cap, cur, hv, _, _, _, _⟩
        · simp only [Value.slice.injEq, true_and] at hv
          obtain ⟨rfl, rfl, rfl⟩ := hv
          clear h
          have hown0 := Own_new0 w w.heap.size (Nat.le_refl _)
          have hb0 := (Below.refl w.heap.size w).alloc (Nat.le_refl _) (.cells #[] 3)
          go_wp2_with (at_builtin; first | (refine wpList_app _ rfl _ _ rfl rfl hown0 rfl (r1.below hb0 (Nat.le_refl _)) (by omega) (by first | omega | (simp; done) | (simp; omega)) ?_; intro A5 c5 w5 hown5 hg5 hat5; have hb5 := below_app hb0 hown0 hg5 (by simp) (Nat.le_refl _); have hz5 := hb5.size; simp only [Nat.zero_add, List.nil_append] at hown5; have hownA := hown5.alloc (.cells #[.int .i64 x] 3)) | (refine wpList_app _ rfl _ _ rfl rfl hownA rfl (RI_one _ _ _ _ (by simp)) (by omega) (by first | omega | (simp; done) | (simp; omega)) ?_; intro A6 c6 w6 hown6 hg6 hat6; have hb6 := below_app (hb5.alloc hz5 (.cells #[.int .i64 x] 3)) hownA hg6 (by simp; omega) (Nat.le_refl _); have hz6 := hb6.size) | (refine wpList_app _ rfl _ _ rfl rfl hown6 rfl (RI_nil _ _) (by omega) (by first | omega | (simp; done) | (simp; omega)) ?_; intro A7 c7 w7 hown7 hg7 hat7; have hb7 := below_app hb6 hown6 hg7 hz6 (Nat.le_refl _)))
          have hlen : (putL l x).length = 0 + 1 := by rw [hp.out]; simp <;> omega
          rw [← hp.out] at hown7
          go_ret
          refine ⟨A7, c7, ?_, ?_, hb7⟩
          · rw [hlen]; simp
          · rw [hlen]; simpa using hown7.lo_ hlo
        · simp only [Value.slice.injEq, true_and] at hv
          obtain ⟨rfl, rfl⟩ := hv
          have hnc' : (n : Int) ≤ c := by omega
          clear h
          by_cases hcn : c = n
          · subst hcn
            have hown0 := Own_new0 w w.heap.size (Nat.le_refl _)
            have hb0 := (Below.refl w.heap.size w).alloc (Nat.le_refl _) (.cells #[] 3)
            go_wp2_with (at_builtin; first | (refine wpList_app _ rfl _ _ rfl rfl hown0 rfl (r1.below hb0 (Nat.le_refl _)) (by omega) (by first | omega | (simp; done) | (simp; omega)) ?_; intro A5 c5 w5 hown5 hg5 hat5; have hb5 := below_app hb0 hown0 hg5 (by simp) (Nat.le_refl _); have hz5 := hb5.size; simp only [Nat.zero_add, List.nil_append] at hown5; have hownA := hown5.alloc (.cells #[.int .i64 x] 3)) | (refine wpList_app _ rfl _ _ rfl rfl hownA rfl (RI_one _ _ _ _ (by simp)) (by omega) (by first | omega | (simp; done) | (simp; omega)) ?_; intro A6 c6 w6 hown6 hg6 hat6; have hb6 := below_app (hb5.alloc hz5 (.cells #[.int .i64 x] 3)) hownA hg6 (by simp; omega) (Nat.le_refl _); have hz6 := hb6.size) | (refine wpList_app _ rfl _ _ rfl rfl hown6 rfl (RI_nil _ _) (by omega) (by first | omega | (simp; done) | (simp; omega)) ?_; intro A7 c7 w7 hown7 hg7 hat7; have hb7 := below_app hb6 hown6 hg7 hz6 (Nat.le_refl _)))
            have hlen : (putL l x).length = c + 1 := by rw [hp.out]; simp <;> omega
            rw [← hp.out] at hown7
            go_ret
            refine ⟨A7, c7, ?_, ?_, hb7⟩
            · rw [hlen]; simp
            · rw [hlen]; simpa using hown7.lo_ hlo
          · skip
            have hown0 := Own_new0 w w.heap.size (Nat.le_refl _)
            have hb0 := (Below.refl w.heap.size w).alloc (Nat.le_refl _) (.cells #[] 3)
            go_wp2_with (at_builtin; first | (refine wpList_app _ rfl _ _ rfl rfl hown0 rfl (r1.below hb0 (Nat.le_refl _)) (by omega) (by first | omega | (simp; done) | (simp; omega)) ?_; intro A5 c5 w5 hown5 hg5 hat5; have hb5 := below_app hb0 hown0 hg5 (by simp) (Nat.le_refl _); have hz5 := hb5.size; simp only [Nat.zero_add, List.nil_append] at hown5; have hownA := hown5.alloc (.cells #[.int .i64 x] 3)) | (refine wpList_app _ rfl _ _ rfl rfl hownA rfl (RI_one _ _ _ _ (by simp)) (by omega) (by first | omega | (simp; done) | (simp; omega)) ?_; intro A6 c6 w6 hown6 hg6 hat6; have hb6 := below_app (hb5.alloc hz5 (.cells #[.int .i64 x] 3)) hownA hg6 (by simp; omega) (Nat.le_refl _); have hz6 := hb6.size) | (refine wpList_app _ rfl _ _ rfl rfl hown6 rfl (RI_nil _ _) (by omega) (by first | omega | (simp; done) | (simp; omega)) ?_; intro A7 c7 w7 hown7 hg7 hat7; have hb7 := below_app hb6 hown6 hg7 hz6 (Nat.le_refl _)))
            have hlen : (putL l x).length = n + 1 := by rw [hp.out]; simp <;> omega
            rw [← hp.out] at hown7
            go_ret
            refine ⟨A7, c7, ?_, ?_, hb7⟩
            · rw [hlen]; simp
            · rw [hlen]; simpa using hown7.lo_ hlo

end Go.Proofs.Ytgenehiiakdadaa
