/- Contracts of the bits of a number, the number of bits, the outs of a circuit. Slices of slices of ints: read, owned, appended to, marked. Lengths up to 2^20. Appending a list to a slice of lists of the call's own; calls that return a slice of lists. Lengths up to 2^22. Contracts of equality of lists, of small circuits, of the tables of a circuit's outs. -/
import Derived.Test.YtikgagjoapggnaaQP15
import Derived.Test.YtikgagjoapggnaaQP07
import Derived.Test.YtikgagjoapggnaaQP04
import Derived.Test.YtikgagjoapggnaaQP01
namespace Go.Proofs.Ytikgagjoapggnaa
open Go.RowKit
set_option linter.unusedVariables false
set_option linter.unusedSimpArgs false
theorem bnext {a b c : World} (h : Below a.heap.size a b) (k : Below b.heap.size b c) : Below a.heap.size a c := h.trans (k.mono h.size)
theorem btOf_any (n k : Nat) (w : World) (hn : n ≤ 1099511627776) (hk : k ≤ 1000000) : Calls Try.prog 66 #[.int .i64 n, .int .i64 k] w (RetI w (bitsN n k)) := by
  go_enter Try.func66, Try.ntmps66
  go_wp2
  go_loopw [5, 0, 1] (fun v a b wr => ∃ (i : Nat) (A' : Option Addr) (c' : Nat), i ≤ k ∧ b = .int .i64 ((k - i : Nat) : Int) ∧ a = .int .i64 ((n / 2 ^ i : Nat) : Int) ∧ v = .slice A' i c' ∧ Own wr w.heap.size wr.heap.size (.slice A' i c') i (bitsN n i) ∧ Below w.heap.size w wr) (fun _ _ b _ => (intOf b).toNat)
  case atStart => exact ⟨0, _, _, Nat.zero_le _, rfl, by simp, rfl, Own.none_ _ _ _, Below.refl _ _⟩
  case round =>
    obtain ⟨i, A', c', hi, rfl, rfl, rfl, hown, hbw⟩ := hrel
    by_cases hlt : i < k
    · have hsn : Hid (bitsN n (i + 1) = bitsN n i ++ [((n / 2 ^ i % 2 : Nat) : Int)]) := Lib.hid (bitsN_snoc n i)
      have hdv : Hid (n / 2 ^ (i + 1) = n / 2 ^ i / 2) := Lib.hid (by rw [Nat.pow_succ, Nat.div_div_eq_div_mul])
      have hle : n / 2 ^ i ≤ n := Nat.div_le_self _ _
      generalize n / 2 ^ i = z at *
      have hz := hbw.size
      rw [Int.natCast_emod] at hsn
      have hownA := hown.alloc (.cells #[.int .i64 ((z : Int) % 2)] 3)
      have hbA := hbw.alloc hz (.cells #[.int .i64 ((z : Int) % 2)] 3)
      go_wp2_with (at_builtin; refine wpList_app _ rfl _ _ rfl rfl hownA rfl (RI_one _ _ _ _ (by simp)) (by omega) (by first | omega | (simp; done) | (simp; omega)) ?_; intro A5 c5 w5 hown5 hg5 hat5)
      have hb5 := below_app hbA hownA hg5 (by simp; omega) (Nat.le_refl _)
      rw [show [(z : Int) % ((2 : Nat) : Int)] = [(z : Int) % 2] from rfl] at hsn
      rw [← hsn.out] at hown5
      clear hbA hownA hg5 hat5 hown hbw
      go_wp2
      go_roundw
      case rel => exact ⟨i + 1, _, _, by omega, by go_num, by rw [hdv.out]; go_num, rfl, hown5, hb5⟩
      case measure => simp [intOf]; omega
    · obtain rfl : i = k := by omega
      go_wp2
      go_ret
      exact RetI.mk_ (bitsN_len _ _) rfl hown hbw
theorem bitsOf_any (n k : Nat) (w : World) (hn : n ≤ 1099511627776) (hk : k ≤ 40) : Calls Try.prog 83 #[.int .i64 n, .int .i64 k] w (RetI w (bitsN n k)) := by
  go_enter Try.func83, Try.ntmps83
  go_wp2
  go_loopw [5, 9] (fun v b wr => ∃ (i : Nat) (A' : Option Addr) (c' : Nat), i ≤ k ∧ b = .int .i64 i ∧ v = .slice A' i c' ∧ Own wr w.heap.size wr.heap.size (.slice A' i c') i (bitsN n i) ∧ Below w.heap.size w wr) (fun _ b _ => k - (intOf b).toNat)
  case atStart => exact ⟨0, _, _, Nat.zero_le _, rfl, rfl, by simpa [bitsN, tab_zero] using Own_new0 w w.heap.size (Nat.le_refl _), (Below.refl _ _).alloc (Nat.le_refl _) _⟩
  case round =>
    obtain ⟨i, A', c', hi, rfl, rfl, hown, hbw⟩ := hrel
    by_cases hlt : i < k
    · have hsn : Hid (bitsN n (i + 1) = bitsN n i ++ [((n / 2 ^ i % 2 : Nat) : Int)]) := Lib.hid (bitsN_snoc n i)
      have hz := hbw.size
      have hle : n / 2 ^ i ≤ n := Nat.div_le_self _ _
      have hq : Hid (bits .and .i64 ((n : Int) / 2 ^ i) 1 = ((n / 2 ^ i % 2 : Nat) : Int)) := Lib.hid (by
        have h1 := band_nat (a := n / 2 ^ i) (b := 1) (by omega) (by omega)
        rw [and_one] at h1
        rw [← h1]; simp [Int.natCast_ediv, Int.natCast_pow])
      rw [← hq.out] at hsn
      have hownA := hown.alloc (.cells #[.int .i64 (bits .and .i64 ((n : Int) / 2 ^ i) 1)] 3)
      have hbA := hbw.alloc hz (.cells #[.int .i64 (bits .and .i64 ((n : Int) / 2 ^ i) 1)] 3)
      go_wp2_with (at_builtin; refine wpList_app _ rfl _ _ rfl rfl hownA rfl (RI_one _ _ _ _ (by simp)) (by omega) (by first | omega | (simp; done) | (simp; omega)) ?_; intro A5 c5 w5 hown5 hg5 hat5)
      have hb5 := below_app hbA hownA hg5 (by simp; omega) (Nat.le_refl _)
      rw [← hsn.out] at hown5
      clear hbA hownA hg5 hat5 hown hbw
      go_wp2
      go_roundw
      case rel => exact ⟨i + 1, _, _, by omega, by go_num, rfl, hown5, hb5⟩
      case measure => simp [intOf]; omega
    · obtain rfl : i = k := by omega
      go_wp2
      go_ret
      exact RetI.mk_ (bitsN_len _ _) rfl hown hbw
set_option maxRecDepth 100000 in
set_option maxHeartbeats 800000 in
theorem ciOuts_any (x y : Int) (Ag : Option Addr) (ng cg : Nat) (Ao : Option Addr) (no co : Nat) (A : Option Addr) (n c : Nat) (gs : List G3) (os inp : List Int) (w : World) (hr : RG w Ag ng gs ∧ RI w Ao no os) (ha : RI w A n inp) (hi : allB 0 1 inp = true) (hgat : gatesB n gs ng = true) (hos : allB 0 (((n + ng : Nat) : Int) - 1) os = true) (hng : ng ≤ 300) (hno : no ≤ 40) (hn : n ≤ 40) :
    Calls Try.prog 68 #[.agg #[.int .i64 x, .int .i64 y, .slice Ag ng cg, .slice Ao no co], .slice A n c] w (RetI w (pick (vals gs inp ng) os)) := by
  have hB : Below w.heap.size w (w.alloc (.cells #[.int .i64 x, .int .i64 y, .slice Ag ng cg, .slice Ao no co] 26)) := (Below.refl _ _).alloc (Nat.le_refl _) _
  have hvl : Hid ((vals gs inp ng).length = n + ng) := Lib.hid (by rw [vals_len, ha.len])
  have hB1 := below_drewN hB 1
  go_enter Try.func68, Try.ntmps68
  go_wp2_with fail
  go_region_held3 (fun w' => w'.cell? ⟨w.heap.size, 0, none⟩ = some (.int .i64 x) ∧ w'.cell? ⟨w.heap.size, 1, none⟩ = some (.int .i64 y) ∧ w'.cell? ⟨w.heap.size, 2, none⟩ = some (.slice Ag ng cg) ∧ w'.cell? ⟨w.heap.size, 3, none⟩ = some (.slice Ao no co))
    (first | go_keep | (go_split_ands; exact ⟨cell_below (by assumption) hbP, cell_below (by assumption) hbP, cell_below (by assumption) hbP, cell_below (by assumption) hbP⟩) | (go_split_ands; exact ⟨cell_below (by assumption) hbV, cell_below (by assumption) hbV, cell_below (by assumption) hbV, cell_below (by assumption) hbV⟩) | ((try dsimp only); (repeat' apply And.intro) <;> go_keep))
    (first | (go_at_call 84; refine (ciValues_any x y Ag ng cg Ao no co A n c gs inp _ (hr.1.below hB1 (Nat.le_refl _)) (ha.below hB1 (Nat.le_refl _)) hi hgat (by omega) (by omega)).mono ?_; rintro e W3 hV; obtain ⟨AV, cV, rfl, hownV, hbV⟩ := hV.open_ hvl.out) | (go_at_call 79; refine (ciPick_any AV Ao (n + ng) cV no co (vals gs inp ng) os _ hownV.reads (hr.2.below (hB1.trans (hbV.mono hB1.size)) (Nat.le_refl _)) (by omega) (by omega) hos).mono ?_; rintro e W4 hP; obtain ⟨AP, cP, rfl, hownP, hbP⟩ := hP.open_ (pick_len _ _)))
  have hB2 := hB1.trans (hbV.mono hB1.size)
  go_wp2
  go_ret
  exact RetI.mk_ (pick_len _ _) rfl (hownP.lo_ hB2.size) (hB2.trans (hbP.mono hB2.size))
theorem info_ints : (Try.prog.info? 24).map (fun i => (i.zero, i.size, i.bytes)) = some (some (.slice none 0 0), 1, 24) := by kernel_rfl
def gl (xss : List (List Int)) (j : Nat) : List Int := xss.getD j []
theorem gl_append_lt {xss yss : List (List Int)} {j : Nat} (h : j < xss.length) : gl (xss ++ yss) j = gl xss j := by
  unfold gl; rw [List.getD_eq_getElem?_getD, List.getD_eq_getElem?_getD, List.getElem?_append_left h]
theorem gl_append_eq {xss : List (List Int)} {ys : List Int} : gl (xss ++ [ys]) xss.length = ys := by simp [gl]
def RII (w : World) (A : Option Addr) (n : Nat) (xss : List (List Int)) : Prop :=
  xss.length = n ∧ (0 < n → ∃ b o, A = some ⟨b, o, none⟩ ∧ b < w.heap.size ∧ ∀ j, j < n → ∃ A' m c', w.cell? ⟨b, o + j, none⟩ = some (.slice A' m c') ∧ RI w A' m (gl xss j))
theorem RII.len {w : World} {A : Option Addr} {n : Nat} {xss : List (List Int)} (h : RII w A n xss) : xss.length = n := h.1
theorem RII.at_ {w : World} {A : Option Addr} {n : Nat} {xss : List (List Int)} {k : Nat} (h : RII w A n xss) (hk : k < n) :
    ∃ b o A' m c', A = some ⟨b, o, none⟩ ∧ b < w.heap.size ∧ w.cell? ⟨b, o + k, none⟩ = some (.slice A' m c') ∧ RI w A' m (gl xss k) := by
  obtain ⟨b, o, hA, hb, hc⟩ := h.2 (by omega)
  obtain ⟨A', m, c', h1, h2⟩ := hc k hk
  exact ⟨b, o, A', m, c', hA, hb, h1, h2⟩
theorem RII.below {w w' : World} {A : Option Addr} {n : Nat} {xss : List (List Int)} (h : RII w A n xss) {B : Nat} (hb : Below B w w') (hB : w.heap.size ≤ B) : RII w' A n xss :=
  ⟨h.1, fun hn => by
    obtain ⟨b, o, hA, hlt, hc⟩ := h.2 hn
    refine ⟨b, o, hA, Nat.lt_of_lt_of_le hlt hb.size, fun j hj => ?_⟩
    obtain ⟨A', m, c', h1, h2⟩ := hc j hj
    exact ⟨A', m, c', (hb.cell (p := ⟨b, o + j, none⟩) (by exact Nat.lt_of_lt_of_le hlt hB)).trans h1, h2.below hb hB⟩⟩
theorem RII.drewN {w : World} {A : Option Addr} {n : Nat} {xss : List (List Int)} (h : RII w A n xss) (k : Nat) : RII (w.drewN k) A n xss := h
def OwnII (w : World) (lo hi : Nat) (v : Value) (n : Nat) (xss : List (List Int)) : Prop :=
  ∃ vals : List Value, w.ownsRow lo 24 1 v n vals ∧ (∀ g, v.ownBlock = some g → g < hi) ∧ xss.length = n ∧
    (∀ j : Nat, j < n → ∃ A' m c', vals[j]? = some (.slice A' m c') ∧ Own w lo hi (.slice A' m c') m (gl xss j)) ∧
    (∀ (i j : Nat) (u u' : Value), i < j → vals[i]? = some u → vals[j]? = some u' → Apart u u')
theorem ownsRow_ne {w : World} {lo lo' e e' s s' n n' : Nat} {v v' : Value} {xs xs' : List Value} (h : w.ownsRow lo e s v n xs) (h' : w.ownsRow lo' e' s' v' n' xs') (hne : e ≠ e') : Apart v v' := by
  intro g hg hg'
  rcases h.2 with ⟨rfl, _⟩ | ⟨a, cap, cur, rfl, _, hh, _⟩
  · simp [Value.ownBlock] at hg
  · rcases h'.2 with ⟨rfl, _⟩ | ⟨b, cap', cur', rfl, _, hh', _⟩
    · simp [Value.ownBlock] at hg'
    · simp only [Value.ownBlock, Option.some.injEq] at hg hg'
      subst hg; subst hg'
      rw [hh] at hh'
      injection hh' with hh'
      injection hh' with _ ht
      exact hne ht
theorem OwnII.len {w : World} {lo hi n : Nat} {v : Value} {xss : List (List Int)} (h : OwnII w lo hi v n xss) : xss.length = n := by
  obtain ⟨_, _, _, h3, _⟩ := h; exact h3
theorem OwnII.none_ (w : World) (lo hi : Nat) : OwnII w lo hi (.slice none 0 0) 0 [] :=
  ⟨[], World.ownsRow_nil w lo _ _, fun g hg => by simp [Value.ownBlock] at hg, rfl, fun j hj => absurd hj (by omega), fun i j u u' _ h => by simp at h⟩
theorem OwnII.lt {w : World} {lo hi n : Nat} {v : Value} {xss : List (List Int)} (h : OwnII w lo hi v n xss) : ∀ g, v.ownBlock = some g → lo ≤ g ∧ g < hi ∧ g < w.heap.size := by
  obtain ⟨vals, h1, h2, _⟩ := h
  exact fun g hg => ⟨(h1.lt g hg).1, h2 g hg, (h1.lt g hg).2⟩
theorem OwnII.some_ {w : World} {lo hi n c : Nat} {A : Option Addr} {xss : List (List Int)} (h : OwnII w lo hi (.slice A n c) n xss) (hn : 0 < n) : ∃ g, A = some ⟨g, 0, none⟩ ∧ lo ≤ g ∧ g < hi ∧ g < w.heap.size := by
  obtain ⟨vals, h1, h2, _⟩ := h
  obtain ⟨g, cap, hv, h3, h4⟩ := h1.form hn
  simp only [Value.slice.injEq, true_and] at hv
  obtain ⟨rfl, rfl⟩ := hv
  exact ⟨g, rfl, h3, h2 g rfl, h4⟩
theorem ownsRow_chg {w w' : World} {lo lo' hi' e s n : Nat} {v : Value} {xs : List Value} (h : w.ownsRow lo e s v n xs) (k : Chg lo' hi' w w') (hd : ∀ g, v.ownBlock = some g → g < lo' ∨ hi' ≤ g) : w'.ownsRow lo e s v n xs := by
  refine ⟨h.1, ?_⟩
  rcases h.2 with h1 | ⟨g, cap, cur, rfl, hlo, hg, r⟩
  · exact .inl h1
  · exact .inr ⟨g, cap, cur, rfl, hlo, by rw [k.block g (h.lt g (by simp [Value.ownBlock])).2 (hd g (by simp [Value.ownBlock]))]; exact hg, r⟩
theorem OwnII.chg {w w' : World} {lo hi lo' hi' n : Nat} {v : Value} {xss : List (List Int)} (h : OwnII w lo hi v n xss) (k : Chg lo' hi' w w') (hd : hi ≤ lo' ∨ hi' ≤ lo) : OwnII w' lo hi v n xss := by
  have hlt := h.lt
  obtain ⟨vals, h1, h2, h3, h4, h5⟩ := h
  refine ⟨vals, ownsRow_chg h1 k (fun g hg => by have := hlt g hg; omega), h2, h3, fun j hj => ?_, h5⟩
  obtain ⟨A', m, c', h6, h7⟩ := h4 j hj
  exact ⟨A', m, c', h6, h7.chg k hd⟩
theorem OwnII.below {w w' : World} {lo hi n : Nat} {v : Value} {xss : List (List Int)} {B : Nat} (h : OwnII w lo hi v n xss) (hb : Below B w w') (hB : w.heap.size ≤ B) : OwnII w' lo hi v n xss := by
  have k : Chg 0 0 w w' := Chg.of_below (hb.mono hB)
  exact h.chg k (.inr (Nat.zero_le _))
theorem OwnII.now {w : World} {lo hi n : Nat} {v : Value} {xss : List (List Int)} (h : OwnII w lo hi v n xss) : OwnII w lo w.heap.size v n xss := by
  have hlt := h.lt
  obtain ⟨vals, h1, h2, h3, h4, h5⟩ := h
  refine ⟨vals, h1, fun g hg => (hlt g hg).2.2, h3, fun j hj => ?_, h5⟩
  obtain ⟨A', m, c', h6, h7⟩ := h4 j hj
  exact ⟨A', m, c', h6, h7.now⟩
theorem OwnII.lo_ {w : World} {lo lo' hi n : Nat} {v : Value} {xss : List (List Int)} (h : OwnII w lo hi v n xss) (hl : lo' ≤ lo) : OwnII w lo' hi v n xss := by
  obtain ⟨vals, h1, h2, h3, h4, h5⟩ := h
  refine ⟨vals, ⟨h1.1, ?_⟩, h2, h3, fun j hj => ?_, h5⟩
  · rcases h1.2 with h6 | ⟨g, cap, cur, hv, hb, r⟩
    · exact .inl h6
    · exact .inr ⟨g, cap, cur, hv, by omega, r⟩
  · obtain ⟨A', m, c', h6, h7⟩ := h4 j hj
    exact ⟨A', m, c', h6, h7.lo_ hl⟩
theorem OwnII.reads {w : World} {lo hi n c : Nat} {A : Option Addr} {xss : List (List Int)} (h : OwnII w lo hi (.slice A n c) n xss) : RII w A n xss := by
  refine ⟨h.len, fun hn => ?_⟩
  obtain ⟨g, rfl, _, _, hlt⟩ := h.some_ hn
  obtain ⟨vals, h1, h2, h3, h4, h5⟩ := h
  refine ⟨g, 0, rfl, hlt, fun j hj => ?_⟩
  obtain ⟨A', m, c', h6, h7⟩ := h4 j hj
  refine ⟨A', m, c', ?_, h7.reads⟩
  obtain ⟨cap, hv⟩ : ∃ cap, c = cap := ⟨_, rfl⟩
  rw [Nat.zero_add, h1.cellAt j (by omega), h6]
theorem OwnII.app {w w2 w5 : World} {lo n c m c' H : Nat} {A A5 : Option Addr} {c5 : Nat} {xss : List (List Int)} {ys : List Int} {vals : List Value} {hi : Nat}
    (h1 : w.ownsRow lo 24 1 (.slice A n c) n vals) (h3 : xss.length = n)
    (h4 : ∀ j : Nat, j < n → ∃ A' m c', vals[j]? = some (.slice A' m c') ∧ Own w lo hi (.slice A' m c') m (gl xss j))
    (h5 : ∀ (i j : Nat) (u u' : Value), i < j → vals[i]? = some u → vals[j]? = some u' → Apart u u')
    (hb : Below w.heap.size w w2) (hnew : Own w2 w.heap.size hi (.slice (some ⟨H, 0, none⟩) m c') m ys) (hlo : lo ≤ w.heap.size)
    (hr : w5.ownsRow lo 24 1 (.slice A5 (n + 1) c5) (n + 1) (vals ++ [.slice (some ⟨H, 0, none⟩) m c'])) (hg : w2.grownBy w5 (Value.slice A n c).ownBlock) :
    OwnII w5 lo w5.heap.size (.slice A5 (n + 1) c5) (n + 1) (xss ++ [ys]) := by
  have hrow2 : w2.ownsRow lo 24 1 (.slice A n c) n vals := h1.kept (grownBy_of_below hb none) (by cases h : (Value.slice A n c).ownBlock <;> simp)
  have hl : vals.length = n := by simpa using h1.1
  have hne : ∀ {lo' hi' k : Nat} {u : Value} {zs : List Int}, Own w2 lo' hi' u k zs → Own w5 lo' hi' u k zs := by
    intro lo' hi' k u zs hu
    exact hu.apart hg (ownsRow_ne hu.1 hrow2 (by decide))
  refine ⟨_, hr, fun g hg' => (hr.lt g hg').2, by simp [h3], fun j hj => ?_, fun i j u u' hij hu hu' => ?_⟩
  · by_cases hjn : j < n
    · obtain ⟨A', m', c'', h6, h7⟩ := h4 j hjn
      refine ⟨A', m', c'', by rw [List.getElem?_append_left (by omega)]; exact h6, ?_⟩
      rw [gl_append_lt (by omega)]
      exact (hne (h7.below hb (.inl (Nat.le_refl _)))).now
    · obtain rfl : j = n := by omega
      refine ⟨some ⟨H, 0, none⟩, m, c', by rw [List.getElem?_append_right (by omega), hl, Nat.sub_self]; rfl, ?_⟩
      rw [← h3, gl_append_eq]
      exact ((hne hnew).lo_ hlo).now
  · by_cases hjn : j < n
    · rw [List.getElem?_append_left (by omega)] at hu hu'
      exact h5 i j u u' hij hu hu'
    · have hj2 : j < (vals ++ [Value.slice (some ⟨H, 0, none⟩) m c']).length := by
        rcases Nat.lt_or_ge j (vals ++ [Value.slice (some ⟨H, 0, none⟩) m c']).length with h | h
        · exact h
        · rw [List.getElem?_eq_none h] at hu'; cases hu'
      simp at hj2
      obtain rfl : j = n := by omega
      rw [List.getElem?_append_left (by omega)] at hu
      rw [List.getElem?_append_right (by omega), hl, Nat.sub_self] at hu'
      simp at hu'
      subst hu'
      obtain ⟨A', m', c'', h6, h7⟩ := h4 i (by omega)
      rw [hu] at h6
      injection h6 with h6
      subst h6
      intro g hg1 hg2
      have q1 := h7.lt g hg1
      have q2 := hnew.lt g hg2
      omega
theorem OwnII.row {w : World} {lo hi n g c : Nat} {xss : List (List Int)} (h : OwnII w lo hi (.slice (some ⟨g, 0, none⟩) n c) n xss) {k : Nat} (hk : k < n) :
    ∃ A' m c', w.cell? ⟨g, k, none⟩ = some (.slice A' m c') ∧ Own w lo hi (.slice A' m c') m (gl xss k) ∧
      ∀ (w' : World) (ys : List Int), Own w' lo hi (.slice A' m c') m ys → w.grownBy w' (Value.slice A' m c').ownBlock → OwnII w' lo hi (.slice (some ⟨g, 0, none⟩) n c) n (xss.set k ys) := by
  obtain ⟨vals, h1, h2, h3, h4, h5⟩ := h
  obtain ⟨A', m, c', h6, h7⟩ := h4 k hk
  refine ⟨A', m, c', by rw [h1.cellAt k (by omega), h6], h7, fun w' ys hy hg => ?_⟩
  have hap := ownsRow_ne h1 h7.1 (by decide)
  refine ⟨vals, h1.kept hg (by
    cases hv : (Value.slice (some ⟨g, 0, none⟩) n c).ownBlock with
    | none => exact .inl rfl
    | some q => exact .inr (fun he => hap q hv he.symm)), h2, by simpa using h3, fun j hj => ?_, h5⟩
  by_cases hjk : j = k
  · subst hjk
    refine ⟨A', m, c', h6, ?_⟩
    rw [show gl (xss.set j ys) j = ys from by simp [gl, h3, hj]]
    exact hy
  · obtain ⟨B', m', d', h8, h9⟩ := h4 j hj
    refine ⟨B', m', d', h8, ?_⟩
    rw [show gl (xss.set k ys) j = gl xss j from by unfold gl; rw [List.getD_eq_getElem?_getD, List.getD_eq_getElem?_getD, List.getElem?_set_ne (fun e => hjk e.symm)]]
    refine h9.apart hg ?_
    rcases Nat.lt_or_gt_of_ne hjk with h | h
    · exact h5 j k _ _ h h8 h6
    · exact (h5 k j _ _ h h6 h8).symm_
theorem OwnII.grown {w w' : World} {lo hi n : Nat} {v : Value} {xss : List (List Int)} (h : OwnII w lo hi v n xss) {v1 : Value} (hg : w.grownBy w' v1.ownBlock) (hn : v1.ownBlock = none) : OwnII w' lo hi v n xss :=
  h.below (below_of_grownBy (by rw [← hn]; exact hg)) (Nat.le_refl _)
theorem OwnII.drewN {w : World} {lo hi n : Nat} {v : Value} {xss : List (List Int)} (h : OwnII w lo hi v n xss) (k : Nat) : OwnII (w.drewN k) lo hi v n xss := h.below (below_of_drewN k) (Nat.le_refl _)
theorem OwnII.alloc {w : World} {lo hi n : Nat} {v : Value} {xss : List (List Int)} (h : OwnII w lo hi v n xss) (o : Obj) : OwnII (w.alloc o) lo hi v n xss := h.below ((Below.refl _ _).alloc (Nat.le_refl _) o) (Nat.le_refl _)
theorem OwnII.hi_ {w : World} {lo hi hi' n : Nat} {v : Value} {xss : List (List Int)} (h : OwnII w lo hi v n xss) (hl : hi ≤ hi') : OwnII w lo hi' v n xss := by
  obtain ⟨vals, h1, h2, h3, h4, h5⟩ := h
  refine ⟨vals, h1, fun g hg => Nat.lt_of_lt_of_le (h2 g hg) hl, h3, fun j hj => ?_, h5⟩
  obtain ⟨A', m, c', h6, h7⟩ := h4 j hj
  exact ⟨A', m, c', h6, h7.hi_ hl⟩
theorem OwnII.new0 (w : World) (lo : Nat) (hl : lo ≤ w.heap.size) : OwnII (w.alloc (.cells #[] 24)) lo (w.heap.size + 1) (.slice (some ⟨w.heap.size, 0, none⟩) 0 0) 0 [] := by
  have h := World.ownsRow_lit (base := lo) (e := 24) (size := 1) w #[] 0 hl (by unfold maxLen; omega) (by simp)
  exact ⟨[], by simpa using h, fun g hg => by simp [Value.ownBlock] at hg; omega, rfl, fun j hj => absurd hj (by omega), fun i j u u' _ h => by simp at h⟩
def RetII (w : World) (xss : List (List Int)) (e : Ending) (w' : World) : Prop :=
  ∃ A' c', e = .returned (.slice A' xss.length c') ∧ OwnII w' w.heap.size w'.heap.size (.slice A' xss.length c') xss.length xss ∧ Below w.heap.size w w'
theorem RetII.mk_ {w : World} {xss : List (List Int)} {n : Nat} {A' : Option Addr} {c' : Nat} {e : Ending} {w' : World} (hn : xss.length = n) (he : e = .returned (.slice A' n c')) (ho : OwnII w' w.heap.size w'.heap.size (.slice A' n c') n xss) (hb : Below w.heap.size w w') : RetII w xss e w' := by
  subst hn; exact ⟨A', c', he, ho, hb⟩
theorem RetII.open_ {w : World} {xss : List (List Int)} {n : Nat} {e : Ending} {w' : World} (h : RetII w xss e w') (hn : xss.length = n) : ∃ A' c', e = .returned (.slice A' n c') ∧ OwnII w' w.heap.size w'.heap.size (.slice A' n c') n xss ∧ Below w.heap.size w w' := by
  subst hn; exact h
section
variable (w : World)
theorem run_appL (ty : TypeId) (lo hi lo2 hi2 n c0 m c b q : Nat) (A0 A : Option Addr) (xss : List (List Int)) (ys : List Int) (hown : OwnII w lo hi (.slice A0 n c0) n xss) (hnew : Own w lo2 hi2 (.slice A m c) m ys) (hc : w.cell? ⟨b, 0, none⟩ = some (.slice A m c))
    (hd : hi ≤ lo2) (hl2 : lo ≤ lo2) (hlen : n ≤ 4194304) (hlo : lo ≤ w.heap.size) :
    ∃ A' c' w', (Builtin.append_ #[87, 87] ty #[.slice A0 n c0, .slice (some ⟨b, 0, none⟩) 1 q]).run Try.prog w = .ok (.slice A' (n + 1) c') w' ∧
      OwnII w' lo w'.heap.size (.slice A' (n + 1) c') (n + 1) (xss ++ [ys]) ∧ w.grownBy w' (Value.slice A0 n c0).ownBlock ∧ StayA A0 (n * 1) w w' := by
  obtain ⟨vals, h1, h2, h3, h4, h5⟩ := hown
  obtain ⟨i, hi0, hz0, hz1, hz2⟩ := info_parts info_ints
  have hrv : RV w (some ⟨b, 0, none⟩) 1 1 [.slice A m c] := by
    refine ⟨rfl, fun _ => ⟨_, rfl, fun j u hu => ?_⟩⟩
    cases j with
    | zero => simp at hu; subst hu; rw [addr_add]; exact hc
    | succ j => simp at hu
  obtain ⟨A', c', w', hrun, hr, hg, hat, hs⟩ := run_appV (P := Try.prog) w 87 ty 24 i (.slice none 0 0) 1 24 Try.underlying87 hi0 hz0 hz1 hz2 rfl (by decide) lo n c0 1 q A0 (some ⟨b, 0, none⟩) _ _ h1 hrv (by intro u hu; simp at hu; subst hu; rfl) (by unfold maxLen; omega) (by omega) hlo
  refine ⟨A', c', w', hrun, ?_, hg, hs⟩
  have hl : vals.length = n := by simpa using h1.1
  have hne : ∀ {lo' hi' k : Nat} {u : Value} {zs : List Int}, Own w lo' hi' u k zs → Own w' lo' hi' u k zs := by
    intro lo' hi' k u zs hu
    exact hu.apart hg (ownsRow_ne hu.1 h1 (by decide))
  refine ⟨_, hr, fun g hg' => (hr.lt g hg').2, by simp [h3], fun j hj => ?_, fun i j u u' hij hu hu' => ?_⟩
  · by_cases hjn : j < n
    · obtain ⟨A', m', c'', h6, h7⟩ := h4 j hjn
      refine ⟨A', m', c'', by rw [List.getElem?_append_left (by omega)]; exact h6, ?_⟩
      rw [gl_append_lt (by omega)]
      exact (hne h7).now
    · obtain rfl : j = n := by omega
      refine ⟨A, m, c, by rw [List.getElem?_append_right (by omega), hl, Nat.sub_self]; rfl, ?_⟩
      rw [← h3, gl_append_eq]
      exact ((hne hnew).lo_ hl2).now
  · by_cases hjn : j < n
    · rw [List.getElem?_append_left (by omega)] at hu hu'
      exact h5 i j u u' hij hu hu'
    · have hj2 : j < (vals ++ [Value.slice A m c]).length := by
        rcases Nat.lt_or_ge j (vals ++ [Value.slice A m c]).length with h | h
        · exact h
        · rw [List.getElem?_eq_none h] at hu'; cases hu'
      simp at hj2
      obtain rfl : j = n := by omega
      rw [List.getElem?_append_left (by omega)] at hu
      rw [List.getElem?_append_right (by omega), hl, Nat.sub_self] at hu'
      simp at hu'
      subst hu'
      obtain ⟨A', m', c'', h6, h7⟩ := h4 i (by omega)
      rw [hu] at h6
      injection h6 with h6
      subst h6
      intro g hg1 hg2
      have q1 := h7.lt g hg1
      have q2 := hnew.lt g hg2
      omega
theorem wp_appL {o : Oper} {a : Act} {K : Act → World → Prop} {Q : Exit → Act → World → Prop} (s x : Operand)
    (ho : o.op = .call { callee := .builtin .append, args := #[s, x], argTypes := #[87, 87] })
    {lo hi lo2 hi2 n c0 m c b q : Nat} {A0 A : Option Addr} {xss : List (List Int)} {ys : List Int} (hs : a.eval s = .slice A0 n c0) (hown : OwnII w lo hi (.slice A0 n c0) n xss) (hx : a.eval x = .slice (some ⟨b, 0, none⟩) 1 q) (hnew : Own w lo2 hi2 (.slice A m c) m ys) (hc : w.cell? ⟨b, 0, none⟩ = some (.slice A m c))
    (hd : hi ≤ lo2) (hl2 : lo ≤ lo2) (hlen : n ≤ 4194304) (hlo : lo ≤ w.heap.size)
    (h : ∀ A' c' w', OwnII w' lo w'.heap.size (.slice A' (n + 1) c') (n + 1) (xss ++ [ys]) → w.grownBy w' (Value.slice A0 n c0).ownBlock → StayA A0 (n * 1) w w' → K (a.put o.dst (.slice A' (n + 1) c')) w') : o.wp Try.prog a w K Q := by
  obtain ⟨A', c', w', hrun, h2, h3, h5⟩ := run_appL w o.type lo hi lo2 hi2 n c0 m c b q A0 A xss ys hown hnew hc hd hl2 hlen hlo
  unfold Oper.wp execOp
  simp only [ho, resolve, invoke, builtin, Sem.run_bind, Sem.run_pure, Result.andThen_ok, List.map_toArray, List.map_cons, List.map_nil, hs, hx, hrun]
  exact h A' c' w' h2 h3 h5
theorem step_appL {ops : Array Oper} {o : Oper} {a : Act} {K : Act → World → Prop} {Q : Exit → Act → World → Prop} {E : Prop} (hgd : o.guard = none) (s x : Operand)
    (ho : o.op = .call { callee := .builtin .append, args := #[s, x], argTypes := #[87, 87] })
    {lo hi lo2 hi2 n c0 m c b q : Nat} {A0 A : Option Addr} {xss : List (List Int)} {ys : List Int} (hs : a.eval s = .slice A0 n c0) (hown : OwnII w lo hi (.slice A0 n c0) n xss) (hx : a.eval x = .slice (some ⟨b, 0, none⟩) 1 q) (hnew : Own w lo2 hi2 (.slice A m c) m ys) (hc : w.cell? ⟨b, 0, none⟩ = some (.slice A m c))
    (hd : hi ≤ lo2) (hl2 : lo ≤ lo2) (hlen : n ≤ 4194304) (hlo : lo ≤ w.heap.size)
    (h : ∀ A' c' w', OwnII w' lo w'.heap.size (.slice A' (n + 1) c') (n + 1) (xss ++ [ys]) → w.grownBy w' (Value.slice A0 n c0).ownBlock → StayA A0 (n * 1) w w' → K (a.put o.dst (.slice A' (n + 1) c')) w') :
    if Region.wanted o (yielded ops a.tmps) = true then Oper.wp Try.prog o a w K Q else E := by
  have hw : Region.wanted o (yielded ops a.tmps) = true := by simp [Region.wanted, hgd]
  rw [if_pos hw]
  exact wp_appL w s x ho hs hown hx hnew hc hd hl2 hlen hlo h
end
theorem below_appL {B : Nat} {a w w' : World} {lo hi n c : Nat} {A : Option Addr} {xss : List (List Int)} (h : Below B a w) (hown : OwnII w lo hi (.slice A n c) n xss) (hg : w.grownBy w' (Value.slice A n c).ownBlock) (hB : B ≤ w.heap.size) (hl : B ≤ lo) : Below B a w' :=
  below_grown h hg hB fun k hk => by have := hown.lt k hk; omega
theorem box_at {w wr : World} {x y : Int} {Ag : Option Addr} {ng cg : Nat} {Ao : Option Addr} {no co : Nat} {T : TypeId} (hb : Below (w.heap.size + 1) (w.alloc (.cells #[.int .i64 x, .int .i64 y, .slice Ag ng cg, .slice Ao no co] T)) wr) : BxC wr w.heap.size x y Ag ng cg Ao no co :=
  ⟨(hb.cell (p := ⟨w.heap.size, 0, none⟩) (by simp)).trans (box_cell w _ 0 _ rfl), (hb.cell (p := ⟨w.heap.size, 1, none⟩) (by simp)).trans (box_cell w _ 1 _ rfl), (hb.cell (p := ⟨w.heap.size, 2, none⟩) (by simp)).trans (box_cell w _ 2 _ rfl), (hb.cell (p := ⟨w.heap.size, 3, none⟩) (by simp)).trans (box_cell w _ 3 _ rfl)⟩
theorem two_pow_small {X : Nat} (h : X ≤ 10) : 2 ^ X ≤ 1024 := by
  have := Nat.pow_le_pow_right (n := 2) (by omega) h
  exact this
theorem pow_wrap {X N : Nat} (hN : N = 2 ^ X) (h : X ≤ 10) : N ≤ 1024 ∧ wrap64 ((2 : Int) ^ X) = N := by
  have h1 := two_pow_small h
  have h2 : (2 : Int) ^ X = (N : Int) := by rw [hN, Int.natCast_pow]; rfl
  rw [h2]
  exact ⟨by omega, IntWalk.wrap64_in _ (by omega)⟩
theorem below_chain_appL {B : Nat} {a wr W w5 : World} {lo hi n c : Nat} {A : Option Addr} {xss : List (List Int)} {o : Obj} (h : Below B a wr) (hB : B ≤ wr.heap.size) (k : Below wr.heap.size wr W) (hown : OwnII (W.alloc o) lo hi (.slice A n c) n xss) (hg : (W.alloc o).grownBy w5 (Value.slice A n c).ownBlock) (hl : B ≤ lo) : Below B a w5 :=
  below_appL ((h.trans (k.mono hB)).alloc (by have := k.size; omega) o) hown hg (by simp; have := k.size; omega) hl
theorem Own.from_ {w : World} {lo hi n c : Nat} {A : Option Addr} {xs : List Int} (h : Own w lo hi (.slice A n c) n xs) : ∀ g, A = some ⟨g, 0, none⟩ → lo ≤ g := fun g he => by subst he; exact (h.lt g (by simp [Value.ownBlock])).1
theorem OwnII.from_ {w : World} {lo hi n c : Nat} {A : Option Addr} {xss : List (List Int)} (h : OwnII w lo hi (.slice A n c) n xss) : ∀ g, A = some ⟨g, 0, none⟩ → lo ≤ g := fun g he => by subst he; exact (h.lt g (by simp [Value.ownBlock])).1
def sameB (xs ys : List Int) : Bool := decide (xs = ys)
theorem sameB_len {xs ys : List Int} (h : xs.length ≠ ys.length) : sameB xs ys = false := by
  simp only [sameB, decide_eq_false_iff_not]; intro hc; exact h (by rw [hc])
theorem sameB_at {xs ys : List Int} {k : Nat} (h : gi xs k ≠ gi ys k) : sameB xs ys = false := by
  simp only [sameB, decide_eq_false_iff_not]; intro hc; exact h (by rw [hc])
theorem sameB_all {xs ys : List Int} (h : xs.length = ys.length) (hg : ∀ j, j < xs.length → gi xs j = gi ys j) : sameB xs ys = true := by
  simp only [sameB, decide_eq_true_eq]; exact gi_eq h hg
def smallB (x y : Int) (gs : List G3) (os : List Int) (lim : Nat) : Bool := circB x y gs os && (decide (x + y ≤ 10) && decide (os.length ≤ lim))
set_option maxHeartbeats 400000 in
theorem l1Same_any (A B : Option Addr) (n c m d : Nat) (xs ys : List Int) (w : World) (ha : RI w A n xs) (hb : RI w B m ys) (hn : n ≤ 2097152) (hm : m ≤ 2097152) :
    Calls Try.prog 67 #[.slice A n c, .slice B m d] w fun e w' => e = .returned (.bool (sameB xs ys)) ∧ ∃ j, w' = w.drewN j := by
  have hl := ha.len
  have hm' := hb.len
  by_cases h0 : n = m
  · subst h0
    have hne : ((n : Int) != n) = false := by simp
    go_enter Try.func67, Try.ntmps67
    go_wp2
    go_loopw [13] (fun i wr => ∃ k j : Nat, k ≤ n ∧ i = .int .i64 k ∧ wr = w.drewN j ∧ Hid (∀ q, q < k → gi xs q = gi ys q)) (fun i _ => n - (intOf i).toNat)
    case atStart => exact ⟨0, 0, Nat.zero_le _, rfl, rfl, Lib.hid fun q hq => absurd hq (by omega)⟩
    case round =>
      obtain ⟨k, j, hk, rfl, rfl, hq⟩ := hrel
      by_cases hlt : k < n
      · obtain ⟨b, o, rfl, hbB, e1⟩ := ha.at_ hlt
        obtain ⟨b', o', rfl, hbB', e2⟩ := hb.at_ hlt
        by_cases h1 : gi xs k = gi ys k
        · have H1 := Lib.hid h1
          rw [← h1] at e2
          clear h1
          have hnx : (gi xs k != gi xs k) = false := by simp
          generalize hX : gi xs k = X at *
          clear ha hb
          go_wp2_with fail
          go_quiet (fail)
          go_wp2
          go_roundw
          case rel => exact ⟨k + 1, _, by omega, by go_num, by first | rfl | exact World.drewN_drewN _ _ _, Lib.hid fun q hq' => by
            rcases Nat.lt_or_ge q k with h | h
            · exact hq.out q h
            · obtain rfl : q = k := by omega
              exact hX.trans H1.out⟩
          case measure => simp [intOf]; omega
        · have H1 := Lib.hid h1
          have hnx : (gi xs k != gi ys k) = true := by simpa using h1
          clear h1
          have HR : Hid (sameB xs ys = false) := Lib.hid (sameB_at H1.out)
          generalize gi xs k = X at *
          generalize gi ys k = Y at *
          clear ha hb
          go_wp2_with fail
          go_quiet (fail)
          go_wp2
          go_ret
          exact ⟨by rw [HR.out]; rfl, _, by first | rfl | exact World.drewN_drewN _ _ _⟩
      · obtain rfl : k = n := by omega
        have HR : Hid (sameB xs ys = true) := Lib.hid (sameB_all (by omega) fun q hq' => hq.out q (by omega))
        go_wp2
        go_ret
        exact ⟨by rw [HR.out]; rfl, _, rfl⟩
  · have h1 : ((n : Int) != m) = true := by simp; omega
    have HR : Hid (sameB xs ys = false) := Lib.hid (sameB_len (by omega))
    go_enter Try.func67, Try.ntmps67
    go_wp2
    go_ret
    exact ⟨by rw [HR.out]; rfl, 0, rfl⟩
set_option maxHeartbeats 400000 in
theorem Equal_any (A B : Option Addr) (n c m d : Nat) (xs ys : List Int) (w : World) (ha : RI w A n xs) (hb : RI w B m ys) (hn : n ≤ 2097152) (hm : m ≤ 2097152) :
    Calls Try.prog 64 #[.slice A n c, .slice B m d] w fun e w' => e = .returned (.bool (sameB xs ys)) ∧ ∃ j, w' = w.drewN j := by
  have hl := ha.len
  have hm' := hb.len
  by_cases h0 : n = m
  · subst h0
    have hne : ((n : Int) != n) = false := by simp
    go_enter Try.func64, Try.ntmps64
    go_wp2
    go_loopw [13] (fun i wr => ∃ k j : Nat, k ≤ n ∧ i = .int .i64 k ∧ wr = w.drewN j ∧ Hid (∀ q, q < k → gi xs q = gi ys q)) (fun i _ => n - (intOf i).toNat)
    case atStart => exact ⟨0, 0, Nat.zero_le _, rfl, rfl, Lib.hid fun q hq => absurd hq (by omega)⟩
    case round =>
      obtain ⟨k, j, hk, rfl, rfl, hq⟩ := hrel
      by_cases hlt : k < n
      · obtain ⟨b, o, rfl, hbB, e1⟩ := ha.at_ hlt
        obtain ⟨b', o', rfl, hbB', e2⟩ := hb.at_ hlt
        by_cases h1 : gi xs k = gi ys k
        · have H1 := Lib.hid h1
          rw [← h1] at e2
          clear h1
          have hnx : (gi xs k != gi xs k) = false := by simp
          generalize hX : gi xs k = X at *
          clear ha hb
          go_wp2_with fail
          go_quiet (fail)
          go_wp2
          go_roundw
          case rel => exact ⟨k + 1, _, by omega, by go_num, by first | rfl | exact World.drewN_drewN _ _ _, Lib.hid fun q hq' => by
            rcases Nat.lt_or_ge q k with h | h
            · exact hq.out q h
            · obtain rfl : q = k := by omega
              exact hX.trans H1.out⟩
          case measure => simp [intOf]; omega
        · have H1 := Lib.hid h1
          have hnx : (gi xs k != gi ys k) = true := by simpa using h1
          clear h1
          have HR : Hid (sameB xs ys = false) := Lib.hid (sameB_at H1.out)
          generalize gi xs k = X at *
          generalize gi ys k = Y at *
          clear ha hb
          go_wp2_with fail
          go_quiet (fail)
          go_wp2
          go_ret
          exact ⟨by rw [HR.out]; rfl, _, by first | rfl | exact World.drewN_drewN _ _ _⟩
      · obtain rfl : k = n := by omega
        have HR : Hid (sameB xs ys = true) := Lib.hid (sameB_all (by omega) fun q hq' => hq.out q (by omega))
        go_wp2
        go_ret
        exact ⟨by rw [HR.out]; rfl, _, rfl⟩
  · have h1 : ((n : Int) != m) = true := by simp; omega
    have HR : Hid (sameB xs ys = false) := Lib.hid (sameB_len (by omega))
    go_enter Try.func64, Try.ntmps64
    go_wp2
    go_ret
    exact ⟨by rw [HR.out]; rfl, 0, rfl⟩
set_option maxHeartbeats 400000 in
theorem siSmall_any (x y : Int) (Ag : Option Addr) (ng cg : Nat) (Ao : Option Addr) (no co : Nat) (gs : List G3) (os : List Int) (w : World) (hr : RG w Ag ng gs ∧ RI w Ao no os) (hng : ng ≤ 2097152) (hno : no ≤ 2097152) :
    Calls Try.prog 65 #[.agg #[.int .i64 x, .int .i64 y, .slice Ag ng cg, .slice Ao no co]] w fun e w' => e = .returned (.bool (smallB x y gs os 40)) ∧ Below w.heap.size w w' := by
  have hB : Below w.heap.size w (w.alloc (.cells #[.int .i64 x, .int .i64 y, .slice Ag ng cg, .slice Ao no co] 26)) := (Below.refl _ _).alloc (Nat.le_refl _) _
  cases h0 : circB x y gs os with
  | false =>
    have HR : Hid (smallB x y gs os 40 = false) := Lib.hid (by simp [smallB, h0])
    have H0 := Lib.hid h0; clear h0
    go_enter Try.func65, Try.ntmps65
    go_wp2_with fail
    refine (ciGood_any x y Ag ng cg Ao no co gs os _ (hr.1.below hB (Nat.le_refl _)) (hr.2.below hB (Nat.le_refl _)) hng hno).mono ?_
    rintro e v1 ⟨rfl, hb1⟩
    rw [H0.out]
    go_wp2
    go_ret
    exact ⟨by rw [HR.out]; rfl, hB.trans (hb1.mono hB.size)⟩
  | true =>
    obtain ⟨⟨b1, b2⟩, ⟨b3, b4⟩, _, b5, _, _⟩ := circB_bd h0
    have HR : Hid (smallB x y gs os 40 = decide (x + y ≤ 10)) := Lib.hid (by simp [smallB, h0, b5])
    have H0 := Lib.hid h0; clear h0 b5
    go_enter Try.func65, Try.ntmps65
    go_wp2_with fail
    refine (ciGood_any x y Ag ng cg Ao no co gs os _ (hr.1.below hB (Nat.le_refl _)) (hr.2.below hB (Nat.le_refl _)) hng hno).mono ?_
    rintro e v1 ⟨rfl, hb1⟩
    rw [H0.out]
    have hB1 := hB.trans (hb1.mono hB.size)
    obtain ⟨hc1, hf1⟩ := bcell hb1
    have hz1 := hb1.size
    simp only [World.size_alloc] at hz1
    have hz1' : w.heap.size < v1.heap.size := by omega
    go_wp2_with fail
    refine (ciInputs_any x y Ag ng cg Ao no co _ (by omega) (by omega)).mono ?_
    rintro e v2 ⟨rfl, hb2⟩
    go_wp2
    go_ret
    exact ⟨by rw [HR.out]; rfl, hB1.trans (hb2.mono hB1.size)⟩
set_option maxHeartbeats 400000 in
theorem isSmall_any (x y : Int) (Ag : Option Addr) (ng cg : Nat) (Ao : Option Addr) (no co : Nat) (gs : List G3) (os : List Int) (w : World) (hr : RG w Ag ng gs ∧ RI w Ao no os) (hng : ng ≤ 2097152) (hno : no ≤ 2097152) :
    Calls Try.prog 62 #[.agg #[.int .i64 x, .int .i64 y, .slice Ag ng cg, .slice Ao no co]] w fun e w' => e = .returned (.bool (smallB x y gs os 40)) ∧ Below w.heap.size w w' := by
  have hB : Below w.heap.size w (w.alloc (.cells #[.int .i64 x, .int .i64 y, .slice Ag ng cg, .slice Ao no co] 26)) := (Below.refl _ _).alloc (Nat.le_refl _) _
  cases h0 : circB x y gs os with
  | false =>
    have HR : Hid (smallB x y gs os 40 = false) := Lib.hid (by simp [smallB, h0])
    have H0 := Lib.hid h0; clear h0
    go_enter Try.func62, Try.ntmps62
    go_wp2_with fail
    refine (IsCircuit_any x y Ag ng cg Ao no co gs os _ (hr.1.below hB (Nat.le_refl _)) (hr.2.below hB (Nat.le_refl _)) hng hno).mono ?_
    rintro e v1 ⟨rfl, hb1⟩
    rw [H0.out]
    go_wp2
    go_ret
    exact ⟨by rw [HR.out]; rfl, hB.trans (hb1.mono hB.size)⟩
  | true =>
    obtain ⟨⟨b1, b2⟩, ⟨b3, b4⟩, _, b5, _, _⟩ := circB_bd h0
    have HR : Hid (smallB x y gs os 40 = decide (x + y ≤ 10)) := Lib.hid (by simp [smallB, h0, b5])
    have H0 := Lib.hid h0; clear h0 b5
    go_enter Try.func62, Try.ntmps62
    go_wp2_with fail
    refine (IsCircuit_any x y Ag ng cg Ao no co gs os _ (hr.1.below hB (Nat.le_refl _)) (hr.2.below hB (Nat.le_refl _)) hng hno).mono ?_
    rintro e v1 ⟨rfl, hb1⟩
    rw [H0.out]
    have hB1 := hB.trans (hb1.mono hB.size)
    obtain ⟨hc1, hf1⟩ := bcell hb1
    have hz1 := hb1.size
    simp only [World.size_alloc] at hz1
    have hz1' : w.heap.size < v1.heap.size := by omega
    go_wp2_with fail
    refine (Circuit_inputs_any x y Ag ng cg Ao no co _ (by omega) (by omega)).mono ?_
    rintro e v2 ⟨rfl, hb2⟩
    go_wp2
    go_ret
    exact ⟨by rw [HR.out]; rfl, hB1.trans (hb2.mono hB1.size)⟩
end Go.Proofs.Ytikgagjoapggnaa
