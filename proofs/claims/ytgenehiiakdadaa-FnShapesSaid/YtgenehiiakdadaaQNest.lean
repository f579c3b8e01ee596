/- Slices of slices of ints: read, owned, appended to, marked. Lengths up to 2^20. -/
import Derived.Test.YtgenehiiakdadaaQChg
import Derived.Test.YtgenehiiakdadaaQApp
namespace Go.Proofs.Ytgenehiiakdadaa
open Go.RowKit
set_option linter.unusedVariables false
set_option linter.unusedSimpArgs false

theorem info_ints : (Try.prog.info? 25).map (fun i => (i.zero, i.size, i.bytes)) = some (some (.slice none 0 0), 1, 24) := by kernel_rfl
/-- The j-th list. -/
def gl (xss : List (List Int)) (j : Nat) : List Int := xss.getD j []
theorem gl_append_lt {xss yss : List (List Int)} {j : Nat} (h : j < xss.length) : gl (xss ++ yss) j = gl xss j := by
  unfold gl; rw [List.getD_eq_getElem?_getD, List.getD_eq_getElem?_getD, List.getElem?_append_left h]
theorem gl_append_eq {xss : List (List Int)} {ys : List Int} : gl (xss ++ [ys]) xss.length = ys := by simp [gl]
/-- The slice value '.slice A n c' reads as the lists xss. -/
def RII (w : World) (A : Option Addr) (n : Nat) (xss : List (List Int)) : Prop :=
  xss.length = n ∧ (0 < n → ∃ b o, A = some ⟨b, o, none⟩ ∧ b < w.heap.size ∧ ∀ j, j < n → ∃ A' m c', w.cell? ⟨b, o + j, none⟩ = some (.slice A' m c') ∧ RI w A' m (gl xss j))
theorem RII.len {w : World} {A : Option Addr} {n : Nat} {xss : List (List Int)} (h : RII w A n xss) : xss.length = n := h.1
theorem RII.at_ {w : World} {A : Option Addr} {n : Nat} {xss : List (List Int)} {k : Nat} (h : RII w A n xss) (hk : k < n) :
    ∃ b o A' m c', A = some ⟨b, o, none⟩ ∧ b < w.heap.size ∧ w.cell? ⟨b, o + k, none⟩ = some (.slice A' m c') ∧ RI w A' m (gl xss k) := by
  obtain ⟨b, o, hA, hb, hc⟩ := h.2 (by omega)
  obtain ⟨A', m, c', h1, h2⟩ := hc k hk
  exact ⟨b, o, A', m, c', hA, hb, h1, h2⟩
theorem RII.below {w w' : World} {A : Option Addr} {n : Nat} {xss : List (List Int)} (h : RII w A n xss) {B : Nat} (hb : Below B w w') (hB : w.heap.size ≤ B) : RII w' A n xss :=
  ⟨h.1, fun hn => by
    obtain ⟨b, o, hA, hlt, hc⟩ := h.2 hn
    refine ⟨b, o, hA, Nat.lt_of_lt_of_le hlt hb.size, fun j hj => ?_⟩
    obtain ⟨A', m, c', h1, h2⟩ := hc j hj
    exact ⟨A', m, c', (hb.cell (p := ⟨b, o + j, none⟩) (by exact Nat.lt_of_lt_of_le hlt hB)).trans h1, h2.below hb hB⟩⟩
theorem RII.drewN {w : World} {A : Option Addr} {n : Nat} {xss : List (List Int)} (h : RII w A n xss) (k : Nat) : RII (w.drewN k) A n xss := h

/-- The slice value v holds the lists xss in a row of its own, each in a row of its own, all in blocks from lo on, below hi. -/
def OwnII (w : World) (lo hi : Nat) (v : Value) (n : Nat) (xss : List (List Int)) : Prop :=
  ∃ vals : List Value, w.ownsRow lo 25 1 v n vals ∧ (∀ g, v.ownBlock = some g → g < hi) ∧ xss.length = n ∧
    (∀ j : Nat, j < n → ∃ A' m c', vals[j]? = some (.slice A' m c') ∧ Own w lo hi (.slice A' m c') m (gl xss j)) ∧
    (∀ (i j : Nat) (u u' : Value), i < j → vals[i]? = some u → vals[j]? = some u' → Apart u u')

theorem ownsRow_ne {w : World} {lo lo' e e' s s' n n' : Nat} {v v' : Value} {xs xs' : List Value} (h : w.ownsRow lo e s v n xs) (h' : w.ownsRow lo' e' s' v' n' xs') (hne : e ≠ e') : Apart v v' := by
  intro g hg hg'
  rcases h.2 with ⟨rfl, _⟩ | ⟨a, cap, cur, rfl, _, hh, _⟩
  · simp [Value.ownBlock] at hg
  · rcases h'.2 with ⟨rfl, _⟩ | ⟨b, cap', cur', rfl, _, hh', _⟩
    · simp [Value.ownBlock] at hg'
    · simp only [Value.ownBlock, Option.some.injEq] at hg hg'
      subst hg; subst hg'
      rw [hh] at hh'
      injection hh' with hh'
      injection hh' with _ ht
      exact hne ht

theorem OwnII.len {w : World} {lo hi n : Nat} {v : Value} {xss : List (List Int)} (h : OwnII w lo hi v n xss) : xss.length = n := by
  obtain ⟨_, _, _, h3, _⟩ := h; exact h3
theorem OwnII.none_ (w : World) (lo hi : Nat) : OwnII w lo hi (.slice none 0 0) 0 [] :=
  ⟨[], World.ownsRow_nil w lo _ _, fun g hg => by simp [Value.ownBlock] at hg, rfl, fun j hj => absurd hj (by omega), fun i j u u' _ h => by simp at h⟩
theorem OwnII.lt {w : World} {lo hi n : Nat} {v : Value} {xss : List (List Int)} (h : OwnII w lo hi v n xss) : ∀ g, v.ownBlock = some g → lo ≤ g ∧ g < hi ∧ g < w.heap.size := by
  obtain ⟨vals, h1, h2, _⟩ := h
  exact fun g hg => ⟨(h1.lt g hg).1, h2 g hg, (h1.lt g hg).2⟩
theorem OwnII.some_ {w : World} {lo hi n c : Nat} {A : Option Addr} {xss : List (List Int)} (h : OwnII w lo hi (.slice A n c) n xss) (hn : 0 < n) : ∃ g, A = some ⟨g, 0, none⟩ ∧ lo ≤ g ∧ g < hi ∧ g < w.heap.size := by
  obtain ⟨vals, h1, h2, _⟩ := h
  obtain ⟨g, cap, hv, h3, h4⟩ := h1.form hn
  simp only [Value.slice.injEq, true_and] at hv
  obtain ⟨rfl, rfl⟩ := hv
  exact ⟨g, rfl, h3, h2 g rfl, h4⟩
theorem ownsRow_chg {w w' : World} {lo lo' hi' e s n : Nat} {v : Value} {xs : List Value} (h : w.ownsRow lo e s v n xs) (k : Chg lo' hi' w w') (hd : ∀ g, v.ownBlock = some g → g < lo' ∨ hi' ≤ g) : w'.ownsRow lo e s v n xs := by
  refine ⟨h.1, ?_⟩
  rcases h.2 with h1 | ⟨g, cap, cur, rfl, hlo, hg, r⟩
  · exact .inl h1
  · exact .inr ⟨g, cap, cur, rfl, hlo, by rw [k.block g (h.lt g (by simp [Value.ownBlock])).2 (hd g (by simp [Value.ownBlock]))]; exact hg, r⟩
theorem OwnII.chg {w w' : World} {lo hi lo' hi' n : Nat} {v : Value} {xss : List (List Int)} (h : OwnII w lo hi v n xss) (k : Chg lo' hi' w w') (hd : hi ≤ lo' ∨ hi' ≤ lo) : OwnII w' lo hi v n xss := by
  have hlt := h.lt
  obtain ⟨vals, h1, h2, h3, h4, h5⟩ := h
  refine ⟨vals, ownsRow_chg h1 k (fun g hg => by have := hlt g hg; omega), h2, h3, fun j hj => ?_, h5⟩
  obtain ⟨A', m, c', h6, h7⟩ := h4 j hj
  exact ⟨A', m, c', h6, h7.chg k hd⟩
theorem OwnII.below {w w' : World} {lo hi n : Nat} {v : Value} {xss : List (List Int)} {B : Nat} (h : OwnII w lo hi v n xss) (hb : Below B w w') (hB : w.heap.size ≤ B) : OwnII w' lo hi v n xss := by
  have k : Chg 0 0 w w' := Chg.of_below (hb.mono hB)
  exact h.chg k (.inr (Nat.zero_le _))
theorem OwnII.now {w : World} {lo hi n : Nat} {v : Value} {xss : List (List Int)} (h : OwnII w lo hi v n xss) : OwnII w lo w.heap.size v n xss := by
  have hlt := h.lt
  obtain ⟨vals, h1, h2, h3, h4, h5⟩ := h
  refine ⟨vals, h1, fun g hg => (hlt g hg).2.2, h3, fun j hj => ?_, h5⟩
  obtain ⟨A', m, c', h6, h7⟩ := h4 j hj
  exact ⟨A', m, c', h6, h7.now⟩
theorem OwnII.lo_ {w : World} {lo lo' hi n : Nat} {v : Value} {xss : List (List Int)} (h : OwnII w lo hi v n xss) (hl : lo' ≤ lo) : OwnII w lo' hi v n xss := by
  obtain ⟨vals, h1, h2, h3, h4, h5⟩ := h
  refine ⟨vals, ⟨h1.1, ?_⟩, h2, h3, fun j hj => ?_, h5⟩
  · rcases h1.2 with h6 | ⟨g, cap, cur, hv, hb, r⟩
    · exact .inl h6
    · exact .inr ⟨g, cap, cur, hv, by omega, r⟩
  · obtain ⟨A', m, c', h6, h7⟩ := h4 j hj
    exact ⟨A', m, c', h6, h7.lo_ hl⟩
theorem OwnII.reads {w : World} {lo hi n c : Nat} {A : Option Addr} {xss : List (List Int)} (h : OwnII w lo hi (.slice A n c) n xss) : RII w A n xss := by
  refine ⟨h.len, fun hn => ?_⟩
  obtain ⟨g, rfl, _, _, hlt⟩ := h.some_ hn
  obtain ⟨vals, h1, h2, h3, h4, h5⟩ := h
  refine ⟨g, 0, rfl, hlt, fun j hj => ?_⟩
  obtain ⟨A', m, c', h6, h7⟩ := h4 j hj
  refine ⟨A', m, c', ?_, h7.reads⟩
  obtain ⟨cap, hv⟩ : ∃ cap, c = cap := ⟨_, rfl⟩
  rw [Nat.zero_add, h1.cellAt j (by omega), h6]

/-- One more list, in a block that was laid just now. -/
theorem OwnII.app {w w2 w5 : World} {lo n c m c' H : Nat} {A A5 : Option Addr} {c5 : Nat} {xss : List (List Int)} {ys : List Int} {vals : List Value} {hi : Nat}
    (h1 : w.ownsRow lo 25 1 (.slice A n c) n vals) (h3 : xss.length = n)
    (h4 : ∀ j : Nat, j < n → ∃ A' m c', vals[j]? = some (.slice A' m c') ∧ Own w lo hi (.slice A' m c') m (gl xss j))
    (h5 : ∀ (i j : Nat) (u u' : Value), i < j → vals[i]? = some u → vals[j]? = some u' → Apart u u')
    (hb : Below w.heap.size w w2) (hnew : Own w2 w.heap.size hi (.slice (some ⟨H, 0, none⟩) m c') m ys) (hlo : lo ≤ w.heap.size)
    (hr : w5.ownsRow lo 25 1 (.slice A5 (n + 1) c5) (n + 1) (vals ++ [.slice (some ⟨H, 0, none⟩) m c'])) (hg : w2.grownBy w5 (Value.slice A n c).ownBlock) :
    OwnII w5 lo w5.heap.size (.slice A5 (n + 1) c5) (n + 1) (xss ++ [ys]) := by
  have hrow2 : w2.ownsRow lo 25 1 (.slice A n c) n vals := h1.kept (grownBy_of_below hb none) (by cases h : (Value.slice A n c).ownBlock <;> simp)
  have hl : vals.length = n := by simpa using h1.1
  have hne : ∀ {lo' hi' k : Nat} {u : Value} {zs : List Int}, Own w2 lo' hi' u k zs → Own w5 lo' hi' u k zs := by
    intro lo' hi' k u zs hu
    exact hu.apart hg (ownsRow_ne hu.1 hrow2 (by decide))
  refine ⟨_, hr, fun g hg' => (hr.lt g hg').2, by simp [h3], fun j hj => ?_, fun i j u u' hij hu hu' => ?_⟩
  · by_cases hjn : j < n
    · obtain ⟨A', m', c'', h6, h7⟩ := h4 j hjn
      refine ⟨A', m', c'', by rw [List.getElem?_append_left (by omega)]; exact h6, ?_⟩
      rw [gl_append_lt (by omega)]
      exact (hne (h7.below hb (.inl (Nat.le_refl _)))).now
    · obtain rfl : j = n := by omega
      refine ⟨some ⟨H, 0, none⟩, m, c', by rw [List.getElem?_append_right (by omega), hl, Nat.sub_self]; rfl, ?_⟩
      rw [← h3, gl_append_eq]
      exact ((hne hnew).lo_ hlo).now
  · by_cases hjn : j < n
    · rw [List.getElem?_append_left (by omega)] at hu hu'
      exact h5 i j u u' hij hu hu'
    · have hj2 : j < (vals ++ [Value.slice (some ⟨H, 0, none⟩) m c']).length := by
        rcases Nat.lt_or_ge j (vals ++ [Value.slice (some ⟨H, 0, none⟩) m c']).length with h | h
        · exact h
        · rw [List.getElem?_eq_none h] at hu'; cases hu'
      simp at hj2
      obtain rfl : j = n := by omega
      rw [List.getElem?_append_left (by omega)] at hu
      rw [List.getElem?_append_right (by omega), hl, Nat.sub_self] at hu'
      simp at hu'
      subst hu'
      obtain ⟨A', m', c'', h6, h7⟩ := h4 i (by omega)
      rw [hu] at h6
      injection h6 with h6
      subst h6
      intro g hg1 hg2
      have q1 := h7.lt g hg1
      have q2 := hnew.lt g hg2
      omega

theorem OwnII.row {w : World} {lo hi n g c : Nat} {xss : List (List Int)} (h : OwnII w lo hi (.slice (some ⟨g, 0, none⟩) n c) n xss) {k : Nat} (hk : k < n) :
    ∃ A' m c', w.cell? ⟨g, k, none⟩ = some (.slice A' m c') ∧ Own w lo hi (.slice A' m c') m (gl xss k) ∧
      ∀ (w' : World) (ys : List Int), Own w' lo hi (.slice A' m c') m ys → w.grownBy w' (Value.slice A' m c').ownBlock → OwnII w' lo hi (.slice (some ⟨g, 0, none⟩) n c) n (xss.set k ys) := by
  obtain ⟨vals, h1, h2, h3, h4, h5⟩ := h
  obtain ⟨A', m, c', h6, h7⟩ := h4 k hk
  refine ⟨A', m, c', by rw [h1.cellAt k (by omega), h6], h7, fun w' ys hy hg => ?_⟩
  have hap := ownsRow_ne h1 h7.1 (by decide)
  refine ⟨vals, h1.kept hg (by
    cases hv : (Value.slice (some ⟨g, 0, none⟩) n c).ownBlock with
    | none => exact .inl rfl
    | some q => exact .inr (fun he => hap q hv he.symm)), h2, by simpa using h3, fun j hj => ?_, h5⟩
  by_cases hjk : j = k
  · subst hjk
    refine ⟨A', m, c', h6, ?_⟩
    rw [show gl (xss.set j ys) j = ys from by simp [gl, h3, hj]]
    exact hy
  · obtain ⟨B', m', d', h8, h9⟩ := h4 j hj
    refine ⟨B', m', d', h8, ?_⟩
    rw [show gl (xss.set k ys) j = gl xss j from by unfold gl; rw [List.getD_eq_getElem?_getD, List.getD_eq_getElem?_getD, List.getElem?_set_ne (fun e => hjk e.symm)]]
    refine h9.apart hg ?_
    rcases Nat.lt_or_gt_of_ne hjk with h | h
    · exact h5 j k _ _ h h8 h6
    · exact (h5 k j _ _ h h6 h8).symm_
/-- The rows marked with the numbers from q on. -/
def markL : Int → List (List Int) → List (List Int)
  | _, [] => []
  | q, xs :: xss => marks q xs.length :: markL (q + xs.length) xss
def totL : List (List Int) → Nat
  | [] => 0
  | xs :: xss => xs.length + totL xss
theorem markL_len (q : Int) (xss : List (List Int)) : (markL q xss).length = xss.length := by
  induction xss generalizing q with
  | nil => rfl
  | cons x xs ih => simp [markL, ih]
theorem totL_snoc (xss : List (List Int)) (ys : List Int) : totL (xss ++ [ys]) = totL xss + ys.length := by
  induction xss with
  | nil => simp [totL]
  | cons x xs ih => simp [totL, ih]; omega
theorem markL_snoc (q : Int) (xss : List (List Int)) (ys : List Int) : markL q (xss ++ [ys]) = markL q xss ++ [marks (q + totL xss) ys.length] := by
  induction xss generalizing q with
  | nil => simp [markL, totL]
  | cons x xs ih =>
    simp only [List.cons_append, markL, ih, totL]
    rw [show q + (x.length : Int) + (totL xs : Int) = q + ((x.length + totL xs : Nat) : Int) from by omega]
theorem gl_take_snoc {xss : List (List Int)} {k : Nat} (h : k < xss.length) : xss.take (k + 1) = xss.take k ++ [gl xss k] := by
  rw [List.take_succ_eq_append_getElem h]; simp [gl, h]
theorem totL_le {xss : List (List Int)} {B : Nat} (h : ∀ xs ∈ xss, xs.length ≤ B) : totL xss ≤ xss.length * B := by
  induction xss with
  | nil => simp [totL]
  | cons x xs ih =>
    have h1 := ih fun y hy => h y (List.mem_cons_of_mem _ hy)
    have h2 := h x (List.mem_cons_self ..)
    simp only [totL, List.length_cons, Nat.succ_mul]; omega
theorem gl_mem {xss : List (List Int)} {k : Nat} (h : k < xss.length) : gl xss k ∈ xss := by
  unfold gl; rw [List.getD_eq_getElem?_getD, List.getElem?_eq_getElem h]; exact List.getElem_mem _
theorem gl_markL {q : Int} {xss : List (List Int)} {k : Nat} (h : k < xss.length) : gl (markL q xss) k = marks (q + totL (xss.take k)) (gl xss k).length := by
  induction xss generalizing q k with
  | nil => simp at h
  | cons x xs ih =>
    cases k with
    | zero => simp [markL, gl, totL]
    | succ k =>
      have := ih (q := q + x.length) (k := k) (by simpa using h)
      simp only [markL, gl, List.getD_cons_succ, List.take_succ_cons, totL] at this ⊢
      rw [this]; congr 1; omega
theorem markL_set {q : Int} {xss : List (List Int)} {k : Nat} (h : k < xss.length) :
    (markL q (xss.take k) ++ xss.drop k).set k (marks (q + totL (xss.take k)) (gl xss k).length) = markL q (xss.take (k + 1)) ++ xss.drop (k + 1) := by
  have hl : (markL q (xss.take k)).length = k := by rw [markL_len]; simp; omega
  rw [List.set_append_right _ _ (by omega), hl, Nat.sub_self]
  have hd : xss.drop k = xss[k] :: xss.drop (k + 1) := List.drop_eq_getElem_cons h
  rw [hd, List.set_cons_zero, gl_take_snoc h, markL_snoc]
  simp
theorem gl_mark_drop {q : Int} {xss : List (List Int)} {k : Nat} (h : k < xss.length) : gl (markL q (xss.take k) ++ xss.drop k) k = gl xss k := by
  have hl : (markL q (xss.take k)).length = k := by rw [markL_len]; simp; omega
  unfold gl
  rw [List.getD_eq_getElem?_getD, List.getD_eq_getElem?_getD, List.getElem?_append_right (by omega), hl, Nat.sub_self, List.getElem?_drop, Nat.add_zero]

theorem quiet_add_ex {P : Program} {f : FuncId} {args : Array Value} {w : World} {a n : Nat} {v : Value}
    (h : Calls P f args (w.drewN (a + n)) fun e w' => e = .returned v ∧ ∃ k, (w.drewN (a + n)).drewN k = w') :
    Calls P f args (w.drewN (a + n)) fun e w'' => e = .returned v ∧ ∃ m, w'' = w.drewN (a + m) :=
  h.mono fun _ _ ⟨he, k, hk⟩ => ⟨he, n + k, by rw [← hk, World.drewN_drewN, Nat.add_assoc]⟩
theorem quiet_ex {P : Program} {f : FuncId} {args : Array Value} {w : World} {n : Nat} {v : Value}
    (h : Calls P f args (w.drewN n) fun e w' => e = .returned v ∧ ∃ k, (w.drewN n).drewN k = w') :
    Calls P f args (w.drewN n) fun e w'' => e = .returned v ∧ ∃ m, w'' = w.drewN m :=
  h.mono fun _ _ ⟨he, k, hk⟩ => ⟨he, n + k, by rw [← hk, World.drewN_drewN]⟩

end Go.Proofs.Ytgenehiiakdadaa
