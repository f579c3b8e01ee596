/- append onto rows of the call's own, of numbers and of gates; what was read before is read behind it. Lengths below 2^21. -/
import Derived.Test.YtgenehiiakdadaaQMem
namespace Go.Proofs.Ytgenehiiakdadaa
open Go.RowKit
set_option linter.unusedVariables false
set_option linter.unusedSimpArgs false

section
variable {P : Program} (w : World)
/-- What may be read before an append is read behind it: cells outside the row, and the row's own elements. -/
def StayA (A0 : Option Addr) (n : Nat) (w w' : World) : Prop := ∀ b o u, w.cell? ⟨b, o, none⟩ = some u → (∀ g, A0 = some ⟨g, 0, none⟩ → b = g → o < n) → w'.cell? ⟨b, o, none⟩ = some u
theorem StayA.refl_ (A0 : Option Addr) (n : Nat) (w : World) : StayA A0 n w w := fun _ _ _ h _ => h

/-- The slice value '.slice A m c' reads as the cells news (size cells an element). -/
def RV (w : World) (A : Option Addr) (m size : Nat) (news : List Value) : Prop :=
  news.length = m * size ∧ (0 < m → ∃ ad, A = some ad ∧ ∀ j u, news[j]? = some u → w.cell? (ad.add j) = some u)

theorem run_appV_nil (t ty e : TypeId) (i : TypeInfo) (ht : P.underlying t = some (.slice e)) (hi : P.info? e = some i) (base size n c0 c : Nat) (A0 : Option Addr) (xs : List Value) (hown : w.ownsRow base e size (.slice A0 n c0) n xs) :
    (Builtin.append_ #[t, t] ty #[.slice A0 n c0, .slice none 0 c]).run P w = .ok (.slice A0 n c0) w := by
  rcases hown.2 with ⟨h, rfl⟩ | ⟨g, cap, cur, h, _, _, hnc, _⟩
  · simp only [Value.slice.injEq] at h
    obtain ⟨rfl, _, rfl⟩ := h
    simp [Builtin.append_, run_underlying ht, sizeOf, typeInfo, hi, Builtin.lenOf, Builtin.firstCells]
  · simp only [Value.slice.injEq, true_and] at h
    obtain ⟨rfl, rfl⟩ := h
    simp [Builtin.append_, run_underlying ht, sizeOf, typeInfo, hi, Builtin.lenOf, Builtin.firstCells, hnc, storeCells]

theorem run_appV (t ty e : TypeId) (i : TypeInfo) (z : Value) (size bytes : Nat) (ht : P.underlying t = some (.slice e)) (hi : P.info? e = some i) (hz : i.zero = some z) (hsize : i.size = size) (hby : i.bytes = bytes) (hzs : z.cells.size = size) (hsz : 0 < size)
    (base n c0 m c : Nat) (A0 A : Option Addr) (xs news : List Value) (hown : w.ownsRow base e size (.slice A0 n c0) n xs) (hr : RV w A m size news) (h1 : ∀ u ∈ news, u.oneCell' = true)
    (h63 : n + m ≤ maxLen) (hbytes : (n + m) * bytes ≤ 140737488355328) (hbase : base ≤ w.heap.size) :
    ∃ A' c' w', (Builtin.append_ #[t, t] ty #[.slice A0 n c0, .slice A m c]).run P w = .ok (.slice A' (n + m) c') w' ∧ w'.ownsRow base e size (.slice A' (n + m) c') (n + m) (xs ++ news) ∧
      w.grownBy w' (Value.slice A0 n c0).ownBlock ∧ ((Value.slice A' (n + m) c').ownBlock = (Value.slice A0 n c0).ownBlock ∨ (Value.slice A' (n + m) c').ownBlock = some w.heap.size) ∧ StayA A0 (n * size) w w' := by
  have hsmall : n + m ≤ 9223372036854775807 := by simp only [maxLen] at h63; omega
  have hcase : A = none ∧ m = 0 ∨ ∃ ad, A = some ad ∧ ∀ j u, news[j]? = some u → w.cell? (ad.add j) = some u := by
    rcases A with _ | ad
    · refine .inl ⟨rfl, ?_⟩
      rcases Nat.eq_zero_or_pos m with h0 | h0
      · exact h0
      · obtain ⟨ad, h, _⟩ := hr.2 h0
        cases h
    · refine .inr ⟨ad, rfl, fun j u hu => ?_⟩
      rcases Nat.eq_zero_or_pos m with h0 | h0
      · subst h0
        have hn : news = [] := List.eq_nil_of_length_eq_zero (by simpa using hr.1)
        subst hn
        simp at hu
      · obtain ⟨ad', h, hc⟩ := hr.2 h0
        injection h with h
        subst h
        exact hc j u hu
  rcases hcase with ⟨rfl, rfl⟩ | ⟨ad, rfl, hc⟩
  · have hn : news = [] := List.eq_nil_of_length_eq_zero (by simpa using hr.1)
    subst hn
    exact ⟨A0, c0, w, run_appV_nil w t ty e i ht hi base size n c0 c A0 xs hown, by simpa using hown, World.grownBy.refl w _, .inl rfl, StayA.refl_ _ _ _⟩
  · obtain ⟨v', w', hrun, h2, h3, _, h5⟩ := run_append_own_at (P := P) w base t ty e i z size bytes ht hi hz hsize hby hzs hsz (.slice A0 n c0) n xs hown ad m c news hr.1 hc h1 h63 hbytes hbase
    have hform : ∃ A' c', v' = .slice A' (n + m) c' := by
      rcases h2.2 with ⟨h, h'⟩ | ⟨g, cap, cur, h, _⟩
      · exact ⟨none, 0, by rw [h, h']⟩
      · exact ⟨_, _, h⟩
    obtain ⟨A', c', rfl⟩ := hform
    refine ⟨A', c', w', hrun, h2, h3, h5, fun b o u hu hlt => ?_⟩
    have hbl := World.block_lt_of_cell? w _ hu
    by_cases hb : (Value.slice A0 n c0).ownBlock = some b
    · rcases hown.2 with ⟨h, _⟩ | ⟨g, cap, cur, h, hbg, hg, hnc, hcm, hcs, htake⟩
      · rw [h] at hb; simp [Value.ownBlock] at hb
      · simp only [Value.slice.injEq, true_and] at h
        obtain ⟨rfl, rfl⟩ := h
        have hgb : g = b := by simpa [Value.ownBlock] using hb
        subst hgb
        have ho := hlt g rfl rfl
        have hx : xs[o]? = some u := by
          have := hown.cells (g := g) rfl o (xs[o]'(by rw [hown.1]; exact ho)) (List.getElem?_eq_getElem _)
          rw [Addr.add_lit, Nat.zero_add, hu] at this
          rw [List.getElem?_eq_getElem (by rw [hown.1]; exact ho), ← this]
        by_cases hroom : n + m ≤ c0
        · have hfit : n * i.size + news.length ≤ cur.size := by rw [hr.1, hcs, ← hsize, ← Nat.add_mul]; exact Nat.mul_le_mul_right _ hroom
          have hr' := run_append_room (P := P) w t ty e i ht hi g n c0 cur hg ad m c news (by rw [hr.1, hsize]) hc h1 hroom hfit
          rw [hrun] at hr'
          simp only [Result.ok.injEq, Value.slice.injEq] at hr'
          obtain ⟨⟨rfl, _, rfl⟩, _⟩ := hr'
          have := h2.cells (g := g) rfl o u (by rw [List.getElem?_append_left (by rw [hown.1]; exact ho)]; exact hx)
          rwa [Addr.add_lit, Nat.zero_add] at this
        · have holds : ∀ j u, xs[j]? = some u → w.cell? ((⟨g, 0, none⟩ : Addr).add j) = some u := hown.cells (g := g) rfl
          have hr' := run_append_grow (P := P) w t ty e i z ht hi hz ⟨g, 0, none⟩ n c0 xs (by rw [hown.1, hsize]) holds ad m c news (by rw [hr.1, hsize]) hc (by omega) (by omega) (growslice_fits (by omega) (by rw [hby]; exact hbytes))
          rw [hrun] at hr'
          simp only [Result.ok.injEq] at hr'
          rw [hr'.2]
          exact (World.cell?_alloc_lt w.drew _ _ (by simpa using hbl)).trans hu
    · rw [← hu]
      exact World.cell?_of_block (w := w) (a := ⟨b, o, none⟩) (h3.block b hbl (fun e => hb e.symm))
end

theorem RV_of_RI {w : World} {A : Option Addr} {m : Nat} {ys : List Int} (h : RI w A m ys) : RV w A m 1 (ys.map (Value.int .i64)) := by
  refine ⟨by simp [h.len], fun hm => ?_⟩
  obtain ⟨b, o, rfl, _, hc⟩ := h.2 hm
  refine ⟨_, rfl, fun j u hu => ?_⟩
  have hl := h.len
  have hj : j < ys.length := by
    rcases Nat.lt_or_ge j ys.length with h | h
    · exact h
    · rw [List.getElem?_eq_none (by simpa using h)] at hu; cases hu
  rw [addr_add, hc j (by omega), gi_lt hj]
  rw [List.getElem?_map, List.getElem?_eq_getElem hj] at hu
  exact hu
theorem RV_of_RG {w : World} {A : Option Addr} {m : Nat} {gs : List G3} (h : RG w A m gs) : RV w A m 3 (gcells gs) := by
  refine ⟨by rw [gcells_len, h.len], fun hm => ?_⟩
  obtain ⟨b, o, rfl, _, hc⟩ := h.2 hm
  refine ⟨_, rfl, fun j u hu => ?_⟩
  have hl := h.len
  have hj : j < (gcells gs).length := by
    rcases Nat.lt_or_ge j (gcells gs).length with h | h
    · exact h
    · rw [List.getElem?_eq_none h] at hu; cases hu
  rw [gcells_len] at hj
  rw [addr_add]
  obtain ⟨q0, q1, q2⟩ := gcells_at gs (j / 3) (by omega)
  obtain ⟨c0, c1, c2⟩ := hc (j / 3) (by omega)
  have hm3 : j % 3 = 0 ∨ j % 3 = 1 ∨ j % 3 = 2 := by omega
  rcases hm3 with h3 | h3 | h3
  · have hjj : j / 3 * 3 = j := by omega
    rw [hjj, hu] at q0
    rw [hjj] at c0
    rw [c0, q0]
  · have hjj : j / 3 * 3 + 1 = j := by omega
    rw [hjj, hu] at q1
    rw [Nat.add_assoc, hjj] at c1
    rw [c1, q1]
  · have hjj : j / 3 * 3 + 2 = j := by omega
    rw [hjj, hu] at q2
    rw [Nat.add_assoc, hjj] at c2
    rw [c2, q2]
theorem gcells_one (gs : List G3) : ∀ u ∈ gcells gs, u.oneCell' = true := by
  intro u hu
  simp only [gcells, List.mem_flatMap, List.mem_cons, List.not_mem_nil, or_false] at hu
  obtain ⟨g, _, rfl | rfl | rfl⟩ := hu <;> rfl
theorem gcells_append (gs hs : List G3) : gcells (gs ++ hs) = gcells gs ++ gcells hs := by simp [gcells]

section
variable (w : World)
theorem run_appI (ty : TypeId) (lo hi n c0 m c : Nat) (A0 A : Option Addr) (xs ys : List Int) (hown : Own w lo hi (.slice A0 n c0) n xs) (hr : RI w A m ys) (hlen : n + m ≤ 8388608) (hlo : lo ≤ w.heap.size) :
    ∃ A' c' w', (Builtin.append_ #[25, 25] ty #[.slice A0 n c0, .slice A m c]).run Try.prog w = .ok (.slice A' (n + m) c') w' ∧
      Own w' lo w'.heap.size (.slice A' (n + m) c') (n + m) (xs ++ ys) ∧ w.grownBy w' (Value.slice A0 n c0).ownBlock ∧
      ((Value.slice A' (n + m) c').ownBlock = (Value.slice A0 n c0).ownBlock ∨ (Value.slice A' (n + m) c').ownBlock = some w.heap.size) ∧ StayA A0 n w w' := by
  obtain ⟨i, hi0, hz0, hz1, hz2⟩ := info_parts info_int
  obtain ⟨A', c', w', hrun, h2, h3, h4, h5⟩ := run_appV (P := Try.prog) w 25 ty 3 i (.int .i64 0) 1 8 Try.underlying25 hi0 hz0 hz1 hz2 rfl (by decide) lo n c0 m c A0 A _ _ hown.1 (RV_of_RI hr) (ints_one ys) (by unfold maxLen; omega) (by omega) hlo
  rw [← List.map_append] at h2
  rw [Nat.mul_one] at h5
  exact ⟨A', c', w', hrun, Own.mk_ h2, h3, h4, h5⟩

theorem wp_appI {o : Oper} {a : Act} {K : Act → World → Prop} {Q : Exit → Act → World → Prop} (s x : Operand)
    (ho : o.op = .call { callee := .builtin .append, args := #[s, x], argTypes := #[25, 25] })
    {lo hi n c0 m c : Nat} {A0 A : Option Addr} {xs ys : List Int} (hs : a.eval s = .slice A0 n c0) (hown : Own w lo hi (.slice A0 n c0) n xs) (hx : a.eval x = .slice A m c) (hr : RI w A m ys)
    (hlen : n + m ≤ 8388608) (hlo : lo ≤ w.heap.size)
    (h : ∀ A' c' w', Own w' lo w'.heap.size (.slice A' (n + m) c') (n + m) (xs ++ ys) → w.grownBy w' (Value.slice A0 n c0).ownBlock → ((Value.slice A' (n + m) c').ownBlock = (Value.slice A0 n c0).ownBlock ∨ (Value.slice A' (n + m) c').ownBlock = some w.heap.size) → StayA A0 n w w' → K (a.put o.dst (.slice A' (n + m) c')) w') : o.wp Try.prog a w K Q := by
  obtain ⟨A', c', w', hrun, h2, h3, h4, h5⟩ := run_appI w o.type lo hi n c0 m c A0 A xs ys hown hr hlen hlo
  unfold Oper.wp execOp
  simp only [ho, resolve, invoke, builtin, Sem.run_bind, Sem.run_pure, Result.andThen_ok, List.map_toArray, List.map_cons, List.map_nil, hs, hx, hrun]
  exact h A' c' w' h2 h3 h4 h5

theorem step_appI {ops : Array Oper} {o : Oper} {a : Act} {K : Act → World → Prop} {Q : Exit → Act → World → Prop} {E : Prop} (hgd : o.guard = none) (s x : Operand)
    (ho : o.op = .call { callee := .builtin .append, args := #[s, x], argTypes := #[25, 25] })
    {lo hi n c0 m c : Nat} {A0 A : Option Addr} {xs ys : List Int} (hs : a.eval s = .slice A0 n c0) (hown : Own w lo hi (.slice A0 n c0) n xs) (hx : a.eval x = .slice A m c) (hr : RI w A m ys)
    (hlen : n + m ≤ 8388608) (hlo : lo ≤ w.heap.size)
    (h : ∀ A' c' w', Own w' lo w'.heap.size (.slice A' (n + m) c') (n + m) (xs ++ ys) → w.grownBy w' (Value.slice A0 n c0).ownBlock → ((Value.slice A' (n + m) c').ownBlock = (Value.slice A0 n c0).ownBlock ∨ (Value.slice A' (n + m) c').ownBlock = some w.heap.size) → StayA A0 n w w' → K (a.put o.dst (.slice A' (n + m) c')) w') :
    if Region.wanted o (yielded ops a.tmps) = true then Oper.wp Try.prog o a w K Q else E := by
  have hw : Region.wanted o (yielded ops a.tmps) = true := by simp [Region.wanted, hgd]
  rw [if_pos hw]
  exact wp_appI w s x ho hs hown hx hr hlen hlo h

theorem info_gateI : (Try.prog.info? 58).map (fun i => (i.zero, i.size, i.bytes)) = some (some (.agg #[.int .i64 0, .int .i64 0, .int .i64 0]), 3, 24) := by kernel_rfl
theorem run_appG (ty : TypeId) (lo hi n c0 m c : Nat) (A0 A : Option Addr) (xs ys : List G3) (hown : OwnG w lo hi (.slice A0 n c0) n xs) (hr : RG w A m ys) (hlen : n + m ≤ 8388608) (hlo : lo ≤ w.heap.size) :
    ∃ A' c' w', (Builtin.append_ #[24, 24] ty #[.slice A0 n c0, .slice A m c]).run Try.prog w = .ok (.slice A' (n + m) c') w' ∧
      OwnG w' lo w'.heap.size (.slice A' (n + m) c') (n + m) (xs ++ ys) ∧ w.grownBy w' (Value.slice A0 n c0).ownBlock ∧
      ((Value.slice A' (n + m) c').ownBlock = (Value.slice A0 n c0).ownBlock ∨ (Value.slice A' (n + m) c').ownBlock = some w.heap.size) ∧ StayA A0 (n * 3) w w' := by
  obtain ⟨i, hi0, hz0, hz1, hz2⟩ := info_parts info_gateI
  obtain ⟨A', c', w', hrun, h2, h3, h4, h5⟩ := run_appV (P := Try.prog) w 24 ty 58 i _ 3 24 Try.underlying24 hi0 hz0 hz1 hz2 rfl (by decide) lo n c0 m c A0 A _ _ hown.1 (RV_of_RG hr) (gcells_one ys) (by unfold maxLen; omega) (by omega) hlo
  rw [← gcells_append] at h2
  exact ⟨A', c', w', hrun, OwnG.mk_ h2, h3, h4, h5⟩

theorem wp_appG {o : Oper} {a : Act} {K : Act → World → Prop} {Q : Exit → Act → World → Prop} (s x : Operand)
    (ho : o.op = .call { callee := .builtin .append, args := #[s, x], argTypes := #[24, 24] })
    {lo hi n c0 m c : Nat} {A0 A : Option Addr} {xs ys : List G3} (hs : a.eval s = .slice A0 n c0) (hown : OwnG w lo hi (.slice A0 n c0) n xs) (hx : a.eval x = .slice A m c) (hr : RG w A m ys)
    (hlen : n + m ≤ 8388608) (hlo : lo ≤ w.heap.size)
    (h : ∀ A' c' w', OwnG w' lo w'.heap.size (.slice A' (n + m) c') (n + m) (xs ++ ys) → w.grownBy w' (Value.slice A0 n c0).ownBlock → ((Value.slice A' (n + m) c').ownBlock = (Value.slice A0 n c0).ownBlock ∨ (Value.slice A' (n + m) c').ownBlock = some w.heap.size) → StayA A0 (n * 3) w w' → K (a.put o.dst (.slice A' (n + m) c')) w') : o.wp Try.prog a w K Q := by
  obtain ⟨A', c', w', hrun, h2, h3, h4, h5⟩ := run_appG w o.type lo hi n c0 m c A0 A xs ys hown hr hlen hlo
  unfold Oper.wp execOp
  simp only [ho, resolve, invoke, builtin, Sem.run_bind, Sem.run_pure, Result.andThen_ok, List.map_toArray, List.map_cons, List.map_nil, hs, hx, hrun]
  exact h A' c' w' h2 h3 h4 h5
theorem wpList_appI {ops : Array Oper} {rest : List Oper} {o : Oper} {a : Act} {Q : Exit → Act → World → Prop} (hgd : o.guard = none) (s x : Operand)
    (ho : o.op = .call { callee := .builtin .append, args := #[s, x], argTypes := #[25, 25] })
    {lo hi n c0 m c : Nat} {A0 A : Option Addr} {xs ys : List Int} (hs : a.eval s = .slice A0 n c0) (hown : Own w lo hi (.slice A0 n c0) n xs) (hx : a.eval x = .slice A m c) (hr : RI w A m ys)
    (hlen : n + m ≤ 8388608) (hlo : lo ≤ w.heap.size)
    (h : ∀ A' c' w', Own w' lo w'.heap.size (.slice A' (n + m) c') (n + m) (xs ++ ys) → w.grownBy w' (Value.slice A0 n c0).ownBlock → ((Value.slice A' (n + m) c').ownBlock = (Value.slice A0 n c0).ownBlock ∨ (Value.slice A' (n + m) c').ownBlock = some w.heap.size) → StayA A0 n w w' → wpList Try.prog ops Q rest (a.put o.dst (.slice A' (n + m) c')) w') : wpList Try.prog ops Q (o :: rest) a w :=
  wpList_plain hgd fun _ hK => wp_appI w s x ho hs hown hx hr hlen hlo fun A' c' w' h2 h3 h4 h5 => hK _ _ (h A' c' w' h2 h3 h4 h5)
theorem wpList_appG {ops : Array Oper} {rest : List Oper} {o : Oper} {a : Act} {Q : Exit → Act → World → Prop} (hgd : o.guard = none) (s x : Operand)
    (ho : o.op = .call { callee := .builtin .append, args := #[s, x], argTypes := #[24, 24] })
    {lo hi n c0 m c : Nat} {A0 A : Option Addr} {xs ys : List G3} (hs : a.eval s = .slice A0 n c0) (hown : OwnG w lo hi (.slice A0 n c0) n xs) (hx : a.eval x = .slice A m c) (hr : RG w A m ys)
    (hlen : n + m ≤ 8388608) (hlo : lo ≤ w.heap.size)
    (h : ∀ A' c' w', OwnG w' lo w'.heap.size (.slice A' (n + m) c') (n + m) (xs ++ ys) → w.grownBy w' (Value.slice A0 n c0).ownBlock → ((Value.slice A' (n + m) c').ownBlock = (Value.slice A0 n c0).ownBlock ∨ (Value.slice A' (n + m) c').ownBlock = some w.heap.size) → StayA A0 (n * 3) w w' → wpList Try.prog ops Q rest (a.put o.dst (.slice A' (n + m) c')) w') : wpList Try.prog ops Q (o :: rest) a w :=
  wpList_plain hgd fun _ hK => wp_appG w s x ho hs hown hx hr hlen hlo fun A' c' w' h2 h3 h4 h5 => hK _ _ (h A' c' w' h2 h3 h4 h5)
end
theorem below_appG {B : Nat} {a w w' : World} {lo hi n c : Nat} {A : Option Addr} {xs : List G3} (h : Below B a w) (hown : OwnG w lo hi (.slice A n c) n xs) (hg : w.grownBy w' (Value.slice A n c).ownBlock) (hB : B ≤ w.heap.size) (hl : B ≤ lo) : Below B a w' :=
  below_grown h hg hB fun k hk => by have := hown.lt k hk; omega
theorem own_stay {w : World} {lo hi g n c : Nat} {xs : List Int} (h : Own w lo hi (.slice (some ⟨g, 0, none⟩) n c) n xs) : g < w.heap.size := (h.lt g (by simp [Value.ownBlock])).2.2

end Go.Proofs.Ytgenehiiakdadaa
