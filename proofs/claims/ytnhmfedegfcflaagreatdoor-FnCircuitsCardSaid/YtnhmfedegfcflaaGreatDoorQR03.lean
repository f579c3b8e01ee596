/- Contracts of copies of lists and of the keyed digest. Lengths up to 2^21, numbers up to 2^40. -/
import Derived.Test.YtnhmfedegfcflaaGreatDoorQR02
namespace Go.Proofs.YtnhmfedegfcflaaGreatDoor
open Go.RowKit
set_option linter.unusedVariables false
set_option linter.unusedSimpArgs false
section
variable {P : Program} (w : World)
def StayA (A0 : Option Addr) (n : Nat) (w w' : World) : Prop := ∀ b o u, w.cell? ⟨b, o, none⟩ = some u → (∀ g, A0 = some ⟨g, 0, none⟩ → b = g → o < n) → w'.cell? ⟨b, o, none⟩ = some u
theorem StayA.refl_ (A0 : Option Addr) (n : Nat) (w : World) : StayA A0 n w w := fun _ _ _ h _ => h
def RV (w : World) (A : Option Addr) (m size : Nat) (news : List Value) : Prop :=
 news.length = m * size ∧ (0 < m → ∃ ad, A = some ad ∧ ∀ j u, news[j]? = some u → w.cell? (ad.add j) = some u)
theorem run_appV_nil (t ty e : TypeId) (i : TypeInfo) (ht : P.underlying t = some (.slice e)) (hi : P.info? e = some i) (base size n c0 c : Nat) (A0 : Option Addr) (xs : List Value) (hown : w.ownsRow base e size (.slice A0 n c0) n xs) :
 (Builtin.append_ #[t, t] ty #[.slice A0 n c0, .slice none 0 c]).run P w = .ok (.slice A0 n c0) w := by
 rcases hown.2 with ⟨h, rfl⟩ | ⟨g, cap, cur, h, _, _, hnc, _⟩
 ·simp only [Value.slice.injEq] at h
  obtain ⟨rfl, _, rfl⟩ := h
  simp [Builtin.append_, run_underlying ht, sizeOf, typeInfo, hi, Builtin.lenOf, Builtin.firstCells]
 ·simp only [Value.slice.injEq, true_and] at h
  obtain ⟨rfl, rfl⟩ := h
  simp [Builtin.append_, run_underlying ht, sizeOf, typeInfo, hi, Builtin.lenOf, Builtin.firstCells, hnc, storeCells]
theorem run_appV (t ty e : TypeId) (i : TypeInfo) (z : Value) (size bytes : Nat) (ht : P.underlying t = some (.slice e)) (hi : P.info? e = some i) (hz : i.zero = some z) (hsize : i.size = size) (hby : i.bytes = bytes) (hzs : z.cells.size = size) (hsz : 0 < size)
 (base n c0 m c : Nat) (A0 A : Option Addr) (xs news : List Value) (hown : w.ownsRow base e size (.slice A0 n c0) n xs) (hr : RV w A m size news) (h1 : ∀ u ∈ news, u.oneCell' = true)
 (h63 : n + m ≤ maxLen) (hbytes : (n + m) * bytes ≤ 140737488355328) (hbase : base ≤ w.heap.size) :
 ∃ A' c' w', (Builtin.append_ #[t, t] ty #[.slice A0 n c0, .slice A m c]).run P w = .ok (.slice A' (n + m) c') w' ∧ w'.ownsRow base e size (.slice A' (n + m) c') (n + m) (xs ++ news) ∧
  w.grownBy w' (Value.slice A0 n c0).ownBlock ∧ ((Value.slice A' (n + m) c').ownBlock = (Value.slice A0 n c0).ownBlock ∨ (Value.slice A' (n + m) c').ownBlock = some w.heap.size) ∧ StayA A0 (n * size) w w' := by
 have hsmall : n + m ≤ 9223372036854775807 := by simp only [maxLen] at h63; omega
 have hcase : A = none ∧ m = 0 ∨ ∃ ad, A = some ad ∧ ∀ j u, news[j]? = some u → w.cell? (ad.add j) = some u := by
  rcases A with _ | ad
  ·refine .inl ⟨rfl, ?_⟩
   rcases Nat.eq_zero_or_pos m with h0 | h0
   ·exact h0
   ·obtain ⟨ad, h, _⟩ := hr.2 h0
    cases h
  ·refine .inr ⟨ad, rfl, fun j u hu => ?_⟩
   rcases Nat.eq_zero_or_pos m with h0 | h0
   ·subst h0
    have hn : news = [] := List.eq_nil_of_length_eq_zero (by simpa using hr.1)
    subst hn
    simp at hu
   ·obtain ⟨ad', h, hc⟩ := hr.2 h0
    injection h with h
    subst h
    exact hc j u hu
 rcases hcase with ⟨rfl, rfl⟩ | ⟨ad, rfl, hc⟩
 ·have hn : news = [] := List.eq_nil_of_length_eq_zero (by simpa using hr.1)
  subst hn
  exact ⟨A0, c0, w, run_appV_nil w t ty e i ht hi base size n c0 c A0 xs hown, by simpa using hown, World.grownBy.refl w _, .inl rfl, StayA.refl_ _ _ _⟩
 ·obtain ⟨v', w', hrun, h2, h3, _, h5⟩ := run_append_own_at (P := P) w base t ty e i z size bytes ht hi hz hsize hby hzs hsz (.slice A0 n c0) n xs hown ad m c news hr.1 hc h1 h63 hbytes hbase
  have hform : ∃ A' c', v' = .slice A' (n + m) c' := by
   rcases h2.2 with ⟨h, h'⟩ | ⟨g, cap, cur, h, _⟩
   ·exact ⟨none, 0, by rw [h, h']⟩
   ·exact ⟨_, _, h⟩
  obtain ⟨A', c', rfl⟩ := hform
  refine ⟨A', c', w', hrun, h2, h3, h5, fun b o u hu hlt => ?_⟩
  have hbl := World.block_lt_of_cell? w _ hu
  by_cases hb : (Value.slice A0 n c0).ownBlock = some b
  ·rcases hown.2 with ⟨h, _⟩ | ⟨g, cap, cur, h, hbg, hg, hnc, hcm, hcs, htake⟩
   ·rw [h] at hb; simp [Value.ownBlock] at hb
   ·simp only [Value.slice.injEq, true_and] at h
    obtain ⟨rfl, rfl⟩ := h
    have hgb : g = b := by simpa [Value.ownBlock] using hb
    subst hgb
    have ho := hlt g rfl rfl
    have hx : xs[o]? = some u := by
     have := hown.cells (g := g) rfl o (xs[o]'(by rw [hown.1]; exact ho)) (List.getElem?_eq_getElem _)
     rw [Addr.add_lit, Nat.zero_add, hu] at this
     rw [List.getElem?_eq_getElem (by rw [hown.1]; exact ho), ← this]
    by_cases hroom : n + m ≤ c0
    ·have hfit : n * i.size + news.length ≤ cur.size := by rw [hr.1, hcs, ← hsize, ← Nat.add_mul]; exact Nat.mul_le_mul_right _ hroom
     have hr' := run_append_room (P := P) w t ty e i ht hi g n c0 cur hg ad m c news (by rw [hr.1, hsize]) hc h1 hroom hfit
     rw [hrun] at hr'
     simp only [Result.ok.injEq, Value.slice.injEq] at hr'
     obtain ⟨⟨rfl, _, rfl⟩, _⟩ := hr'
     have := h2.cells (g := g) rfl o u (by rw [List.getElem?_append_left (by rw [hown.1]; exact ho)]; exact hx)
     rwa [Addr.add_lit, Nat.zero_add] at this
    ·have holds : ∀ j u, xs[j]? = some u → w.cell? ((⟨g, 0, none⟩ : Addr).add j) = some u := hown.cells (g := g) rfl
     have hr' := run_append_grow (P := P) w t ty e i z ht hi hz ⟨g, 0, none⟩ n c0 xs (by rw [hown.1, hsize]) holds ad m c news (by rw [hr.1, hsize]) hc (by omega) (by omega) (growslice_fits (by omega) (by rw [hby]; exact hbytes))
     rw [hrun] at hr'
     simp only [Result.ok.injEq] at hr'
     rw [hr'.2]
     exact (World.cell?_alloc_lt w.drew _ _ (by simpa using hbl)).trans hu
  ·rw [← hu]
   exact World.cell?_of_block (w := w) (a := ⟨b, o, none⟩) (h3.block b hbl (fun e => hb e.symm))
end
theorem RV_of_RI {w : World} {A : Option Addr} {m : Nat} {ys : List Int} (h : RI w A m ys) : RV w A m 1 (ys.map (Value.int .i64)) := by
 refine ⟨by simp [h.len], fun hm => ?_⟩
 obtain ⟨b, o, rfl, _, hc⟩ := h.2 hm
 refine ⟨_, rfl, fun j u hu => ?_⟩
 have hl := h.len
 have hj : j < ys.length := by
  rcases Nat.lt_or_ge j ys.length with h | h
  ·exact h
  ·rw [List.getElem?_eq_none (by simpa using h)] at hu; cases hu
 rw [addr_add, hc j (by omega), gi_lt hj]
 rw [List.getElem?_map, List.getElem?_eq_getElem hj] at hu
 exact hu
theorem RV_of_RG {w : World} {A : Option Addr} {m : Nat} {gs : List G3} (h : RG w A m gs) : RV w A m 3 (gcells gs) := by
 refine ⟨by rw [gcells_len, h.len], fun hm => ?_⟩
 obtain ⟨b, o, rfl, _, hc⟩ := h.2 hm
 refine ⟨_, rfl, fun j u hu => ?_⟩
 have hl := h.len
 have hj : j < (gcells gs).length := by
  rcases Nat.lt_or_ge j (gcells gs).length with h | h
  ·exact h
  ·rw [List.getElem?_eq_none h] at hu; cases hu
 rw [gcells_len] at hj
 rw [addr_add]
 obtain ⟨q0, q1, q2⟩ := gcells_at gs (j / 3) (by omega)
 obtain ⟨c0, c1, c2⟩ := hc (j / 3) (by omega)
 have hm3 : j % 3 = 0 ∨ j % 3 = 1 ∨ j % 3 = 2 := by omega
 rcases hm3 with h3 | h3 | h3
 ·have hjj : j / 3 * 3 = j := by omega
  rw [hjj, hu] at q0
  rw [hjj] at c0
  rw [c0, q0]
 ·have hjj : j / 3 * 3 + 1 = j := by omega
  rw [hjj, hu] at q1
  rw [Nat.add_assoc, hjj] at c1
  rw [c1, q1]
 ·have hjj : j / 3 * 3 + 2 = j := by omega
  rw [hjj, hu] at q2
  rw [Nat.add_assoc, hjj] at c2
  rw [c2, q2]
theorem gcells_one (gs : List G3) : ∀ u ∈ gcells gs, u.oneCell' = true := by
 intro u hu
 simp only [gcells, List.mem_flatMap, List.mem_cons, List.not_mem_nil, or_false] at hu
 obtain ⟨g, _, rfl | rfl | rfl⟩ := hu <;> rfl
theorem gcells_append (gs hs : List G3) : gcells (gs ++ hs) = gcells gs ++ gcells hs := by simp [gcells]
section
variable (w : World)
theorem run_appI (ty : TypeId) (lo hi n c0 m c : Nat) (A0 A : Option Addr) (xs ys : List Int) (hown : Own w lo hi (.slice A0 n c0) n xs) (hr : RI w A m ys) (hlen : n + m ≤ 8388608) (hlo : lo ≤ w.heap.size) :
 ∃ A' c' w', (Builtin.append_ #[25, 25] ty #[.slice A0 n c0, .slice A m c]).run Tryz.prog w = .ok (.slice A' (n + m) c') w' ∧
  Own w' lo w'.heap.size (.slice A' (n + m) c') (n + m) (xs ++ ys) ∧ w.grownBy w' (Value.slice A0 n c0).ownBlock ∧
  ((Value.slice A' (n + m) c').ownBlock = (Value.slice A0 n c0).ownBlock ∨ (Value.slice A' (n + m) c').ownBlock = some w.heap.size) ∧ StayA A0 n w w' := by
 obtain ⟨i, hi0, hz0, hz1, hz2⟩ := info_parts info_int
 obtain ⟨A', c', w', hrun, h2, h3, h4, h5⟩ := run_appV (P := Tryz.prog) w 25 ty 3 i (.int .i64 0) 1 8 Tryz.underlying25 hi0 hz0 hz1 hz2 rfl (by decide) lo n c0 m c A0 A _ _ hown.1 (RV_of_RI hr) (ints_one ys) (by unfold maxLen; omega) (by omega) hlo
 rw [← List.map_append] at h2
 rw [Nat.mul_one] at h5
 exact ⟨A', c', w', hrun, Own.mk_ h2, h3, h4, h5⟩
theorem wp_appI {o : Oper} {a : Act} {K : Act → World → Prop} {Q : Exit → Act → World → Prop} (s x : Operand)
 (ho : o.op = .call { callee := .builtin .append, args := #[s, x], argTypes := #[25, 25] })
 {lo hi n c0 m c : Nat} {A0 A : Option Addr} {xs ys : List Int} (hs : a.eval s = .slice A0 n c0) (hown : Own w lo hi (.slice A0 n c0) n xs) (hx : a.eval x = .slice A m c) (hr : RI w A m ys)
 (hlen : n + m ≤ 8388608) (hlo : lo ≤ w.heap.size)
 (h : ∀ A' c' w', Own w' lo w'.heap.size (.slice A' (n + m) c') (n + m) (xs ++ ys) → w.grownBy w' (Value.slice A0 n c0).ownBlock → ((Value.slice A' (n + m) c').ownBlock = (Value.slice A0 n c0).ownBlock ∨ (Value.slice A' (n + m) c').ownBlock = some w.heap.size) → StayA A0 n w w' → K (a.put o.dst (.slice A' (n + m) c')) w') : o.wp Tryz.prog a w K Q := by
 obtain ⟨A', c', w', hrun, h2, h3, h4, h5⟩ := run_appI w o.type lo hi n c0 m c A0 A xs ys hown hr hlen hlo
 unfold Oper.wp execOp
 simp only [ho, resolve, invoke, builtin, Sem.run_bind, Sem.run_pure, Result.andThen_ok, List.map_toArray, List.map_cons, List.map_nil, hs, hx, hrun]
 exact h A' c' w' h2 h3 h4 h5
theorem step_appI {ops : Array Oper} {o : Oper} {a : Act} {K : Act → World → Prop} {Q : Exit → Act → World → Prop} {E : Prop} (hgd : o.guard = none) (s x : Operand)
 (ho : o.op = .call { callee := .builtin .append, args := #[s, x], argTypes := #[25, 25] })
 {lo hi n c0 m c : Nat} {A0 A : Option Addr} {xs ys : List Int} (hs : a.eval s = .slice A0 n c0) (hown : Own w lo hi (.slice A0 n c0) n xs) (hx : a.eval x = .slice A m c) (hr : RI w A m ys)
 (hlen : n + m ≤ 8388608) (hlo : lo ≤ w.heap.size)
 (h : ∀ A' c' w', Own w' lo w'.heap.size (.slice A' (n + m) c') (n + m) (xs ++ ys) → w.grownBy w' (Value.slice A0 n c0).ownBlock → ((Value.slice A' (n + m) c').ownBlock = (Value.slice A0 n c0).ownBlock ∨ (Value.slice A' (n + m) c').ownBlock = some w.heap.size) → StayA A0 n w w' → K (a.put o.dst (.slice A' (n + m) c')) w') :
 if Region.wanted o (yielded ops a.tmps) = true then Oper.wp Tryz.prog o a w K Q else E := by
 have hw : Region.wanted o (yielded ops a.tmps) = true := by simp [Region.wanted, hgd]
 rw [if_pos hw]
 exact wp_appI w s x ho hs hown hx hr hlen hlo h
theorem info_gateI : (Tryz.prog.info? 49).map (fun i => (i.zero, i.size, i.bytes)) = some (some (.agg #[.int .i64 0, .int .i64 0, .int .i64 0]), 3, 24) := by kernel_rfl
theorem run_appG (ty : TypeId) (lo hi n c0 m c : Nat) (A0 A : Option Addr) (xs ys : List G3) (hown : OwnG w lo hi (.slice A0 n c0) n xs) (hr : RG w A m ys) (hlen : n + m ≤ 8388608) (hlo : lo ≤ w.heap.size) :
 ∃ A' c' w', (Builtin.append_ #[24, 24] ty #[.slice A0 n c0, .slice A m c]).run Tryz.prog w = .ok (.slice A' (n + m) c') w' ∧
  OwnG w' lo w'.heap.size (.slice A' (n + m) c') (n + m) (xs ++ ys) ∧ w.grownBy w' (Value.slice A0 n c0).ownBlock ∧
  ((Value.slice A' (n + m) c').ownBlock = (Value.slice A0 n c0).ownBlock ∨ (Value.slice A' (n + m) c').ownBlock = some w.heap.size) ∧ StayA A0 (n * 3) w w' := by
 obtain ⟨i, hi0, hz0, hz1, hz2⟩ := info_parts info_gateI
 obtain ⟨A', c', w', hrun, h2, h3, h4, h5⟩ := run_appV (P := Tryz.prog) w 24 ty 49 i _ 3 24 Tryz.underlying24 hi0 hz0 hz1 hz2 rfl (by decide) lo n c0 m c A0 A _ _ hown.1 (RV_of_RG hr) (gcells_one ys) (by unfold maxLen; omega) (by omega) hlo
 rw [← gcells_append] at h2
 exact ⟨A', c', w', hrun, OwnG.mk_ h2, h3, h4, h5⟩
theorem wp_appG {o : Oper} {a : Act} {K : Act → World → Prop} {Q : Exit → Act → World → Prop} (s x : Operand)
 (ho : o.op = .call { callee := .builtin .append, args := #[s, x], argTypes := #[24, 24] })
 {lo hi n c0 m c : Nat} {A0 A : Option Addr} {xs ys : List G3} (hs : a.eval s = .slice A0 n c0) (hown : OwnG w lo hi (.slice A0 n c0) n xs) (hx : a.eval x = .slice A m c) (hr : RG w A m ys)
 (hlen : n + m ≤ 8388608) (hlo : lo ≤ w.heap.size)
 (h : ∀ A' c' w', OwnG w' lo w'.heap.size (.slice A' (n + m) c') (n + m) (xs ++ ys) → w.grownBy w' (Value.slice A0 n c0).ownBlock → ((Value.slice A' (n + m) c').ownBlock = (Value.slice A0 n c0).ownBlock ∨ (Value.slice A' (n + m) c').ownBlock = some w.heap.size) → StayA A0 (n * 3) w w' → K (a.put o.dst (.slice A' (n + m) c')) w') : o.wp Tryz.prog a w K Q := by
 obtain ⟨A', c', w', hrun, h2, h3, h4, h5⟩ := run_appG w o.type lo hi n c0 m c A0 A xs ys hown hr hlen hlo
 unfold Oper.wp execOp
 simp only [ho, resolve, invoke, builtin, Sem.run_bind, Sem.run_pure, Result.andThen_ok, List.map_toArray, List.map_cons, List.map_nil, hs, hx, hrun]
 exact h A' c' w' h2 h3 h4 h5
theorem Zbn {ops : Array Oper} {rest : List Oper} {o : Oper} {a : Act} {Q : Exit → Act → World → Prop} (hgd : o.guard = none) (s x : Operand)
 (ho : o.op = .call { callee := .builtin .append, args := #[s, x], argTypes := #[25, 25] })
 {lo hi n c0 m c : Nat} {A0 A : Option Addr} {xs ys : List Int} (hs : a.eval s = .slice A0 n c0) (hown : Own w lo hi (.slice A0 n c0) n xs) (hx : a.eval x = .slice A m c) (hr : RI w A m ys)
 (hlen : n + m ≤ 8388608) (hlo : lo ≤ w.heap.size)
 (h : ∀ A' c' w', Own w' lo w'.heap.size (.slice A' (n + m) c') (n + m) (xs ++ ys) → w.grownBy w' (Value.slice A0 n c0).ownBlock → ((Value.slice A' (n + m) c').ownBlock = (Value.slice A0 n c0).ownBlock ∨ (Value.slice A' (n + m) c').ownBlock = some w.heap.size) → StayA A0 n w w' → wpList Tryz.prog ops Q rest (a.put o.dst (.slice A' (n + m) c')) w') : wpList Tryz.prog ops Q (o :: rest) a w :=
 wpList_plain hgd fun _ hK => wp_appI w s x ho hs hown hx hr hlen hlo fun A' c' w' h2 h3 h4 h5 => hK _ _ (h A' c' w' h2 h3 h4 h5)
theorem Zbi {ops : Array Oper} {rest : List Oper} {o : Oper} {a : Act} {Q : Exit → Act → World → Prop} (hgd : o.guard = none) (s x : Operand)
 (ho : o.op = .call { callee := .builtin .append, args := #[s, x], argTypes := #[24, 24] })
 {lo hi n c0 m c : Nat} {A0 A : Option Addr} {xs ys : List G3} (hs : a.eval s = .slice A0 n c0) (hown : OwnG w lo hi (.slice A0 n c0) n xs) (hx : a.eval x = .slice A m c) (hr : RG w A m ys)
 (hlen : n + m ≤ 8388608) (hlo : lo ≤ w.heap.size)
 (h : ∀ A' c' w', OwnG w' lo w'.heap.size (.slice A' (n + m) c') (n + m) (xs ++ ys) → w.grownBy w' (Value.slice A0 n c0).ownBlock → ((Value.slice A' (n + m) c').ownBlock = (Value.slice A0 n c0).ownBlock ∨ (Value.slice A' (n + m) c').ownBlock = some w.heap.size) → StayA A0 (n * 3) w w' → wpList Tryz.prog ops Q rest (a.put o.dst (.slice A' (n + m) c')) w') : wpList Tryz.prog ops Q (o :: rest) a w :=
 wpList_plain hgd fun _ hK => wp_appG w s x ho hs hown hx hr hlen hlo fun A' c' w' h2 h3 h4 h5 => hK _ _ (h A' c' w' h2 h3 h4 h5)
end
theorem Zcn {B : Nat} {a w w' : World} {lo hi n c : Nat} {A : Option Addr} {xs : List G3} (h : Below B a w) (hown : OwnG w lo hi (.slice A n c) n xs) (hg : w.grownBy w' (Value.slice A n c).ownBlock) (hB : B ≤ w.heap.size) (hl : B ≤ lo) : Below B a w' :=
 below_grown h hg hB fun k hk => by have := hown.lt k hk; omega
section
variable {w w' : World} {b : Nat} {x y : Int} {Ag A' : Option Addr} {ng cg n' c' : Nat} {Ao : Option Addr} {no co : Nat}
theorem BxC.setG (h : BxC w b x y Ag ng cg Ao no co) (A' : Option Addr) (n' c' : Nat) : BxC (w.setCell ⟨b, 2, none⟩ (.slice A' n' c')) b x y A' n' c' Ao no co :=
 ⟨(World.cell?_setCell_other _ _ _ _ (by simp)).trans h.1, (World.cell?_setCell_other _ _ _ _ (by simp)).trans h.2.1, World.cell?_setCell_same _ _ _ h.2.2.1, (World.cell?_setCell_other _ _ _ _ (by simp)).trans h.2.2.2⟩
theorem BxC.setO (h : BxC w b x y Ag ng cg Ao no co) (A' : Option Addr) (n' c' : Nat) : BxC (w.setCell ⟨b, 3, none⟩ (.slice A' n' c')) b x y Ag ng cg A' n' c' :=
 ⟨(World.cell?_setCell_other _ _ _ _ (by simp)).trans h.1, (World.cell?_setCell_other _ _ _ _ (by simp)).trans h.2.1, (World.cell?_setCell_other _ _ _ _ (by simp)).trans h.2.2.1, World.cell?_setCell_same _ _ _ h.2.2.2⟩
theorem BxC.set4 {x0 y0 : Int} {Ag0 : Option Addr} {ng0 cg0 : Nat} {Ao0 : Option Addr} {no0 co0 : Nat} (h : BxC w b x0 y0 Ag0 ng0 cg0 Ao0 no0 co0) (x y : Int) (Ag : Option Addr) (ng cg : Nat) (Ao : Option Addr) (no co : Nat) :
 BxC ((((w.setCell ⟨b, 0, none⟩ (.int .i64 x)).setCell ⟨b, 1, none⟩ (.int .i64 y)).setCell ⟨b, 2, none⟩ (.slice Ag ng cg)).setCell ⟨b, 3, none⟩ (.slice Ao no co)) b x y Ag ng cg Ao no co := by
 have h1 : BxC (w.setCell ⟨b, 0, none⟩ (.int .i64 x)) b x y0 Ag0 ng0 cg0 Ao0 no0 co0 := ⟨World.cell?_setCell_same _ _ _ h.1, (World.cell?_setCell_other _ _ _ _ (by simp)).trans h.2.1, (World.cell?_setCell_other _ _ _ _ (by simp)).trans h.2.2.1, (World.cell?_setCell_other _ _ _ _ (by simp)).trans h.2.2.2⟩
 have h2 : BxC ((w.setCell ⟨b, 0, none⟩ (.int .i64 x)).setCell ⟨b, 1, none⟩ (.int .i64 y)) b x y Ag0 ng0 cg0 Ao0 no0 co0 := ⟨(World.cell?_setCell_other _ _ _ _ (by simp)).trans h1.1, World.cell?_setCell_same _ _ _ h1.2.1, (World.cell?_setCell_other _ _ _ _ (by simp)).trans h1.2.2.1, (World.cell?_setCell_other _ _ _ _ (by simp)).trans h1.2.2.2⟩
 exact (h2.setG Ag ng cg).setO Ao no co
theorem Zan {B : Nat} {a : World} (h : Below B a w) (hB : B ≤ b) (x y : Int) (Ag : Option Addr) (ng cg : Nat) (Ao : Option Addr) (no co : Nat) :
 Below B a ((((w.setCell ⟨b, 0, none⟩ (.int .i64 x)).setCell ⟨b, 1, none⟩ (.int .i64 y)).setCell ⟨b, 2, none⟩ (.slice Ag ng cg)).setCell ⟨b, 3, none⟩ (.slice Ao no co)) :=
 (((h.setCell (p := ⟨b, 0, none⟩) hB _).setCell (p := ⟨b, 1, none⟩) hB _).setCell (p := ⟨b, 2, none⟩) hB _).setCell (p := ⟨b, 3, none⟩) hB _
theorem OwnC.set4 {lo hi : Nat} {A1 : Option Addr} {n1 c1 : Nat} {A2 : Option Addr} {n2 c2 : Nat} {gs : List G3} {os : List Int} (h : OwnC w lo hi A1 n1 c1 A2 n2 c2 gs os) (hb : b < lo ∨ hi ≤ b) (x y : Int) (Ag : Option Addr) (ng cg : Nat) (Ao : Option Addr) (no co : Nat) :
 OwnC ((((w.setCell ⟨b, 0, none⟩ (.int .i64 x)).setCell ⟨b, 1, none⟩ (.int .i64 y)).setCell ⟨b, 2, none⟩ (.slice Ag ng cg)).setCell ⟨b, 3, none⟩ (.slice Ao no co)) lo hi A1 n1 c1 A2 n2 c2 gs os :=
 (((h.far ⟨b, 0, none⟩ _ hb).far ⟨b, 1, none⟩ _ hb).far ⟨b, 2, none⟩ _ hb).far ⟨b, 3, none⟩ _ hb
theorem Zbr (x y : Int) (Ag : Option Addr) (ng cg : Nat) (Ao : Option Addr) (no co : Nat) :
 ((((w.setCell ⟨b, 0, none⟩ (.int .i64 x)).setCell ⟨b, 1, none⟩ (.int .i64 y)).setCell ⟨b, 2, none⟩ (.slice Ag ng cg)).setCell ⟨b, 3, none⟩ (.slice Ao no co)).heap.size = w.heap.size := by simp
end
theorem RG_new1 (w : World) (k a b : Int) (t : TypeId) : RG (w.alloc (.cells #[.int .i64 k, .int .i64 a, .int .i64 b] t)) (some ⟨w.heap.size, 0, none⟩) 1 [⟨k, a, b⟩] := by
 refine ⟨rfl, fun _ => ⟨w.heap.size, 0, rfl, by simp, fun j hj => ?_⟩⟩
 obtain rfl : j = 0 := by omega
 exact ⟨Zal w _ 0 _ rfl, Zal w _ 1 _ rfl, Zal w _ 2 _ rfl⟩
theorem OwnG.far1 {w : World} {lo hi n : Nat} {v : Value} {xs : List G3} (h : OwnG w lo hi v n xs) (p : Addr) (u : Value) (hp : v.ownBlock ≠ some p.block) : OwnG (w.setCell p u) lo hi v n xs := by
 refine ⟨⟨h.1.1, ?_⟩, h.2⟩
 rcases h.1.2 with h1 | ⟨g, cap, cur, rfl, hlo, hg, r⟩
 ·exact .inl h1
 ·refine .inr ⟨g, cap, cur, rfl, hlo, ?_, r⟩
  have hne : g ≠ p.block := fun hc => hp (by simp [Value.ownBlock, hc])
  rw [Below.heap_setCell w p u g hne]; exact hg
theorem cell_on {w w' : World} {B : Nat} {p : Addr} {v : Value} (hb : Below B w w') (h : w.cell? p = some v) (hB : w.heap.size ≤ B) : w'.cell? p = some v :=
 (hb.cell (Nat.lt_of_lt_of_le (World.block_lt_of_cell? w _ h) hB)).trans h
theorem Zae {w w' : World} {p : Addr} {v : Value} (h : w.cell? p = some v) (hb : Below w.heap.size w w') : w'.cell? p = some v := cell_on hb h lR
theorem Zbj (w : World) (x : Int) (t : TypeId) (g : Nat) (hg : w.heap.size = g) : RI (w.alloc (.cells #[.int .i64 x] t)) (some ⟨g, 0, none⟩) 1 [x] := by
 subst hg; exact RI_new1 w x t
theorem gi_append_lt {xs ys : List Int} {j : Nat} (h : j < xs.length) : gi (xs ++ ys) j = gi xs j := by
 unfold gi; rw [List.getD_eq_getElem?_getD, List.getD_eq_getElem?_getD, List.getElem?_append_left h]
theorem gi_append_at {xs : List Int} {x : Int} : gi (xs ++ [x]) xs.length = x := by
 unfold gi; rw [List.getD_eq_getElem?_getD, List.getElem?_append_right lR]; simp
theorem allB_append {lo hi : Int} {xs ys : List Int} : allB lo hi (xs ++ ys) = (allB lo hi xs && allB lo hi ys) := by simp [allB]
theorem allB_snoc {lo hi x : Int} {xs : List Int} (h : allB lo hi xs = true) (hx : lo ≤ x ∧ x ≤ hi) : allB lo hi (xs ++ [x]) = true := by
 rw [allB_append, h]; simp [allB, inB_t hx]
def band (a b : Int) : Int := bits .and .i64 a b
theorem band_bd {a b : Int} (ha : 0 ≤ a ∧ a ≤ 1) (hb : 0 ≤ b ∧ b ≤ 1) : 0 ≤ band a b ∧ band a b ≤ 1 := by
 rcases (show a = 0 ∨ a = 1 by omega) with rfl | rfl <;> rcases (show b = 0 ∨ b = 1 by omega) with rfl | rfl <;> decide
inductive GateIs (g : G3) (n : Int) : Prop where
 | xor_ : g.k = 0 → 0 ≤ g.a → g.a < n → 0 ≤ g.b → g.b < n → GateIs g n
 | and_ : g.k = 1 → 0 ≤ g.a → g.a < n → 0 ≤ g.b → g.b < n → GateIs g n
 | not_ : g.k = 2 → 0 ≤ g.a → g.a < n → g.b = 0 → GateIs g n
 | one_ : g.k = 3 → g.a = 0 → g.b = 0 → GateIs g n
theorem gateB_is {g : G3} {n : Int} (h : gateB g n = true) : GateIs g n := by
 unfold gateB at h
 split at h
 ·rename_i hk
  simp only [Bool.and_eq_true, inB_iff] at h
  rcases hk with hk | hk
  ·exact .xor_ hk (by omega) (by omega) (by omega) (by omega)
  ·exact .and_ hk (by omega) (by omega) (by omega) (by omega)
 ·split at h
  ·rename_i hk
   simp only [Bool.and_eq_true, inB_iff, decide_eq_true_eq] at h
   exact .not_ hk (by omega) (by omega) h.2
  ·simp only [Bool.and_eq_true, decide_eq_true_eq] at h
   exact .one_ h.1 h.2.1 h.2.2
theorem Zbx {n : Int} {gs : List G3} {k m : Nat} (h : gatesB n gs m = true) (hk : k < m) : GateIs (gg gs k) (n + k) :=
 gateB_is (List.all_eq_true.1 h k (List.mem_range.2 hk))
theorem Zao {x y : Int} {gs : List G3} {os : List Int} (h : circB x y gs os = true) :
 (0 ≤ x ∧ x ≤ 20) ∧ (0 ≤ y ∧ y ≤ 20) ∧ gs.length ≤ 300 ∧ os.length ≤ 40 ∧ gatesB (x + y) gs gs.length = true ∧ allB 0 (x + y + gs.length - 1) os = true := by
 simp only [circB, Bool.and_eq_true, inB_iff, decide_eq_true_eq] at h
 exact ⟨h.1, h.2.1, h.2.2.1, h.2.2.2.1, h.2.2.2.2.1, h.2.2.2.2.2⟩
def gval (g : G3) (out : List Int) : Int :=
 if g.k = 0 then bxor (gi out g.a.toNat) (gi out g.b.toNat) else if g.k = 1 then band (gi out g.a.toNat) (gi out g.b.toNat) else if g.k = 2 then 1 - gi out g.a.toNat else 1
def vals (gs : List G3) (inp : List Int) : Nat → List Int
 | 0 => inp
 | k + 1 => vals gs inp k ++ [gval (gg gs k) (vals gs inp k)]
theorem Zbm (gs : List G3) (inp : List Int) (k : Nat) : (vals gs inp k).length = inp.length + k := by
 induction k with
 | zero => rfl
 | succ k ih => simp [vals, ih]; omega
theorem Zcc (gs : List G3) (inp : List Int) (k : Nat) : vals gs inp (k + 1) = vals gs inp k ++ [gval (gg gs k) (vals gs inp k)] := rfl
theorem gval_bd {g : G3} {n : Nat} {out : List Int} (h : GateIs g n) (hn : out.length = n) (ho : allB 0 1 out = true) : 0 ≤ gval g out ∧ gval g out ≤ 1 := by
 cases h with
 | xor_ hk a1 a2 b1 b2 =>
  rw [gval, if_pos hk]
  exact bxor_bd (Zbv ho (by omega)) (Zbv ho (by omega))
 | and_ hk a1 a2 b1 b2 =>
  rw [gval, if_neg (by omega), if_pos hk]
  exact band_bd (Zbv ho (by omega)) (Zbv ho (by omega))
 | not_ hk a1 a2 b1 =>
  rw [gval, if_neg (by omega), if_neg (by omega), if_pos hk]
  have := Zbv ho (j := g.a.toNat) (by omega)
  omega
 | one_ hk a1 b1 =>
  rw [gval, if_neg (by omega), if_neg (by omega), if_neg (by omega)]
  omega
theorem vals_bd {gs : List G3} {inp : List Int} {n : Int} (hn : (inp.length : Int) = n) (hi : allB 0 1 inp = true) : ∀ k m, k ≤ m → gatesB n gs m = true → allB 0 1 (vals gs inp k) = true := by
 intro k
 induction k with
 | zero => intro m _ _; exact hi
 | succ k ih =>
  intro m hk hg
  have h1 := ih m (by omega) hg
  rw [Zcc]
  refine allB_snoc h1 (gval_bd (n := inp.length + k) ?_ (Zbm _ _ _) h1)
  have := Zbx hg (k := k) (by omega)
  rwa [← hn, show ((inp.length : Int) + k) = ((inp.length + k : Nat) : Int) from by omega] at this
def pick (l os : List Int) : List Int := os.map fun o => gi l o.toNat
theorem Zbs (l os : List Int) : (pick l os).length = os.length := by simp [pick]
theorem gi_map {os : List Int} {f : Int → Int} {k : Nat} (h : k < os.length) : gi (os.map f) k = f (gi os k) := by simp [gi, h]
theorem pick_tab {l os : List Int} {n : Nat} (h : os.length = n) : pick l os = tab n fun i => gi l (gi os i).toNat := by
 subst h
 exact gi_eq (by simp [pick, Zbz]) fun j hj => by
  have hj' : j < os.length := by simpa [pick] using hj
  rw [pick, gi_map hj', gi_tab hj']
def dstep (a x : Int) : Int := ((25214 * a + x + 17) % 1000003) * (((25214 * a + x + 17) % 1000003) / 64 + 5) % 1000003
def dfold (a : Int) (l : List Int) : Int := l.foldl dstep a
def dg (l : List Int) : Int := dfold (40503 + l.length) (l ++ [8, 1]) % 65536
theorem Clone_any (A : Option Addr) (n c : Nat) (xs : List Int) (w : World) (ha : RI w A n xs) (hn : n ≤ 2097152) :
 Calls Tryz.prog 75 #[.slice A n c] w fun e w' => ∃ A' c', e = .returned (.slice A' n c') ∧ Own w' w.heap.size w'.heap.size (.slice A' n c') n xs ∧ Below w.heap.size w w' := by
 have hl := ha.len
 rcases A with _ | ad
 ·have h0 : n = 0 := by
   rcases Nat.eq_zero_or_pos n with h | h
   ·exact h
   ·obtain ⟨b, o, h', _⟩ := ha.2 h
    cases h'
  subst h0
  obtain rfl : xs = [] := List.eq_nil_of_length_eq_zero hl
  have he := fun W => Lib.run_eql_slice_nil (P := Tryz.prog) W (t := 25) (e := 3) none 0 c 0 0 Tryz.underlying25
  go_enter Tryz.func75, Tryz.ntmps75
  go_wp2
  go_ret
  exact ⟨_, _, rfl, Own.none_ _ _ _, Below.refl _ _⟩
 ·have he := fun W => Lib.run_eql_slice_nil (P := Tryz.prog) W (t := 25) (e := 3) (some ad) n c 0 0 Tryz.underlying25
  have hB : Below w.heap.size w (w.alloc (.cells #[] 3)) := bA
  have h0 := Zcu w w.heap.size lR
  go_enter Tryz.func75, Tryz.ntmps75
  go_wp2_with (at_builtin; refine Zaw _ rfl _ _ rfl rfl h0 rfl (ha.alloc _) (by omega) (by simp) ?_; intro A' c' w1 hown hg hat)
  simp only [Nat.zero_add, List.nil_append] at hown
  go_wp2
  go_ret
  exact ⟨_, _, by simp, hown, Zar hB h0 hg (by simp) lR⟩
theorem l1Own_any (A : Option Addr) (n c : Nat) (xs : List Int) (w : World) (ha : RI w A n xs) (hn : n ≤ 2097152) :
 Calls Tryz.prog 68 #[.slice A n c] w fun e w' => ∃ A' c', e = .returned (.slice A' n c') ∧ Own w' w.heap.size w'.heap.size (.slice A' n c') n xs ∧ Below w.heap.size w w' := by
 have hl := ha.len
 have hB : Below w.heap.size w (w.alloc (.cells #[] 3)) := bA
 have h0 := Zcu w w.heap.size lR
 go_enter Tryz.func68, Tryz.ntmps68
 go_wp2_with (at_builtin; refine Zaw _ rfl _ _ rfl rfl h0 rfl (ha.alloc _) (by omega) (by simp) ?_; intro A' c' w1 hown hg hat)
 simp only [Nat.zero_add, List.nil_append] at hown
 go_wp2
 go_ret
 exact ⟨_, _, by simp, hown, Zar hB h0 hg (by simp) lR⟩
theorem with_any (A B : Option Addr) (n c m d : Nat) (xs ys : List Int) (w : World) (ha : RI w A n xs) (hb : RI w B m ys) (hn : n ≤ 2097152) (hm : m ≤ 2097152) :
 Calls Tryz.prog 37 #[.slice A n c, .slice B m d] w fun e w' => ∃ A' c', e = .returned (.slice A' (n + m) c') ∧ Own w' w.heap.size w'.heap.size (.slice A' (n + m) c') (n + m) (xs ++ ys) ∧ Below w.heap.size w w' := by
 have hl := ha.len
 go_enter Tryz.func37, Tryz.ntmps37
 go_wp2_with fail
 refine (Clone_any _ _ _ _ _ ha hn).mono ?_
 rintro e w1 ⟨A1, c1, rfl, hown1, hb1⟩
 have hz := hb1.size
 go_wp2_with (at_builtin; refine Zaw _ rfl _ _ rfl rfl hown1 rfl (hb.below hb1 lR) (by omega) hz ?_; intro A' c' w2 hown hg hat)
 go_wp2
 go_ret
 exact ⟨_, _, rfl, hown, Zar hb1 hown1 hg hz lR⟩
end Go.Proofs.YtnhmfedegfcflaaGreatDoor
