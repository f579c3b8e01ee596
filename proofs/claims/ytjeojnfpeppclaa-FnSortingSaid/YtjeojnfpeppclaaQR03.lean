/- The gadgets' gates and outs; no program in sight. -/
import Derived.Test.YtjeojnfpeppclaaQR02
namespace Go.Proofs.Ytjeojnfpeppclaa
open Go.RowKit
set_option linter.unusedVariables false
set_option linter.unusedSimpArgs false
section
variable {P : Program} (w : World)
def StayA (A0 : Option Addr) (n : Nat) (w w' : World) : Prop := ∀ b o u, w.cell? ⟨b, o, none⟩ = some u → (∀ g, A0 = some ⟨g, 0, none⟩ → b = g → o < n) → w'.cell? ⟨b, o, none⟩ = some u
theorem StayA.refl_ (A0 : Option Addr) (n : Nat) (w : World) : StayA A0 n w w := fun _ _ _ h _ => h
def RV (w : World) (A : Option Addr) (m size : Nat) (news : List Value) : Prop :=
 news.length = m * size ∧ (0 < m → ∃ ad, A = some ad ∧ ∀ j u, news[j]? = some u → w.cell? (ad.add j) = some u)
theorem run_appV_nil (t ty e : TypeId) (i : TypeInfo) (ht : P.underlying t = some (.slice e)) (hi : P.info? e = some i) (base size n c0 c : Nat) (A0 : Option Addr) (xs : List Value) (hown : w.ownsRow base e size (.slice A0 n c0) n xs) :
 (Builtin.append_ #[t, t] ty #[.slice A0 n c0, .slice none 0 c]).run P w = .ok (.slice A0 n c0) w := by
 rcases hown.2 with ⟨h, rfl⟩ | ⟨g, cap, cur, h, _, _, hnc, _⟩
 ·simp only [Value.slice.injEq] at h
  obtain ⟨rfl, _, rfl⟩ := h
  simp [Builtin.append_, run_underlying ht, sizeOf, typeInfo, hi, Builtin.lenOf, Builtin.firstCells]
 ·simp only [Value.slice.injEq, true_and] at h
  obtain ⟨rfl, rfl⟩ := h
  simp [Builtin.append_, run_underlying ht, sizeOf, typeInfo, hi, Builtin.lenOf, Builtin.firstCells, hnc, storeCells]
theorem run_appV (t ty e : TypeId) (i : TypeInfo) (z : Value) (size bytes : Nat) (ht : P.underlying t = some (.slice e)) (hi : P.info? e = some i) (hz : i.zero = some z) (hsize : i.size = size) (hby : i.bytes = bytes) (hzs : z.cells.size = size) (hsz : 0 < size)
 (base n c0 m c : Nat) (A0 A : Option Addr) (xs news : List Value) (hown : w.ownsRow base e size (.slice A0 n c0) n xs) (hr : RV w A m size news) (h1 : ∀ u ∈ news, u.oneCell' = true)
 (h63 : n + m ≤ maxLen) (hbytes : (n + m) * bytes ≤ 140737488355328) (hbase : base ≤ w.heap.size) :
 ∃ A' c' w', (Builtin.append_ #[t, t] ty #[.slice A0 n c0, .slice A m c]).run P w = .ok (.slice A' (n + m) c') w' ∧ w'.ownsRow base e size (.slice A' (n + m) c') (n + m) (xs ++ news) ∧
  w.grownBy w' (Value.slice A0 n c0).ownBlock ∧ ((Value.slice A' (n + m) c').ownBlock = (Value.slice A0 n c0).ownBlock ∨ (Value.slice A' (n + m) c').ownBlock = some w.heap.size) ∧ StayA A0 (n * size) w w' := by
 have hsmall : n + m ≤ 9223372036854775807 := by simp only [maxLen] at h63; omega
 have hcase : A = none ∧ m = 0 ∨ ∃ ad, A = some ad ∧ ∀ j u, news[j]? = some u → w.cell? (ad.add j) = some u := by
  rcases A with _ | ad
  ·refine .inl ⟨rfl, ?_⟩
   rcases Nat.eq_zero_or_pos m with h0 | h0
   ·exact h0
   ·obtain ⟨ad, h, _⟩ := hr.2 h0
    cases h
  ·refine .inr ⟨ad, rfl, fun j u hu => ?_⟩
   rcases Nat.eq_zero_or_pos m with h0 | h0
   ·subst h0
    have hn : news = [] := List.eq_nil_of_length_eq_zero (by simpa using hr.1)
    subst hn
    simp at hu
   ·obtain ⟨ad', h, hc⟩ := hr.2 h0
    injection h with h
    subst h
    exact hc j u hu
 rcases hcase with ⟨rfl, rfl⟩ | ⟨ad, rfl, hc⟩
 ·have hn : news = [] := List.eq_nil_of_length_eq_zero (by simpa using hr.1)
  subst hn
  exact ⟨A0, c0, w, run_appV_nil w t ty e i ht hi base size n c0 c A0 xs hown, by simpa using hown, World.grownBy.refl w _, .inl rfl, StayA.refl_ _ _ _⟩
 ·obtain ⟨v', w', hrun, h2, h3, _, h5⟩ := run_append_own_at (P := P) w base t ty e i z size bytes ht hi hz hsize hby hzs hsz (.slice A0 n c0) n xs hown ad m c news hr.1 hc h1 h63 hbytes hbase
  have hform : ∃ A' c', v' = .slice A' (n + m) c' := by
   rcases h2.2 with ⟨h, h'⟩ | ⟨g, cap, cur, h, _⟩
   ·exact ⟨none, 0, by rw [h, h']⟩
   ·exact ⟨_, _, h⟩
  obtain ⟨A', c', rfl⟩ := hform
  refine ⟨A', c', w', hrun, h2, h3, h5, fun b o u hu hlt => ?_⟩
  have hbl := World.block_lt_of_cell? w _ hu
  by_cases hb : (Value.slice A0 n c0).ownBlock = some b
  ·rcases hown.2 with ⟨h, _⟩ | ⟨g, cap, cur, h, hbg, hg, hnc, hcm, hcs, htake⟩
   ·rw [h] at hb; simp [Value.ownBlock] at hb
   ·simp only [Value.slice.injEq, true_and] at h
    obtain ⟨rfl, rfl⟩ := h
    have hgb : g = b := by simpa [Value.ownBlock] using hb
    subst hgb
    have ho := hlt g rfl rfl
    have hx : xs[o]? = some u := by
     have := hown.cells (g := g) rfl o (xs[o]'(by rw [hown.1]; exact ho)) (List.getElem?_eq_getElem _)
     rw [Addr.add_lit, Nat.zero_add, hu] at this
     rw [List.getElem?_eq_getElem (by rw [hown.1]; exact ho), ← this]
    by_cases hroom : n + m ≤ c0
    ·have hfit : n * i.size + news.length ≤ cur.size := by rw [hr.1, hcs, ← hsize, ← Nat.add_mul]; exact Nat.mul_le_mul_right _ hroom
     have hr' := run_append_room (P := P) w t ty e i ht hi g n c0 cur hg ad m c news (by rw [hr.1, hsize]) hc h1 hroom hfit
     rw [hrun] at hr'
     simp only [Result.ok.injEq, Value.slice.injEq] at hr'
     obtain ⟨⟨rfl, _, rfl⟩, _⟩ := hr'
     have := h2.cells (g := g) rfl o u (by rw [List.getElem?_append_left (by rw [hown.1]; exact ho)]; exact hx)
     rwa [Addr.add_lit, Nat.zero_add] at this
    ·have holds : ∀ j u, xs[j]? = some u → w.cell? ((⟨g, 0, none⟩ : Addr).add j) = some u := hown.cells (g := g) rfl
     have hr' := run_append_grow (P := P) w t ty e i z ht hi hz ⟨g, 0, none⟩ n c0 xs (by rw [hown.1, hsize]) holds ad m c news (by rw [hr.1, hsize]) hc (by omega) (by omega) (growslice_fits (by omega) (by rw [hby]; exact hbytes))
     rw [hrun] at hr'
     simp only [Result.ok.injEq] at hr'
     rw [hr'.2]
     exact (World.cell?_alloc_lt w.drew _ _ (by simpa using hbl)).trans hu
  ·rw [← hu]
   exact World.cell?_of_block (w := w) (a := ⟨b, o, none⟩) (h3.block b hbl (fun e => hb e.symm))
end
theorem RV_of_RI {w : World} {A : Option Addr} {m : Nat} {ys : List Int} (h : RI w A m ys) : RV w A m 1 (ys.map (Value.int .i64)) := by
 refine ⟨by simp [h.len], fun hm => ?_⟩
 obtain ⟨b, o, rfl, _, hc⟩ := h.2 hm
 refine ⟨_, rfl, fun j u hu => ?_⟩
 have hl := h.len
 have hj : j < ys.length := by
  rcases Nat.lt_or_ge j ys.length with h | h
  ·exact h
  ·rw [List.getElem?_eq_none (by simpa using h)] at hu; cases hu
 rw [addr_add, hc j (by omega), gi_lt hj]
 rw [List.getElem?_map, List.getElem?_eq_getElem hj] at hu
 exact hu
theorem RV_of_RG {w : World} {A : Option Addr} {m : Nat} {gs : List G3} (h : RG w A m gs) : RV w A m 3 (gcells gs) := by
 refine ⟨by rw [gcells_len, h.len], fun hm => ?_⟩
 obtain ⟨b, o, rfl, _, hc⟩ := h.2 hm
 refine ⟨_, rfl, fun j u hu => ?_⟩
 have hl := h.len
 have hj : j < (gcells gs).length := by
  rcases Nat.lt_or_ge j (gcells gs).length with h | h
  ·exact h
  ·rw [List.getElem?_eq_none h] at hu; cases hu
 rw [gcells_len] at hj
 rw [addr_add]
 obtain ⟨q0, q1, q2⟩ := gcells_at gs (j / 3) (by omega)
 obtain ⟨c0, c1, c2⟩ := hc (j / 3) (by omega)
 have hm3 : j % 3 = 0 ∨ j % 3 = 1 ∨ j % 3 = 2 := by omega
 rcases hm3 with h3 | h3 | h3
 ·have hjj : j / 3 * 3 = j := by omega
  rw [hjj, hu] at q0
  rw [hjj] at c0
  rw [c0, q0]
 ·have hjj : j / 3 * 3 + 1 = j := by omega
  rw [hjj, hu] at q1
  rw [Nat.add_assoc, hjj] at c1
  rw [c1, q1]
 ·have hjj : j / 3 * 3 + 2 = j := by omega
  rw [hjj, hu] at q2
  rw [Nat.add_assoc, hjj] at c2
  rw [c2, q2]
theorem gcells_one (gs : List G3) : ∀ u ∈ gcells gs, u.oneCell' = true := by
 intro u hu
 simp only [gcells, List.mem_flatMap, List.mem_cons, List.not_mem_nil, or_false] at hu
 obtain ⟨g, _, rfl | rfl | rfl⟩ := hu <;> rfl
theorem gcells_append (gs hs : List G3) : gcells (gs ++ hs) = gcells gs ++ gcells hs := by simp [gcells]
section
variable (w : World)
theorem run_appI (ty : TypeId) (lo hi n c0 m c : Nat) (A0 A : Option Addr) (xs ys : List Int) (hown : Own w lo hi (.slice A0 n c0) n xs) (hr : RI w A m ys) (hlen : n + m ≤ 8388608) (hlo : lo ≤ w.heap.size) :
 ∃ A' c' w', (Builtin.append_ #[34, 34] ty #[.slice A0 n c0, .slice A m c]).run Try.prog w = .ok (.slice A' (n + m) c') w' ∧
  Own w' lo w'.heap.size (.slice A' (n + m) c') (n + m) (xs ++ ys) ∧ w.grownBy w' (Value.slice A0 n c0).ownBlock ∧
  ((Value.slice A' (n + m) c').ownBlock = (Value.slice A0 n c0).ownBlock ∨ (Value.slice A' (n + m) c').ownBlock = some w.heap.size) ∧ StayA A0 n w w' := by
 obtain ⟨i, hi0, hz0, hz1, hz2⟩ := info_parts info_int
 obtain ⟨A', c', w', hrun, h2, h3, h4, h5⟩ := run_appV (P := Try.prog) w 34 ty 3 i (.int .i64 0) 1 8 Try.underlying34 hi0 hz0 hz1 hz2 rfl (by decide) lo n c0 m c A0 A _ _ hown.1 (RV_of_RI hr) (ints_one ys) (by unfold maxLen; omega) (by omega) hlo
 rw [← List.map_append] at h2
 rw [Nat.mul_one] at h5
 exact ⟨A', c', w', hrun, Own.mk_ h2, h3, h4, h5⟩
theorem wp_appI {o : Oper} {a : Act} {K : Act → World → Prop} {Q : Exit → Act → World → Prop} (s x : Operand)
 (ho : o.op = .call { callee := .builtin .append, args := #[s, x], argTypes := #[34, 34] })
 {lo hi n c0 m c : Nat} {A0 A : Option Addr} {xs ys : List Int} (hs : a.eval s = .slice A0 n c0) (hown : Own w lo hi (.slice A0 n c0) n xs) (hx : a.eval x = .slice A m c) (hr : RI w A m ys)
 (hlen : n + m ≤ 8388608) (hlo : lo ≤ w.heap.size)
 (h : ∀ A' c' w', Own w' lo w'.heap.size (.slice A' (n + m) c') (n + m) (xs ++ ys) → w.grownBy w' (Value.slice A0 n c0).ownBlock → ((Value.slice A' (n + m) c').ownBlock = (Value.slice A0 n c0).ownBlock ∨ (Value.slice A' (n + m) c').ownBlock = some w.heap.size) → StayA A0 n w w' → K (a.put o.dst (.slice A' (n + m) c')) w') : o.wp Try.prog a w K Q := by
 obtain ⟨A', c', w', hrun, h2, h3, h4, h5⟩ := run_appI w o.type lo hi n c0 m c A0 A xs ys hown hr hlen hlo
 unfold Oper.wp execOp
 simp only [ho, resolve, invoke, builtin, Sem.run_bind, Sem.run_pure, Result.andThen_ok, List.map_toArray, List.map_cons, List.map_nil, hs, hx, hrun]
 exact h A' c' w' h2 h3 h4 h5
theorem step_appI {ops : Array Oper} {o : Oper} {a : Act} {K : Act → World → Prop} {Q : Exit → Act → World → Prop} {E : Prop} (hgd : o.guard = none) (s x : Operand)
 (ho : o.op = .call { callee := .builtin .append, args := #[s, x], argTypes := #[34, 34] })
 {lo hi n c0 m c : Nat} {A0 A : Option Addr} {xs ys : List Int} (hs : a.eval s = .slice A0 n c0) (hown : Own w lo hi (.slice A0 n c0) n xs) (hx : a.eval x = .slice A m c) (hr : RI w A m ys)
 (hlen : n + m ≤ 8388608) (hlo : lo ≤ w.heap.size)
 (h : ∀ A' c' w', Own w' lo w'.heap.size (.slice A' (n + m) c') (n + m) (xs ++ ys) → w.grownBy w' (Value.slice A0 n c0).ownBlock → ((Value.slice A' (n + m) c').ownBlock = (Value.slice A0 n c0).ownBlock ∨ (Value.slice A' (n + m) c').ownBlock = some w.heap.size) → StayA A0 n w w' → K (a.put o.dst (.slice A' (n + m) c')) w') :
 if Region.wanted o (yielded ops a.tmps) = true then Oper.wp Try.prog o a w K Q else E := by
 have hw : Region.wanted o (yielded ops a.tmps) = true := by simp [Region.wanted, hgd]
 rw [if_pos hw]
 exact wp_appI w s x ho hs hown hx hr hlen hlo h
theorem info_gateI : (Try.prog.info? 89).map (fun i => (i.zero, i.size, i.bytes)) = some (some (.agg #[.int .i64 0, .int .i64 0, .int .i64 0]), 3, 24) := by kernel_rfl
theorem run_appG (ty : TypeId) (lo hi n c0 m c : Nat) (A0 A : Option Addr) (xs ys : List G3) (hown : OwnG w lo hi (.slice A0 n c0) n xs) (hr : RG w A m ys) (hlen : n + m ≤ 8388608) (hlo : lo ≤ w.heap.size) :
 ∃ A' c' w', (Builtin.append_ #[41, 41] ty #[.slice A0 n c0, .slice A m c]).run Try.prog w = .ok (.slice A' (n + m) c') w' ∧
  OwnG w' lo w'.heap.size (.slice A' (n + m) c') (n + m) (xs ++ ys) ∧ w.grownBy w' (Value.slice A0 n c0).ownBlock ∧
  ((Value.slice A' (n + m) c').ownBlock = (Value.slice A0 n c0).ownBlock ∨ (Value.slice A' (n + m) c').ownBlock = some w.heap.size) ∧ StayA A0 (n * 3) w w' := by
 obtain ⟨i, hi0, hz0, hz1, hz2⟩ := info_parts info_gateI
 obtain ⟨A', c', w', hrun, h2, h3, h4, h5⟩ := run_appV (P := Try.prog) w 41 ty 89 i _ 3 24 Try.underlying41 hi0 hz0 hz1 hz2 rfl (by decide) lo n c0 m c A0 A _ _ hown.1 (RV_of_RG hr) (gcells_one ys) (by unfold maxLen; omega) (by omega) hlo
 rw [← gcells_append] at h2
 exact ⟨A', c', w', hrun, OwnG.mk_ h2, h3, h4, h5⟩
theorem wp_appG {o : Oper} {a : Act} {K : Act → World → Prop} {Q : Exit → Act → World → Prop} (s x : Operand)
 (ho : o.op = .call { callee := .builtin .append, args := #[s, x], argTypes := #[41, 41] })
 {lo hi n c0 m c : Nat} {A0 A : Option Addr} {xs ys : List G3} (hs : a.eval s = .slice A0 n c0) (hown : OwnG w lo hi (.slice A0 n c0) n xs) (hx : a.eval x = .slice A m c) (hr : RG w A m ys)
 (hlen : n + m ≤ 8388608) (hlo : lo ≤ w.heap.size)
 (h : ∀ A' c' w', OwnG w' lo w'.heap.size (.slice A' (n + m) c') (n + m) (xs ++ ys) → w.grownBy w' (Value.slice A0 n c0).ownBlock → ((Value.slice A' (n + m) c').ownBlock = (Value.slice A0 n c0).ownBlock ∨ (Value.slice A' (n + m) c').ownBlock = some w.heap.size) → StayA A0 (n * 3) w w' → K (a.put o.dst (.slice A' (n + m) c')) w') : o.wp Try.prog a w K Q := by
 obtain ⟨A', c', w', hrun, h2, h3, h4, h5⟩ := run_appG w o.type lo hi n c0 m c A0 A xs ys hown hr hlen hlo
 unfold Oper.wp execOp
 simp only [ho, resolve, invoke, builtin, Sem.run_bind, Sem.run_pure, Result.andThen_ok, List.map_toArray, List.map_cons, List.map_nil, hs, hx, hrun]
 exact h A' c' w' h2 h3 h4 h5
theorem Zae {ops : Array Oper} {rest : List Oper} {o : Oper} {a : Act} {Q : Exit → Act → World → Prop} (hgd : o.guard = none) (s x : Operand)
 (ho : o.op = .call { callee := .builtin .append, args := #[s, x], argTypes := #[34, 34] })
 {lo hi n c0 m c : Nat} {A0 A : Option Addr} {xs ys : List Int} (hs : a.eval s = .slice A0 n c0) (hown : Own w lo hi (.slice A0 n c0) n xs) (hx : a.eval x = .slice A m c) (hr : RI w A m ys)
 (hlen : n + m ≤ 8388608) (hlo : lo ≤ w.heap.size)
 (h : ∀ A' c' w', Own w' lo w'.heap.size (.slice A' (n + m) c') (n + m) (xs ++ ys) → w.grownBy w' (Value.slice A0 n c0).ownBlock → ((Value.slice A' (n + m) c').ownBlock = (Value.slice A0 n c0).ownBlock ∨ (Value.slice A' (n + m) c').ownBlock = some w.heap.size) → StayA A0 n w w' → wpList Try.prog ops Q rest (a.put o.dst (.slice A' (n + m) c')) w') : wpList Try.prog ops Q (o :: rest) a w :=
 wpList_plain hgd fun _ hK => wp_appI w s x ho hs hown hx hr hlen hlo fun A' c' w' h2 h3 h4 h5 => hK _ _ (h A' c' w' h2 h3 h4 h5)
theorem wpList_appG {ops : Array Oper} {rest : List Oper} {o : Oper} {a : Act} {Q : Exit → Act → World → Prop} (hgd : o.guard = none) (s x : Operand)
 (ho : o.op = .call { callee := .builtin .append, args := #[s, x], argTypes := #[41, 41] })
 {lo hi n c0 m c : Nat} {A0 A : Option Addr} {xs ys : List G3} (hs : a.eval s = .slice A0 n c0) (hown : OwnG w lo hi (.slice A0 n c0) n xs) (hx : a.eval x = .slice A m c) (hr : RG w A m ys)
 (hlen : n + m ≤ 8388608) (hlo : lo ≤ w.heap.size)
 (h : ∀ A' c' w', OwnG w' lo w'.heap.size (.slice A' (n + m) c') (n + m) (xs ++ ys) → w.grownBy w' (Value.slice A0 n c0).ownBlock → ((Value.slice A' (n + m) c').ownBlock = (Value.slice A0 n c0).ownBlock ∨ (Value.slice A' (n + m) c').ownBlock = some w.heap.size) → StayA A0 (n * 3) w w' → wpList Try.prog ops Q rest (a.put o.dst (.slice A' (n + m) c')) w') : wpList Try.prog ops Q (o :: rest) a w :=
 wpList_plain hgd fun _ hK => wp_appG w s x ho hs hown hx hr hlen hlo fun A' c' w' h2 h3 h4 h5 => hK _ _ (h A' c' w' h2 h3 h4 h5)
end
structure Mv (b : Nat) (G G' : Option Nat) (w w' : World) : Prop where
 os : w'.os = w.os
 tape : w'.tape = w.tape
 output : w'.output = w.output
 size : w.heap.size ≤ w'.heap.size
 block : ∀ k, k < w.heap.size → k ≠ b → G ≠ some k → w'.heap[k]? = w.heap[k]?
 own : G' = G ∨ ∃ k, G' = some k ∧ w.heap.size ≤ k
theorem Mv.refl_ (b : Nat) (G : Option Nat) (w : World) : Mv b G G w w := ⟨rfl, rfl, rfl, Nat.le_refl _, fun _ _ _ _ => rfl, .inl rfl⟩
theorem Mv.off {b : Nat} {G G' : Option Nat} {w w' : World} (h : Mv b G G' w w') {k : Nat} (hk : k < w.heap.size) (hG : G ≠ some k) : G' ≠ some k := by
 rcases h.own with h1 | ⟨j, h1, h2⟩
 ·rwa [h1]
 ·intro hc; rw [h1] at hc; injection hc with hc; omega
theorem Mv.trans_ {b : Nat} {G G1 G2 : Option Nat} {w w1 w2 : World} (h : Mv b G G1 w w1) (k : Mv b G1 G2 w1 w2) : Mv b G G2 w w2 := by
 refine ⟨k.os.trans h.os, k.tape.trans h.tape, k.output.trans h.output, Nat.le_trans h.size k.size, fun i hi hb hG => ?_, ?_⟩
 ·exact (k.block i (Nat.lt_of_lt_of_le hi h.size) hb (h.off hi hG)).trans (h.block i hi hb hG)
 ·rcases k.own with h1 | ⟨j, h1, h2⟩
  ·rw [h1]; exact h.own
  ·exact .inr ⟨j, h1, Nat.le_trans h.size h2⟩
theorem Mv.below_ {b B : Nat} {G G1 : Option Nat} {w w1 w2 : World} (h : Mv b G G1 w w1) (k : Below B w1 w2) (hB : w1.heap.size ≤ B) : Mv b G G1 w w2 :=
 ⟨k.os.trans h.os, k.tape.trans h.tape, k.output.trans h.output, Nat.le_trans h.size k.size, fun i hi hb hG => (k.block i (by have := h.size; omega)).trans (h.block i hi hb hG), h.own⟩
theorem Mv.grown_ {b : Nat} {G G1 : Option Nat} {w w1 w2 : World} {r : Option Nat} (h : Mv b G G1 w w1) (k : w1.grownBy w2 r) (hr : ∀ g, r = some g → w.heap.size ≤ g) : Mv b G G1 w w2 :=
 ⟨k.os.trans h.os, k.tape.trans h.tape, k.output.trans h.output, Nat.le_trans h.size k.size, fun i hi hb hG => (k.block i (Nat.lt_of_lt_of_le hi h.size) (fun he => by have := hr i he.symm; omega)).trans (h.block i hi hb hG), h.own⟩
theorem Mv.alloc_ {b : Nat} {G G1 : Option Nat} {w w1 : World} (h : Mv b G G1 w w1) (o : Obj) : Mv b G G1 w (w1.alloc o) := h.below_ ((Below.refl _ _).alloc lR o) lR
theorem Mv.drewN_ {b : Nat} {G G1 : Option Nat} {w w1 : World} (h : Mv b G G1 w w1) (k : Nat) : Mv b G G1 w (w1.drewN k) := ⟨h.os, h.tape, h.output, h.size, h.block, h.own⟩
theorem Mv.toBelow {b B : Nat} {G G1 : Option Nat} {a w w1 : World} (h : Mv b G G1 w w1) (k : Below B a w) (hb : B ≤ b) (hG : ∀ g, G = some g → B ≤ g) (hB : B ≤ w.heap.size) : Below B a w1 :=
 ⟨h.os.trans k.os, h.tape.trans k.tape, h.output.trans k.output, Nat.le_trans k.size h.size, fun i hi => (h.block i (by omega) (by omega) (fun hc => by have := hG i hc; omega)).trans (k.block i hi)⟩
def Mk (w : World) (lo b : Nat) (x y : Int) (gs : List G3) (G : Option Nat) : Prop :=
 b < w.heap.size ∧ G ≠ some b ∧ (∀ q, w.frozen? ⟨b, q, none⟩ = false) ∧ ∃ Ag cg, BxC w b x y Ag gs.length cg none 0 0 ∧ OwnG w lo w.heap.size (.slice Ag gs.length cg) gs.length gs ∧ (Value.slice Ag gs.length cg).ownBlock = G
theorem Mk.lt {w : World} {lo b : Nat} {x y : Int} {gs : List G3} {G : Option Nat} (h : Mk w lo b x y gs G) : ∀ g, G = some g → lo ≤ g ∧ g < w.heap.size := by
 obtain ⟨_, _, _, Ag, cg, _, ho, he⟩ := h
 intro g hg; have := ho.lt g (he.trans hg); omega
theorem Mk.below_ {w w' : World} {lo b : Nat} {x y : Int} {gs : List G3} {G : Option Nat} {B : Nat} (h : Mk w lo b x y gs G) (k : Below B w w') (hB : w.heap.size ≤ B) : Mk w' lo b x y gs G := by
 obtain ⟨h1, h2, hf, Ag, cg, hx, ho, he⟩ := h
 exact ⟨Nat.lt_of_lt_of_le h1 k.size, h2, fun q => (k.frozen (p := ⟨b, q, none⟩) (by show b < B; omega)).trans (hf q), Ag, cg, hx.below (k.mono hB), (ho.below k (.inl hB)).now, he⟩
theorem Mk.alloc_ {w : World} {lo b : Nat} {x y : Int} {gs : List G3} {G : Option Nat} (h : Mk w lo b x y gs G) (o : Obj) : Mk (w.alloc o) lo b x y gs G := h.below_ ((Below.refl _ _).alloc lR o) lR
theorem Mk.drewN_ {w : World} {lo b : Nat} {x y : Int} {gs : List G3} {G : Option Nat} (h : Mk w lo b x y gs G) (k : Nat) : Mk (w.drewN k) lo b x y gs G := h
theorem Mk.grown_ {w w' : World} {lo b : Nat} {x y : Int} {gs : List G3} {G : Option Nat} {r : Option Nat} (h : Mk w lo b x y gs G) (k : w.grownBy w' r) (hb : r ≠ some b) (hG : ∀ g, r = some g → G ≠ some g) : Mk w' lo b x y gs G := by
 obtain ⟨h1, h2, hf, Ag, cg, hx, ho, he⟩ := h
 have hc : ∀ {q : Nat} {v : Value}, w.cell? ⟨b, q, none⟩ = some v → w'.cell? ⟨b, q, none⟩ = some v := fun {q v} hv => (World.cell?_of_block (w := w) (k.block b h1 (fun e => hb e.symm))).trans hv
 refine ⟨Nat.lt_of_lt_of_le h1 k.size, h2, fun q => (World.frozen?_of_block (w := w) (a := ⟨b, q, none⟩) (k.block b h1 (fun e => hb e.symm))).trans (hf q), Ag, cg, ⟨hc hx.1, hc hx.2.1, hc hx.2.2.1, hc hx.2.2.2⟩, (ho.grown k ?_).now, he⟩
 cases hr : (Value.slice Ag gs.length cg).ownBlock with
 | none => exact .inl rfl
 | some g => exact .inr (fun hq => hG g hq.symm (he ▸ hr))
theorem Mk.new (w : World) (lo : Nat) (x y : Int) (T : TypeId) : Mk (w.alloc (.cells #[.int .i64 x, .int .i64 y, .slice none 0 0, .slice none 0 0] T)) lo w.heap.size x y [] none :=
 ⟨by simp, by simp, fun q => World.frozen?_alloc_at _ _ _ _ rfl, none, 0, BxC.new w T, OwnG.none_ _ _ _, rfl⟩
def RM (w : World) (b : Nat) (G : Option Nat) (A : Option Addr) (n : Nat) (xs : List Int) : Prop :=
 RI w A n xs ∧ (0 < n → ∀ k o, A = some ⟨k, o, none⟩ → k ≠ b ∧ G ≠ some k)
theorem RM.len {w : World} {b n : Nat} {G : Option Nat} {A : Option Addr} {xs : List Int} (h : RM w b G A n xs) : xs.length = n := h.1.len
theorem RM.mv {w w' : World} {b n : Nat} {G G' : Option Nat} {A : Option Addr} {xs : List Int} (h : RM w b G A n xs) (k : Mv b G G' w w') : RM w' b G' A n xs := by
 refine ⟨⟨h.1.1, fun hn => ?_⟩, fun hn j o hA => ?_⟩
 ·obtain ⟨j, o, hA, hlt, hc⟩ := h.1.2 hn
  obtain ⟨n1, n2⟩ := h.2 hn j o hA
  refine ⟨j, o, hA, Nat.lt_of_lt_of_le hlt k.size, fun i hi => ?_⟩
  rw [← hc i hi]
  exact World.cell?_of_block (w := w) (a := ⟨j, o + i, none⟩) (k.block j hlt n1 n2)
 ·obtain ⟨n1, n2⟩ := h.2 hn j o hA
  obtain ⟨j', o', hA', hlt, _⟩ := h.1.2 hn
  rw [hA] at hA'
  simp only [Option.some.injEq, Addr.mk.injEq, and_true] at hA'
  exact ⟨n1, k.off (by omega) n2⟩
def OM (w : World) (b : Nat) (G : Option Nat) (lo : Nat) (v : Value) (n : Nat) (xs : List Int) : Prop :=
 Own w lo w.heap.size v n xs ∧ ∀ g, v.ownBlock = some g → g ≠ b ∧ G ≠ some g
theorem OM.len {w : World} {b lo n : Nat} {G : Option Nat} {v : Value} {xs : List Int} (h : OM w b G lo v n xs) : xs.length = n := h.1.len
theorem OM.none_ (w : World) (b : Nat) (G : Option Nat) (lo : Nat) : OM w b G lo (.slice none 0 0) 0 [] := ⟨Own.none_ _ _ _, fun g hg => by simp [Value.ownBlock] at hg⟩
theorem OM.mv {w w' : World} {b lo n : Nat} {G G' : Option Nat} {v : Value} {xs : List Int} (h : OM w b G lo v n xs) (k : Mv b G G' w w') : OM w' b G' lo v n xs := by
 refine ⟨⟨⟨h.1.1.1, ?_⟩, fun g hg => Nat.lt_of_lt_of_le (h.1.lt g hg).2.2 k.size⟩, fun g hg => ⟨(h.2 g hg).1, k.off (h.1.lt g hg).2.2 (h.2 g hg).2⟩⟩
 rcases h.1.1.2 with h1 | ⟨g, cap, cur, rfl, hlo, hg, r⟩
 ·exact .inl h1
 ·have hgb : (Value.slice (some ⟨g, 0, none⟩) n cap).ownBlock = some g := by simp [Value.ownBlock]
  refine .inr ⟨g, cap, cur, rfl, hlo, ?_, r⟩
  rw [k.block g (h.1.lt g hgb).2.2 (h.2 g hgb).1 (h.2 g hgb).2]; exact hg
theorem OM.below_ {w w' : World} {b lo n B : Nat} {G : Option Nat} {v : Value} {xs : List Int} (h : OM w b G lo v n xs) (k : Below B w w') (hB : w.heap.size ≤ B) : OM w' b G lo v n xs := ⟨(h.1.below k (.inl hB)).now, h.2⟩
theorem OM.alloc_ {w : World} {b lo n : Nat} {G : Option Nat} {v : Value} {xs : List Int} (h : OM w b G lo v n xs) (o : Obj) : OM (w.alloc o) b G lo v n xs := h.below_ ((Below.refl _ _).alloc lR o) lR
theorem OM.drewN_ {w : World} {b lo n : Nat} {G : Option Nat} {v : Value} {xs : List Int} (h : OM w b G lo v n xs) (k : Nat) : OM (w.drewN k) b G lo v n xs := h
theorem OM.reads {w : World} {b lo n c : Nat} {G : Option Nat} {A : Option Addr} {xs : List Int} (h : OM w b G lo (.slice A n c) n xs) : RM w b G A n xs := by
 refine ⟨h.1.reads, fun hn k o hA => ?_⟩
 obtain ⟨g, hg, _⟩ := h.1.some_ hn
 rw [hA] at hg
 simp only [Option.some.injEq, Addr.mk.injEq, and_true] at hg
 obtain ⟨rfl, rfl⟩ := hg
 exact h.2 k (by rw [hA]; simp [Value.ownBlock])
theorem OM.app {w w' : World} {lo' b lo n m c c' : Nat} {x y : Int} {gs : List G3} {G : Option Nat} {A A' : Option Addr} {xs ys : List Int} (h : OM w b G lo (.slice A n c) n xs) (hm : Mk w lo' b x y gs G)
 (ho : Own w' lo w'.heap.size (.slice A' m c') m ys) (hat : (Value.slice A' m c').ownBlock = (Value.slice A n c).ownBlock ∨ (Value.slice A' m c').ownBlock = some w.heap.size) : OM w' b G lo (.slice A' m c') m ys := by
 refine ⟨ho, fun g hg => ?_⟩
 rcases hat with h1 | h1
 ·exact h.2 g (h1 ▸ hg)
 ·rw [h1] at hg; injection hg with hg; subst hg
  exact ⟨by have := hm.1; omega, fun hc => by have := hm.lt _ hc; omega⟩
theorem Mk.app {w w' : World} {lo' b lo n c : Nat} {x y : Int} {gs : List G3} {G : Option Nat} {A : Option Addr} {xs : List Int} (hm : Mk w lo' b x y gs G) (h : OM w b G lo (.slice A n c) n xs) (hg : w.grownBy w' (Value.slice A n c).ownBlock) : Mk w' lo' b x y gs G :=
 hm.grown_ hg (fun hc => (h.2 b hc).1 rfl) (fun g hc => (h.2 g hc).2)
theorem Mv.app {W w w' : World} {b n c : Nat} {G G1 : Option Nat} {A : Option Addr} {xs : List Int} (k : Mv b G G1 W w) (h : OM w b G1 W.heap.size (.slice A n c) n xs) (hg : w.grownBy w' (Value.slice A n c).ownBlock) : Mv b G G1 W w' :=
 k.grown_ hg (fun g hc => (h.1.lt g hc).1)
theorem OM.new {w : World} {lo' b lo : Nat} {x y : Int} {gs : List G3} {G : Option Nat} (hm : Mk w lo' b x y gs G) (ys : List Int) (n : Nat) (hn : ys.length = n) (hl : lo ≤ w.heap.size) (hb : n ≤ 4194304) :
 OM (w.alloc (.cells (ys.map (Value.int .i64)).toArray 3)) b G lo (.slice (some ⟨w.heap.size, 0, none⟩) n n) n ys :=
 ⟨(Own_new w ys n lo hn hl hb).now, fun g hg => by
  have hgg : w.heap.size = g := by simpa [Value.ownBlock] using hg
  subst hgg
  exact ⟨by have := hm.1; omega, fun hc => by have := hm.lt _ hc; omega⟩⟩
theorem OM.new0 {w : World} {lo' b lo : Nat} {x y : Int} {gs : List G3} {G : Option Nat} (hm : Mk w lo' b x y gs G) (hl : lo ≤ w.heap.size) : OM (w.alloc (.cells #[] 3)) b G lo (.slice (some ⟨w.heap.size, 0, none⟩) 0 0) 0 [] := by
 simpa using OM.new hm [] 0 rfl hl (by omega)
def OffB (b : Nat) (G : Option Nat) (k : Nat) : Prop := k ≠ b ∧ G ≠ some k
theorem Mv.cellF {b : Nat} {G G' : Option Nat} {w w' : World} (h : Mv b G G' w w') {p : Addr} {v : Value} (hv : w.cell? p = some v) (hf : OffB b G p.block) : w'.cell? p = some v :=
 (World.cell?_of_block (w := w) (h.block p.block (World.block_lt_of_cell? w _ hv) (And.left hf) (And.right hf))).trans hv
theorem Mv.offF {b k : Nat} {G G' : Option Nat} {w w' : World} (h : Mv b G G' w w') (hk : k < w.heap.size) (hf : OffB b G k) : OffB b G' k := ⟨And.left hf, h.off hk (And.right hf)⟩
theorem RM.cellV {w w' : World} {b n i k o : Nat} {v : Int} {G G' : Option Nat} {xs : List Int} (h : RM w b G (some ⟨k, o, none⟩) n xs) (m : Mv b G G' w w') (hi : i < n) (he : Hid (gi xs i = v)) :
 w'.cell? ⟨k, o + i, none⟩ = some (.int .i64 v) ∧ OffB b G' k ∧ k < w.heap.size := by
 have h' := h.mv m
 obtain ⟨j, q, hA, hlt, hc⟩ := h.1.at_ hi
 obtain ⟨j', q', hA', hlt', hc'⟩ := h'.1.at_ hi
 simp only [Option.some.injEq, Addr.mk.injEq, and_true] at hA hA'
 obtain ⟨rfl, rfl⟩ := hA
 obtain ⟨rfl, rfl⟩ := hA'
 exact ⟨by rw [hc', he.out], h'.2 (by omega) _ _ rfl, hlt⟩
section
variable {w w' : World} {b : Nat} {x y : Int} {Ag A' : Option Addr} {ng cg n' c' : Nat} {Ao : Option Addr} {no co : Nat}
theorem BxC.setG (h : BxC w b x y Ag ng cg Ao no co) (A' : Option Addr) (n' c' : Nat) : BxC (w.setCell ⟨b, 2, none⟩ (.slice A' n' c')) b x y A' n' c' Ao no co :=
 ⟨(World.cell?_setCell_other _ _ _ _ (by simp)).trans h.1, (World.cell?_setCell_other _ _ _ _ (by simp)).trans h.2.1, World.cell?_setCell_same _ _ _ h.2.2.1, (World.cell?_setCell_other _ _ _ _ (by simp)).trans h.2.2.2⟩
theorem BxC.setO (h : BxC w b x y Ag ng cg Ao no co) (A' : Option Addr) (n' c' : Nat) : BxC (w.setCell ⟨b, 3, none⟩ (.slice A' n' c')) b x y Ag ng cg A' n' c' :=
 ⟨(World.cell?_setCell_other _ _ _ _ (by simp)).trans h.1, (World.cell?_setCell_other _ _ _ _ (by simp)).trans h.2.1, (World.cell?_setCell_other _ _ _ _ (by simp)).trans h.2.2.1, World.cell?_setCell_same _ _ _ h.2.2.2⟩
theorem BxC.set4 {x0 y0 : Int} {Ag0 : Option Addr} {ng0 cg0 : Nat} {Ao0 : Option Addr} {no0 co0 : Nat} (h : BxC w b x0 y0 Ag0 ng0 cg0 Ao0 no0 co0) (x y : Int) (Ag : Option Addr) (ng cg : Nat) (Ao : Option Addr) (no co : Nat) :
 BxC ((((w.setCell ⟨b, 0, none⟩ (.int .i64 x)).setCell ⟨b, 1, none⟩ (.int .i64 y)).setCell ⟨b, 2, none⟩ (.slice Ag ng cg)).setCell ⟨b, 3, none⟩ (.slice Ao no co)) b x y Ag ng cg Ao no co := by
 have h1 : BxC (w.setCell ⟨b, 0, none⟩ (.int .i64 x)) b x y0 Ag0 ng0 cg0 Ao0 no0 co0 := ⟨World.cell?_setCell_same _ _ _ h.1, (World.cell?_setCell_other _ _ _ _ (by simp)).trans h.2.1, (World.cell?_setCell_other _ _ _ _ (by simp)).trans h.2.2.1, (World.cell?_setCell_other _ _ _ _ (by simp)).trans h.2.2.2⟩
 have h2 : BxC ((w.setCell ⟨b, 0, none⟩ (.int .i64 x)).setCell ⟨b, 1, none⟩ (.int .i64 y)) b x y Ag0 ng0 cg0 Ao0 no0 co0 := ⟨(World.cell?_setCell_other _ _ _ _ (by simp)).trans h1.1, World.cell?_setCell_same _ _ _ h1.2.1, (World.cell?_setCell_other _ _ _ _ (by simp)).trans h1.2.2.1, (World.cell?_setCell_other _ _ _ _ (by simp)).trans h1.2.2.2⟩
 exact (h2.setG Ag ng cg).setO Ao no co
theorem Zai {B : Nat} {a : World} (h : Below B a w) (hB : B ≤ b) (x y : Int) (Ag : Option Addr) (ng cg : Nat) (Ao : Option Addr) (no co : Nat) :
 Below B a ((((w.setCell ⟨b, 0, none⟩ (.int .i64 x)).setCell ⟨b, 1, none⟩ (.int .i64 y)).setCell ⟨b, 2, none⟩ (.slice Ag ng cg)).setCell ⟨b, 3, none⟩ (.slice Ao no co)) :=
 (((h.setCell (p := ⟨b, 0, none⟩) hB _).setCell (p := ⟨b, 1, none⟩) hB _).setCell (p := ⟨b, 2, none⟩) hB _).setCell (p := ⟨b, 3, none⟩) hB _
theorem OwnC.set4 {lo hi : Nat} {A1 : Option Addr} {n1 c1 : Nat} {A2 : Option Addr} {n2 c2 : Nat} {gs : List G3} {os : List Int} (h : OwnC w lo hi A1 n1 c1 A2 n2 c2 gs os) (hb : b < lo ∨ hi ≤ b) (x y : Int) (Ag : Option Addr) (ng cg : Nat) (Ao : Option Addr) (no co : Nat) :
 OwnC ((((w.setCell ⟨b, 0, none⟩ (.int .i64 x)).setCell ⟨b, 1, none⟩ (.int .i64 y)).setCell ⟨b, 2, none⟩ (.slice Ag ng cg)).setCell ⟨b, 3, none⟩ (.slice Ao no co)) lo hi A1 n1 c1 A2 n2 c2 gs os :=
 (((h.far ⟨b, 0, none⟩ _ hb).far ⟨b, 1, none⟩ _ hb).far ⟨b, 2, none⟩ _ hb).far ⟨b, 3, none⟩ _ hb
theorem set4_size (x y : Int) (Ag : Option Addr) (ng cg : Nat) (Ao : Option Addr) (no co : Nat) :
 ((((w.setCell ⟨b, 0, none⟩ (.int .i64 x)).setCell ⟨b, 1, none⟩ (.int .i64 y)).setCell ⟨b, 2, none⟩ (.slice Ag ng cg)).setCell ⟨b, 3, none⟩ (.slice Ao no co)).heap.size = w.heap.size := by simp
theorem BxC.grown {r : Option Nat} (h : BxC w b x y Ag ng cg Ao no co) (k : w.grownBy w' r) (hr : r ≠ some b) : BxC w' b x y Ag ng cg Ao no co := by
 have hc : ∀ {q : Nat} {v : Value}, w.cell? ⟨b, q, none⟩ = some v → w'.cell? ⟨b, q, none⟩ = some v := fun {q v} hv => (World.cell?_of_block (w := w) (k.block b (World.block_lt_of_cell? w _ hv) (fun e => hr e.symm))).trans hv
 exact ⟨hc h.1, hc h.2.1, hc h.2.2.1, hc h.2.2.2⟩
end
theorem RG_new1 (w : World) (k a b : Int) (t : TypeId) : RG (w.alloc (.cells #[.int .i64 k, .int .i64 a, .int .i64 b] t)) (some ⟨w.heap.size, 0, none⟩) 1 [⟨k, a, b⟩] := by
 refine ⟨rfl, fun _ => ⟨w.heap.size, 0, rfl, by simp, fun j hj => ?_⟩⟩
 obtain rfl : j = 0 := by omega
 exact ⟨Zaa w _ 0 _ rfl, Zaa w _ 1 _ rfl, Zaa w _ 2 _ rfl⟩
theorem OwnG.far1 {w : World} {lo hi n : Nat} {v : Value} {xs : List G3} (h : OwnG w lo hi v n xs) (p : Addr) (u : Value) (hp : v.ownBlock ≠ some p.block) : OwnG (w.setCell p u) lo hi v n xs := by
 refine ⟨⟨h.1.1, ?_⟩, h.2⟩
 rcases h.1.2 with h1 | ⟨g, cap, cur, rfl, hlo, hg, r⟩
 ·exact .inl h1
 ·refine .inr ⟨g, cap, cur, rfl, hlo, ?_, r⟩
  have hne : g ≠ p.block := fun hc => hp (by simp [Value.ownBlock, hc])
  rw [Below.heap_setCell w p u g hne]; exact hg
theorem Mk.made {w w5 : World} {lo b n : Nat} {x y : Int} {gs gs' : List G3} {Ag A5 : Option Addr} {cg c5 : Nat} (h1 : b < w.heap.size) (h2 : (Value.slice Ag gs.length cg).ownBlock ≠ some b) (hf : ∀ q, w.frozen? ⟨b, q, none⟩ = false)
 (hbx : BxC w b x y Ag gs.length cg none 0 0) (hown : OwnG w5 lo w5.heap.size (.slice A5 n c5) n gs') (hg : w.grownBy w5 (Value.slice Ag gs.length cg).ownBlock)
 (hat : (Value.slice A5 n c5).ownBlock = (Value.slice Ag gs.length cg).ownBlock ∨ (Value.slice A5 n c5).ownBlock = some w.heap.size) :
 Mk (w5.setCell ⟨b, 2, none⟩ (.slice A5 n c5)) lo b x y gs' (Value.slice A5 n c5).ownBlock ∧ Mv b (Value.slice Ag gs.length cg).ownBlock (Value.slice A5 n c5).ownBlock w (w5.setCell ⟨b, 2, none⟩ (.slice A5 n c5)) := by
 have hl := hown.len
 have hne : (Value.slice A5 n c5).ownBlock ≠ some b := by
  rcases hat with h | h
  ·rw [h]; exact h2
  ·rw [h]; intro hc; injection hc with hc; omega
 have hsz : w.heap.size ≤ w5.heap.size := hg.size
 subst hl
 refine ⟨⟨by simp; omega, hne, fun q => (World.frozen?_setCell _ _ _ _).trans ((World.frozen?_of_block (w := w) (a := ⟨b, q, none⟩) (hg.block b h1 (fun e => h2 e.symm))).trans (hf q)), A5, c5, (hbx.grown hg h2).setG _ _ _, ?_, rfl⟩, ?_⟩
 ·simpa using hown.far1 ⟨b, 2, none⟩ (.slice A5 gs'.length c5) hne
 ·refine ⟨hg.os, hg.tape, hg.output, by simpa using hsz, fun k hk hkb hkG => ?_, ?_⟩
  ·rw [Below.heap_setCell _ _ _ _ hkb]; exact hg.block k hk (fun e => hkG e.symm)
  ·rcases hat with h | h
   ·exact .inl h
   ·exact .inr ⟨_, h, Nat.le_refl _⟩
theorem OM.far {w : World} {b lo n c : Nat} {G : Option Nat} {O : Option Addr} {xs : List Int} (h : OM w b G lo (.slice O n c) n xs) : ∀ g, O = some ⟨g, 0, none⟩ → lo ≤ g :=
 fun g hg => (h.1.lt g (by rw [hg]; simp [Value.ownBlock])).1
def RetW (lo b : Nat) (x y : Int) (gs : List G3) (G : Option Nat) (v : Int) (w : World) (e : Ending) (w' : World) : Prop :=
 ∃ G', e = .returned (.int .i64 v) ∧ Mk w' lo b x y gs G' ∧ Mv b G G' w w'
structure Ad where
 g : List G3
 o : List Int
 c : Int
def subStep (n a b : Int) (i : Nat) (s : Ad) : Ad :=
 if i = 0 then ⟨s.g ++ [⟨0, a, b⟩] ++ [⟨2, a, 0⟩] ++ [⟨1, n + 1, b⟩], s.o ++ [n], n + 2⟩
 else ⟨s.g ++ [⟨0, a, s.c⟩] ++ [⟨0, b, s.c⟩] ++ [⟨0, n, b⟩] ++ [⟨2, n, 0⟩] ++ [⟨1, n + 3, n + 1⟩] ++ [⟨0, n + 4, s.c⟩], s.o ++ [n + 2], n + 5⟩
def subS (X : Int) (g0 : List G3) (us vs : List Int) : Nat → Ad
 | 0 => ⟨g0, [], -1⟩
 | i + 1 => subStep (X + (subS X g0 us vs i).g.length) (gi us i) (gi vs i) i (subS X g0 us vs i)
theorem subS_o (X : Int) (g0 : List G3) (us vs : List Int) (i : Nat) : (subS X g0 us vs i).o.length = i := by
 induction i with
 | zero => rfl
 | succ i ih => simp only [subS, subStep]; split <;> simp [ih]
theorem subS_g (X : Int) (g0 : List G3) (us vs : List Int) (i : Nat) : (subS X g0 us vs i).g.length ≤ g0.length + 6 * i := by
 induction i with
 | zero => simp [subS]
 | succ i ih => simp only [subS, subStep]; split <;> simp <;> omega
theorem subS_c {X : Int} (hX : 0 ≤ X) (g0 : List G3) (us vs : List Int) (i : Nat) : 0 ≤ (subS X g0 us vs (i + 1)).c := by
 simp only [subS, subStep]; split <;> simp <;> omega
structure Go2 where
 g : List G3
 o : List Int
def chs (X : Int) (g0 : List G3) (s : Int) (us vs : List Int) : Nat → Go2
 | 0 => ⟨g0, []⟩
 | i + 1 => ⟨(chs X g0 s us vs i).g ++ [⟨0, gi us i, gi vs i⟩] ++ [⟨1, s, X + (chs X g0 s us vs i).g.length⟩] ++ [⟨0, X + (chs X g0 s us vs i).g.length + 1, gi vs i⟩], (chs X g0 s us vs i).o ++ [X + (chs X g0 s us vs i).g.length + 2]⟩
theorem chs_o (X : Int) (g0 : List G3) (s : Int) (us vs : List Int) (i : Nat) : (chs X g0 s us vs i).o.length = i := by
 induction i with
 | zero => rfl
 | succ i ih => simp [chs, ih]
theorem chs_g (X : Int) (g0 : List G3) (s : Int) (us vs : List Int) (i : Nat) : (chs X g0 s us vs i).g.length = g0.length + 3 * i := by
 induction i with
 | zero => simp [chs]
 | succ i ih => simp [chs]; omega
def spn (a : Int) (n : Nat) : List Int := (List.range n).map fun i : Nat => a + (i : Int)
theorem spn_len (a : Int) (n : Nat) : (spn a n).length = n := by simp [spn]
theorem spn_snoc (a : Int) (n : Nat) : spn a (n + 1) = spn a n ++ [a + n] := by simp [spn, List.range_succ]
end Go.Proofs.Ytjeojnfpeppclaa
