/- append onto a row of the call's own, the source any slice of ints that can be read; make; what a new block reads as. Lengths up to 2^23. -/
import Derived.Test.YtgenehiiakdadaaQPlain
import Derived.Maps.AppendAt
namespace Go.Proofs.Ytgenehiiakdadaa
open Go.RowKit
set_option linter.unusedVariables false
set_option linter.unusedSimpArgs false

theorem addr_add (b o j : Nat) : (⟨b, o, none⟩ : Addr).add j = ⟨b, o + j, none⟩ := by
  unfold Addr.add; split
  · rename_i h; subst h; rfl
  · rfl

theorem ints_one (ys : List Int) : ∀ u ∈ ys.map (Value.int .i64), u.oneCell' = true := by
  intro u hu
  obtain ⟨y, _, rfl⟩ := List.mem_map.1 hu
  rfl

/-- A row of literals that was just laid reads as its numbers. -/
theorem RI_new (w : World) (ys : List Int) (t : TypeId) (n : Nat) (hn : ys.length = n) : RI (w.alloc (.cells (ys.map (Value.int .i64)).toArray t)) (some ⟨w.heap.size, 0, none⟩) n ys := by
  refine ⟨hn, fun _ => ⟨w.heap.size, 0, rfl, by simp, fun j hj => ?_⟩⟩
  rw [cell_of_row _ w.heap.size (0 + j) _ _ _ (heap_alloc_new w _)]
  simp [gi_lt (show j < ys.length by omega), show j < ys.length by omega]
theorem RI_new1 (w : World) (x : Int) (t : TypeId) : RI (w.alloc (.cells #[.int .i64 x] t)) (some ⟨w.heap.size, 0, none⟩) 1 [x] := RI_new w [x] t 1 rfl
theorem RI_new2 (w : World) (x y : Int) (t : TypeId) : RI (w.alloc (.cells #[.int .i64 x, .int .i64 y] t)) (some ⟨w.heap.size, 0, none⟩) 2 [x, y] := RI_new w [x, y] t 2 rfl
theorem RI_new3 (w : World) (x y z : Int) (t : TypeId) : RI (w.alloc (.cells #[.int .i64 x, .int .i64 y, .int .i64 z] t)) (some ⟨w.heap.size, 0, none⟩) 3 [x, y, z] := RI_new w [x, y, z] t 3 rfl
theorem Own_new (w : World) (ys : List Int) (n lo : Nat) (hn : ys.length = n) (hl : lo ≤ w.heap.size) (hm : n ≤ 4194304) :
    Own (w.alloc (.cells (ys.map (Value.int .i64)).toArray 3)) lo (w.heap.size + 1) (.slice (some ⟨w.heap.size, 0, none⟩) n n) n ys := by
  refine ⟨?_, fun g hg => by simp [Value.ownBlock] at hg; omega⟩
  have h := World.ownsRow_lit (base := lo) (e := 3) (size := 1) w (ys.map (Value.int .i64)).toArray n hl (by unfold maxLen; omega) (by simp [hn])
  simpa using h
theorem Own_new0 (w : World) (lo : Nat) (hl : lo ≤ w.heap.size) : Own (w.alloc (.cells #[] 3)) lo (w.heap.size + 1) (.slice (some ⟨w.heap.size, 0, none⟩) 0 0) 0 [] := Own_new w [] 0 lo rfl hl (by omega)
theorem Own_new1 (w : World) (x : Int) (lo : Nat) (hl : lo ≤ w.heap.size) : Own (w.alloc (.cells #[.int .i64 x] 3)) lo (w.heap.size + 1) (.slice (some ⟨w.heap.size, 0, none⟩) 1 1) 1 [x] := Own_new w [x] 1 lo rfl hl (by omega)
theorem Own_new2 (w : World) (x y : Int) (lo : Nat) (hl : lo ≤ w.heap.size) : Own (w.alloc (.cells #[.int .i64 x, .int .i64 y] 3)) lo (w.heap.size + 1) (.slice (some ⟨w.heap.size, 0, none⟩) 2 2) 2 [x, y] := Own_new w [x, y] 2 lo rfl hl (by omega)

section
variable (w : World)

theorem run_app_nil (t ty : TypeId) (ht : Try.prog.underlying t = some (.slice 3)) (lo hi : Nat)
    (v : Value) (n : Nat) (xs : List Int) (hown : Own w lo hi v n xs) (c : Nat) : (Builtin.append_ #[t, t] ty #[v, .slice none 0 c]).run Try.prog w = .ok v w := by
  obtain ⟨i, hi0, hz0, hz1, hz2⟩ := info_parts info_int
  rcases hown.1.2 with ⟨rfl, rfl⟩ | ⟨g, cap, cur, rfl, _, _, hnc, _⟩
  · simp [Builtin.append_, run_underlying ht, sizeOf, typeInfo, hi0, Builtin.lenOf, Builtin.firstCells]
  · simp [Builtin.append_, run_underlying ht, sizeOf, typeInfo, hi0, Builtin.lenOf, Builtin.firstCells, hnc, storeCells]

theorem run_app (ty : TypeId) (lo hi n c0 m c : Nat) (A0 A : Option Addr) (xs ys : List Int) (hown : Own w lo hi (.slice A0 n c0) n xs) (hr : RI w A m ys)
    (hlen : n + m ≤ 8388608) (hlo : lo ≤ w.heap.size) :
    ∃ A' c' w', (Builtin.append_ #[25, 25] ty #[.slice A0 n c0, .slice A m c]).run Try.prog w = .ok (.slice A' (n + m) c') w' ∧
      Own w' lo w'.heap.size (.slice A' (n + m) c') (n + m) (xs ++ ys) ∧ w.grownBy w' (Value.slice A0 n c0).ownBlock ∧
      ((Value.slice A' (n + m) c').ownBlock = (Value.slice A0 n c0).ownBlock ∨ (Value.slice A' (n + m) c').ownBlock = some w.heap.size) := by
  obtain ⟨i, hi0, hz0, hz1, hz2⟩ := info_parts info_int
  have hl := hr.len
  have go : ∀ ad : Addr, (∀ j u, (ys.map (Value.int .i64))[j]? = some u → w.cell? (ad.add j) = some u) →
      ∃ A' c' w', (Builtin.append_ #[25, 25] ty #[.slice A0 n c0, .slice (some ad) m c]).run Try.prog w = .ok (.slice A' (n + m) c') w' ∧
      Own w' lo w'.heap.size (.slice A' (n + m) c') (n + m) (xs ++ ys) ∧ w.grownBy w' (Value.slice A0 n c0).ownBlock ∧
      ((Value.slice A' (n + m) c').ownBlock = (Value.slice A0 n c0).ownBlock ∨ (Value.slice A' (n + m) c').ownBlock = some w.heap.size) := by
    intro ad hc
    obtain ⟨v', w', hrun, h2, h3, _, h5⟩ := run_append_own_at (P := Try.prog) w lo 25 ty 3 i (.int .i64 0) 1 8 Try.underlying25 hi0 hz0 hz1 hz2 rfl (by decide) (.slice A0 n c0) n _ hown.1 ad m c (ys.map (Value.int .i64)) (by simp [hl]) hc (ints_one ys)
      (by unfold maxLen; omega) (by omega) hlo
    rw [← List.map_append] at h2
    have hO := Own.mk_ h2
    obtain ⟨A', c', rfl, _⟩ := hO.form
    exact ⟨A', c', w', hrun, hO, h3, h5⟩
  rcases A with _ | ad
  · have hm : m = 0 := by
      rcases Nat.eq_zero_or_pos m with h0 | h0
      · exact h0
      · obtain ⟨b, o, h, _⟩ := hr.2 h0
        cases h
    subst hm
    obtain rfl : ys = [] := List.eq_nil_of_length_eq_zero hl
    refine ⟨A0, c0, w, run_app_nil w 25 ty Try.underlying25 lo hi _ n xs hown c, ?_, World.grownBy.refl w _, .inl rfl⟩
    simpa using (Own.mk_ hown.1)
  · refine go ad ?_
    intro j u hu
    have hj : j < ys.length := by
      rcases Nat.lt_or_ge j ys.length with h | h
      · exact h
      · rw [List.getElem?_eq_none (by simpa using h)] at hu; cases hu
    obtain ⟨b, o, h, _, hcc⟩ := hr.at_ (k := j) (by omega)
    simp only [Option.some.injEq] at h
    subst h
    rw [addr_add, hcc]
    rw [List.getElem?_map, List.getElem?_eq_getElem hj] at hu
    rw [gi_lt hj]
    exact hu

theorem wp_app {o : Oper} {a : Act} {K : Act → World → Prop} {Q : Exit → Act → World → Prop} (s x : Operand)
    (ho : o.op = .call { callee := .builtin .append, args := #[s, x], argTypes := #[25, 25] })
    {lo hi n c0 m c : Nat} {A0 A : Option Addr} {xs ys : List Int} (hs : a.eval s = .slice A0 n c0) (hown : Own w lo hi (.slice A0 n c0) n xs) (hx : a.eval x = .slice A m c) (hr : RI w A m ys)
    (hlen : n + m ≤ 8388608) (hlo : lo ≤ w.heap.size)
    (h : ∀ A' c' w', Own w' lo w'.heap.size (.slice A' (n + m) c') (n + m) (xs ++ ys) → w.grownBy w' (Value.slice A0 n c0).ownBlock → ((Value.slice A' (n + m) c').ownBlock = (Value.slice A0 n c0).ownBlock ∨ (Value.slice A' (n + m) c').ownBlock = some w.heap.size) → K (a.put o.dst (.slice A' (n + m) c')) w') : o.wp Try.prog a w K Q := by
  obtain ⟨A', c', w', hrun, h2, h3, h4⟩ := run_app w o.type lo hi n c0 m c A0 A xs ys hown hr hlen hlo
  unfold Oper.wp execOp
  simp only [ho, resolve, invoke, builtin, Sem.run_bind, Sem.run_pure, Result.andThen_ok, List.map_toArray, List.map_cons, List.map_nil, hs, hx, hrun]
  exact h A' c' w' h2 h3 h4

theorem wpList_app {ops : Array Oper} {rest : List Oper} {o : Oper} {a : Act} {Q : Exit → Act → World → Prop} (hgd : o.guard = none) (s x : Operand)
    (ho : o.op = .call { callee := .builtin .append, args := #[s, x], argTypes := #[25, 25] })
    {lo hi n c0 m c : Nat} {A0 A : Option Addr} {xs ys : List Int} (hs : a.eval s = .slice A0 n c0) (hown : Own w lo hi (.slice A0 n c0) n xs) (hx : a.eval x = .slice A m c) (hr : RI w A m ys)
    (hlen : n + m ≤ 8388608) (hlo : lo ≤ w.heap.size)
    (h : ∀ A' c' w', Own w' lo w'.heap.size (.slice A' (n + m) c') (n + m) (xs ++ ys) → w.grownBy w' (Value.slice A0 n c0).ownBlock → ((Value.slice A' (n + m) c').ownBlock = (Value.slice A0 n c0).ownBlock ∨ (Value.slice A' (n + m) c').ownBlock = some w.heap.size) → wpList Try.prog ops Q rest (a.put o.dst (.slice A' (n + m) c')) w') : wpList Try.prog ops Q (o :: rest) a w :=
  wpList_plain hgd fun _ hK => wp_app w s x ho hs hown hx hr hlen hlo fun A' c' w' h2 h3 h4 => hK _ _ (h A' c' w' h2 h3 h4)

theorem step_app {ops : Array Oper} {o : Oper} {a : Act} {K : Act → World → Prop} {Q : Exit → Act → World → Prop} {E : Prop} (hgd : o.guard = none) (s x : Operand)
    (ho : o.op = .call { callee := .builtin .append, args := #[s, x], argTypes := #[25, 25] })
    {lo hi n c0 m c : Nat} {A0 A : Option Addr} {xs ys : List Int} (hs : a.eval s = .slice A0 n c0) (hown : Own w lo hi (.slice A0 n c0) n xs) (hx : a.eval x = .slice A m c) (hr : RI w A m ys)
    (hlen : n + m ≤ 8388608) (hlo : lo ≤ w.heap.size)
    (h : ∀ A' c' w', Own w' lo w'.heap.size (.slice A' (n + m) c') (n + m) (xs ++ ys) → w.grownBy w' (Value.slice A0 n c0).ownBlock → ((Value.slice A' (n + m) c').ownBlock = (Value.slice A0 n c0).ownBlock ∨ (Value.slice A' (n + m) c').ownBlock = some w.heap.size) → K (a.put o.dst (.slice A' (n + m) c')) w') :
    if Region.wanted o (yielded ops a.tmps) = true then Oper.wp Try.prog o a w K Q else E := by
  have hw : Region.wanted o (yielded ops a.tmps) = true := by simp [Region.wanted, hgd]
  rw [if_pos hw]
  exact wp_app w s x ho hs hown hx hr hlen hlo h
end

/-- What a function that appends has done below the number where the call began. -/
theorem below_app {B : Nat} {a w w' : World} {lo hi n c : Nat} {A : Option Addr} {xs : List Int} (h : Below B a w) (hown : Own w lo hi (.slice A n c) n xs) (hg : w.grownBy w' (Value.slice A n c).ownBlock) (hB : B ≤ w.heap.size) (hl : B ≤ lo) : Below B a w' :=
  h.grown hg hB fun k hk => by have := hown.lt k hk; omega
/-- A cell below the row that was appended to holds what it held. -/
theorem keep_app {w w' : World} {lo hi n c : Nat} {A : Option Addr} {xs : List Int} (hown : Own w lo hi (.slice A n c) n xs) (hg : w.grownBy w' (Value.slice A n c).ownBlock) {b o : Nat} {u : Value} (hb : b < lo) (h : w.cell? ⟨b, o, none⟩ = some u) : w'.cell? ⟨b, o, none⟩ = some u :=
  hg.cell h (fun he => by have := hown.lt b he.symm; omega)
/-- Two slice values do not lie in one block. -/
def Apart (v v' : Value) : Prop := ∀ g, v.ownBlock = some g → v'.ownBlock ≠ some g
theorem Apart.symm_ {v v' : Value} (h : Apart v v') : Apart v' v := fun g h1 h2 => h g h2 h1
theorem Apart.none_ (v : Value) (n c : Nat) : Apart v (.slice none n c) := fun g _ h => by simp [Value.ownBlock] at h
theorem Apart.app {w : World} {lo hi n : Nat} {v v1 v2 : Value} {xs : List Int} (h : Apart v v1) (ho : Own w lo hi v n xs) {H : Nat} (hH : w.heap.size ≤ H) (hat : v2.ownBlock = v1.ownBlock ∨ v2.ownBlock = some H) : Apart v v2 := by
  intro g hg he
  rcases hat with h1 | h1
  · rw [h1] at he; exact h g hg he
  · rw [h1] at he; injection he with he; have := ho.lt g hg; omega
theorem Own.apart {w w' : World} {lo hi n : Nat} {v v1 : Value} {xs : List Int} (h : Own w lo hi v n xs) (hg : w.grownBy w' v1.ownBlock) (ha : Apart v v1) : Own w' lo hi v n xs :=
  h.grown hg (by
    cases hv : v.ownBlock with
    | none => exact .inl rfl
    | some g => exact .inr (fun he => ha g hv he.symm))

end Go.Proofs.Ytgenehiiakdadaa
