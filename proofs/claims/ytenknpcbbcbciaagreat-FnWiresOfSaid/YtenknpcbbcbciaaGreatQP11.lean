/- The product's gates and outs; slices of rows; rows beside makers. No program in sight. append onto the tail of a row of the call's own. Contracts of the reference's product. A maker whose outs are any slice: its words' returns; a gate. Words of a maker whose outs are any slice. -/
import Derived.Test.YtenknpcbbcbciaaGreatQP06
import Derived.Deep.AppendSrc
import Derived.Deep.RegionLaw
import Derived.Test.YtenknpcbbcbciaaGreatQP10
namespace Go.Proofs.YtenknpcbbcbciaaGreat
open Go.RowKit
set_option linter.unusedVariables false
set_option linter.unusedSimpArgs false
def prodRest (X : Int) (i : Nat) (s : Go2) : List Int := if i = 1 then s.o.drop 1 ++ [X + s.g.length + 1] else s.o.drop i
def prodG1 (X : Int) (i : Nat) (s : Go2) : List G3 := if i = 1 then s.g ++ [⟨3, 0, 0⟩] ++ [⟨2, X + s.g.length, 0⟩] else s.g
def prodStep (X : Int) (us vs : List Int) (n i : Nat) (s : Go2) : Go2 :=
  if i = 0 then rowG X (gi vs i) us s.g n
  else ⟨(addS X (rowG X (gi vs i) us (prodG1 X i s) n).g (prodRest X i s) (rowG X (gi vs i) us (prodG1 X i s) n).o n).g,
    s.o.take i ++ (addS X (rowG X (gi vs i) us (prodG1 X i s) n).g (prodRest X i s) (rowG X (gi vs i) us (prodG1 X i s) n).o n).o ++ [(addS X (rowG X (gi vs i) us (prodG1 X i s) n).g (prodRest X i s) (rowG X (gi vs i) us (prodG1 X i s) n).o n).c]⟩
def prodS (X : Int) (g0 : List G3) (us vs : List Int) (n : Nat) : Nat → Go2
  | 0 => ⟨g0, []⟩
  | i + 1 => prodStep X us vs n i (prodS X g0 us vs n i)
theorem prodStep_g (X : Int) (us vs : List Int) (n i : Nat) (s : Go2) : (prodStep X us vs n i s).g.length ≤ s.g.length + 6 * n + 2 := by
  unfold prodStep
  split
  · rw [row_g]; omega
  · have h1 := addS_g X (rowG X (gi vs i) us (prodG1 X i s) n).g (prodRest X i s) (rowG X (gi vs i) us (prodG1 X i s) n).o n
    have h2 := row_g X (gi vs i) us (prodG1 X i s) n
    have h3 : (prodG1 X i s).length ≤ s.g.length + 2 := by unfold prodG1; split <;> simp
    dsimp only; omega
theorem prodS_g (X : Int) (g0 : List G3) (us vs : List Int) (n : Nat) (hn : n ≤ 8) (i : Nat) : (prodS X g0 us vs n i).g.length ≤ g0.length + 50 * i := by
  induction i with
  | zero => simp [prodS]
  | succ i ih => have := prodStep_g X us vs n i (prodS X g0 us vs n i); simp only [prodS]; omega
theorem prodS_o (X : Int) (g0 : List G3) (us vs : List Int) (n : Nat) (hn : 1 ≤ n) (i : Nat) : (prodS X g0 us vs n (i + 1)).o.length = if i = 0 then n else i + n + 1 := by
  induction i with
  | zero => simp [prodS, prodStep, row_o]
  | succ i ih =>
    rw [prodS, prodStep, if_neg (by omega), if_neg (by omega)]
    simp only [List.length_append, List.length_take, addS_o, List.length_cons, List.length_nil]
    rw [ih]; split <;> omega
theorem RI.drop_ {w : World} {g o n k : Nat} {xs : List Int} (h : RI w (some ⟨g, o, none⟩) n xs) (hk : k ≤ n) : RI w (some ⟨g, o + k, none⟩) (n - k) (xs.drop k) := by
  refine ⟨by simp [h.len], fun hn => ?_⟩
  obtain ⟨b, q, hA, hlt, hc⟩ := h.2 (by omega)
  simp only [Option.some.injEq, Addr.mk.injEq, and_true] at hA
  obtain ⟨rfl, rfl⟩ := hA
  refine ⟨g, o + k, rfl, hlt, fun j hj => ?_⟩
  rw [show o + k + j = o + (k + j) by omega, hc (k + j) (by omega)]
  simp [gi]
theorem RI.take_ {w : World} {A : Option Addr} {n k : Nat} {xs : List Int} (h : RI w A n xs) (hk : k ≤ n) : RI w A k (xs.take k) := by
  refine ⟨by simp [h.len]; omega, fun hn => ?_⟩
  obtain ⟨b, q, hA, hlt, hc⟩ := h.2 (by omega)
  refine ⟨b, q, hA, hlt, fun j hj => ?_⟩
  rw [hc j (by omega)]
  simp [gi, List.getElem?_take, hj]
theorem OM.ofOwn {w w' : World} {lo' b lo n : Nat} {x y : Int} {gs : List G3} {G : Option Nat} {v : Value} {xs : List Int} (hm : Mk w lo' b x y gs G) (h : Own w' lo w'.heap.size v n xs) (hl : w.heap.size ≤ lo) : OM w' b G lo v n xs :=
  ⟨h, fun g hg => ⟨by have := hm.1; have := h.lt g hg; omega, fun hc => by have := hm.lt g hc; have := h.lt g hg; omega⟩⟩
def OH (w : World) (b : Nat) (G : Option Nat) (lo hi : Nat) (v : Value) (n : Nat) (xs : List Int) : Prop := Own w lo hi v n xs ∧ ∀ g, v.ownBlock = some g → g ≠ b ∧ G ≠ some g
theorem OM.toOH {w : World} {b lo n : Nat} {G : Option Nat} {v : Value} {xs : List Int} (h : OM w b G lo v n xs) : OH w b G lo w.heap.size v n xs := h
theorem OH.toOM {w : World} {b lo hi n : Nat} {G : Option Nat} {v : Value} {xs : List Int} (h : OH w b G lo hi v n xs) : OM w b G lo v n xs := ⟨h.1.now, h.2⟩
theorem OH.mv {w w' : World} {b lo hi n : Nat} {G G' : Option Nat} {v : Value} {xs : List Int} (h : OH w b G lo hi v n xs) (k : Mv b G G' w w') : OH w' b G' lo hi v n xs :=
  ⟨⟨((OH.toOM h).mv k).1.1, h.1.2⟩, ((OH.toOM h).mv k).2⟩
theorem OH.below_ {w w' : World} {b lo hi n B : Nat} {G : Option Nat} {v : Value} {xs : List Int} (h : OH w b G lo hi v n xs) (k : Below B w w') (hB : w.heap.size ≤ B) : OH w' b G lo hi v n xs := ⟨h.1.below k (.inl hB), h.2⟩
theorem OH.alloc_ {w : World} {b lo hi n : Nat} {G : Option Nat} {v : Value} {xs : List Int} (h : OH w b G lo hi v n xs) (o : Obj) : OH (w.alloc o) b G lo hi v n xs := h.below_ ((Below.refl _ _).alloc (Nat.le_refl _) o) (Nat.le_refl _)
theorem OH.hi_ {w : World} {b lo hi hi' n : Nat} {G : Option Nat} {v : Value} {xs : List Int} (h : OH w b G lo hi v n xs) (hl : hi ≤ hi') : OH w b G lo hi' v n xs := ⟨h.1.hi_ hl, h.2⟩
theorem OH.app {w w' : World} {b lo hi n lo' m c : Nat} {G : Option Nat} {v : Value} {xs ys : List Int} {A : Option Addr} (h : OH w b G lo hi v n xs) (ho : OM w b G lo' (.slice A m c) m ys) (hg : w.grownBy w' (Value.slice A m c).ownBlock) (hl : hi ≤ lo') : OH w' b G lo hi v n xs := by
  refine ⟨h.1.grown hg ?_, h.2⟩
  cases hv : v.ownBlock with
  | none => exact .inl rfl
  | some g => exact .inr (fun he => by have := h.1.lt g hv; have := ho.1.lt g he.symm; omega)
theorem with_0 (A : Option Addr) (n c : Nat) (xs : List Int) (w : World) (ha : RI w A n xs) (hn : n ≤ 2097152) :
    Calls Tryz.prog 46 #[.slice A n c, .slice none 0 0] w fun e w' => ∃ A' c', e = .returned (.slice A' n c') ∧ Own w' w.heap.size w'.heap.size (.slice A' n c') n xs ∧ Below w.heap.size w w' :=
  (with_any A none n c 0 0 xs [] w ha ⟨rfl, fun h => absurd h (by omega)⟩ hn (by omega)).mono fun e w' ⟨A', c', h1, h2, h3⟩ => ⟨A', c', by simpa using h1, by simpa using h2, h3⟩
theorem run_app_off (w : World) (ty : TypeId) (lo hi g n oc q c : Nat) (xs : List Int) (v : Int) (hown : Own w lo hi (.slice (some ⟨g, 0, none⟩) n oc) n xs) (hn : 2 ≤ n) (hn2 : n ≤ 1000) (hlo : lo ≤ w.heap.size) (hr : RI w (some ⟨q, 0, none⟩) 1 [v]) :
    ∃ gA oA c' w', (Builtin.append_ #[24, 24] ty #[.slice (some ⟨g, 1, none⟩) (n - 1) (oc - 1), .slice (some ⟨q, 0, none⟩) 1 c]).run Tryz.prog w = .ok (.slice (some ⟨gA, oA, none⟩) n c') w' ∧
      RI w' (some ⟨gA, oA, none⟩) n (xs.drop 1 ++ [v]) ∧ RI w' (some ⟨g, 0, none⟩) 1 (xs.take 1) ∧ w.grownBy w' (some g) ∧ (gA = g ∨ gA = w.heap.size) := by
  obtain ⟨i, hi0, hz0, hz1, hz2⟩ := info_parts info_int
  have hl := hown.len
  have hcv : w.cell? ⟨q, 0, none⟩ = some (.int .i64 v) := by
    obtain ⟨b, o, hA, _, hc⟩ := hr.at_ (k := 0) (by omega)
    simp only [Option.some.injEq, Addr.mk.injEq, and_true] at hA
    obtain ⟨rfl, rfl⟩ := hA
    simpa [gi] using hc
  have hnews : ∀ j u, [Value.int .i64 v][j]? = some u → w.cell? ((⟨q, 0, none⟩ : Addr).add j) = some u := by
    intro j u hu
    cases j with
    | zero => rw [addr_add]; simp at hu; rw [← hu]; simpa using hcv
    | succ j => simp at hu
  rcases hown.1.2 with ⟨h, _⟩ | ⟨g', cap, cur, h, hgl, hg, hnc, _, hcs, _⟩
  · simp at h
  · simp only [Value.slice.injEq, Option.some.injEq, Addr.mk.injEq, and_true, true_and] at h
    obtain ⟨rfl, rfl⟩ := h
    by_cases hroom : n + 1 ≤ oc
    · have hs : Src Tryz.prog i.size 24 (.slice (some ⟨q, 0, none⟩) 1 c) 1 [.int .i64 v] w := Src.ofSlice w Tryz.underlying24 _ _ _ _ (by simp [hz1]) hnews (by simp [Value.oneCell'])
      have hcc : ∀ o, o = n → (w.cell? ⟨g, o, none⟩).isSome = true ∧ w.frozen? ⟨g, o, none⟩ = false := by
        rintro o rfl
        refine ⟨?_, frozen_of_row w g _ cur _ hg⟩
        rw [cell_of_row _ g _ _ _ _ hg]
        simp; omega
      have r1 := run_append_room_src (P := Tryz.prog) w 24 24 ty 3 i Tryz.underlying24 hi0 g 1 (n - 1) (oc - 1) _ 1 _ hs (by omega) (fun j hj => (hcc _ (by simp at hj; rw [hz1]; omega)).1) (fun j hj => (hcc _ (by simp at hj; rw [hz1]; omega)).2)
      have r2 := run_append_room_src (P := Tryz.prog) w 24 24 ty 3 i Tryz.underlying24 hi0 g 0 n oc _ 1 _ hs (by omega) (fun j hj => (hcc _ (by simp at hj; rw [hz1]; omega)).1) (fun j hj => (hcc _ (by simp at hj; rw [hz1]; omega)).2)
      obtain ⟨A', c', w', r3, h2, h3, h4, h5⟩ := run_appI w ty lo hi n oc 1 c (some ⟨g, 0, none⟩) (some ⟨q, 0, none⟩) xs [v] hown hr (by omega) hlo
      rw [r2] at r3
      simp only [Result.ok.injEq, Value.slice.injEq, true_and] at r3
      obtain ⟨⟨rfl, rfl⟩, hw⟩ := r3
      have he : 1 + (n - 1) * i.size = 0 + n * i.size := by rw [hz1]; omega
      rw [he, show n - 1 + 1 = n by omega, hw] at r1
      have hrd := h2.reads
      refine ⟨g, 1, oc - 1, w', r1, ?_, ?_, ?_, .inl rfl⟩
      · have := hrd.drop_ (k := 1) (by omega)
        rw [List.drop_append_of_le_length (by omega)] at this
        simpa using this
      · have := hrd.take_ (k := 1) (by omega)
        rwa [List.take_append_of_le_length (by omega)] at this
      · simpa [Value.ownBlock] using h3
    · have hoc : oc = n := by omega
      subst hoc
      have hold : ∀ j u, ((xs.drop 1).map (Value.int .i64))[j]? = some u → w.cell? ((⟨g, 1, none⟩ : Addr).add j) = some u := by
        intro j u hu
        have hrd := hown.reads.drop_ (k := 1) (by omega)
        rw [addr_add]
        rw [List.getElem?_map] at hu
        have hj : j < (xs.drop 1).length := by
          rcases Nat.lt_or_ge j (xs.drop 1).length with h | h
          · exact h
          · rw [List.getElem?_eq_none h] at hu; simp at hu
        rw [List.getElem?_eq_getElem hj] at hu
        obtain ⟨b, o, hA, _, hc⟩ := hrd.at_ (k := j) (by simp at hj; omega)
        simp only [Option.some.injEq, Addr.mk.injEq, and_true] at hA
        obtain ⟨rfl, rfl⟩ := hA
        rw [Nat.zero_add] at hc
        rw [hc, gi_lt hj]
        simpa using hu
      have r1 := run_append_grow (P := Tryz.prog) w 24 ty 3 i (.int .i64 0) Tryz.underlying24 hi0 hz0 ⟨g, 1, none⟩ (oc - 1) (oc - 1) ((xs.drop 1).map (Value.int .i64)) (by simp [hz1]; omega) hold ⟨q, 0, none⟩ 1 c [.int .i64 v] (by simp [hz1]) hnews (by omega) (by omega) (growslice_fits (by omega) (by rw [hz2]; omega))
      rw [show oc - 1 + 1 = oc by omega] at r1
      have hB : Below w.heap.size w (w.drew.alloc (.cells (((xs.drop 1).map (Value.int .i64)).toArray ++ #[Value.int .i64 v] ++ Builtin.zeroCells (Value.int .i64 0).cells (grownCap w oc (oc - 1) 3 - oc)) 3)) := by
        have := (below_drewN (Below.refl w.heap.size w) 1).alloc (Nat.le_refl _) (.cells (((xs.drop 1).map (Value.int .i64)).toArray ++ #[Value.int .i64 v] ++ Builtin.zeroCells (Value.int .i64 0).cells (grownCap w oc (oc - 1) 3 - oc)) 3)
        exact this
      refine ⟨w.heap.size, 0, _, _, r1, ?_, ?_, ?_, .inr rfl⟩
      · refine ⟨by simp; omega, fun _ => ⟨w.heap.size, 0, rfl, by simp, fun j hj => ?_⟩⟩
        have hh : (w.drew.alloc (.cells (((xs.drop 1).map (Value.int .i64)).toArray ++ #[Value.int .i64 v] ++ Builtin.zeroCells (Value.int .i64 0).cells (grownCap w oc (oc - 1) 3 - oc)) 3)).heap[w.heap.size]? = _ := heap_alloc_new w.drew _
        rw [Nat.zero_add]
        rw [cell_of_row _ w.heap.size j _ _ _ hh]
        have hlen : ((xs.drop 1 ++ [v]).map (Value.int .i64)).length = oc := by simp; omega
        have : (((xs.drop 1).map (Value.int .i64)).toArray ++ #[Value.int .i64 v] ++ Builtin.zeroCells (Value.int .i64 0).cells (grownCap w oc (oc - 1) 3 - oc))[j]? = ((xs.drop 1 ++ [v]).map (Value.int .i64))[j]? := by
          rw [Array.getElem?_append_left (by simp; omega)]
          simp [List.map_append]
        rw [this, List.getElem?_map, List.getElem?_eq_getElem (by simp; omega), gi_lt (by simp; omega)]
        rfl
      · exact (hown.reads.take_ (k := 1) (by omega)).below hB (Nat.le_refl _)
      · exact ⟨hB.os, hB.tape, hB.output, hB.size, fun k hk _ => hB.block k hk⟩
theorem wpList_app_off (w : World) {ops : Array Oper} {rest : List Oper} {o : Oper} {a : Act} {Q : Exit → Act → World → Prop} (hgd : o.guard = none) (s x : Operand)
    (ho : o.op = .call { callee := .builtin .append, args := #[s, x], argTypes := #[24, 24] })
    {lo hi g n oc q c : Nat} {xs : List Int} {v : Int} (hs : a.eval s = .slice (some ⟨g, 1, none⟩) (n - 1) (oc - 1)) (hown : Own w lo hi (.slice (some ⟨g, 0, none⟩) n oc) n xs) (hx : a.eval x = .slice (some ⟨q, 0, none⟩) 1 c) (hr : RI w (some ⟨q, 0, none⟩) 1 [v])
    (hn : 2 ≤ n) (hn2 : n ≤ 1000) (hlo : lo ≤ w.heap.size)
    (h : ∀ gA oA c' w', RI w' (some ⟨gA, oA, none⟩) n (xs.drop 1 ++ [v]) → RI w' (some ⟨g, 0, none⟩) 1 (xs.take 1) → w.grownBy w' (some g) → (gA = g ∨ gA = w.heap.size) → wpList Tryz.prog ops Q rest (a.put o.dst (.slice (some ⟨gA, oA, none⟩) n c')) w') : wpList Tryz.prog ops Q (o :: rest) a w := by
  refine wpList_plain hgd fun _ hK => ?_
  obtain ⟨gA, oA, c', w', hrun, h2, h3, h4, h5⟩ := run_app_off w o.type lo hi g n oc q c xs v hown hn hn2 hlo hr
  unfold Oper.wp execOp
  simp only [ho, resolve, invoke, builtin, Sem.run_bind, Sem.run_pure, Result.andThen_ok, List.map_toArray, List.map_cons, List.map_nil, hs, hx, hrun]
  exact hK _ _ (h gA oA c' w' h2 h3 h4 h5)
theorem take_succ_append {A B : List Int} {k : Nat} (h : A.length = k) (hB : B ≠ []) : (A ++ B).take (k + 1) = A ++ [gi B 0] := by
  subst h
  cases B with
  | nil => exact absurd rfl hB
  | cons a l => rw [List.take_length_add_append]; simp [gi]
theorem drop_succ_append {A B : List Int} {k : Nat} (h : A.length = k) : (A ++ B).drop (k + 1) = B.drop 1 := by
  subst h; rw [List.drop_length_add_append]
theorem RM.below_ {w w' : World} {b n B : Nat} {G : Option Nat} {A : Option Addr} {xs : List Int} (h : RM w b G A n xs) (k : Below B w w') (hB : w.heap.size ≤ B) : RM w' b G A n xs := ⟨h.1.below k hB, h.2⟩
def RH (w : World) (b : Nat) (G : Option Nat) (hi : Nat) (A : Option Addr) (n : Nat) (xs : List Int) : Prop := RM w b G A n xs ∧ (0 < n → ∀ k o, A = some ⟨k, o, none⟩ → k < hi)
theorem RM.toRH {w : World} {b n : Nat} {G : Option Nat} {A : Option Addr} {xs : List Int} (h : RM w b G A n xs) : RH w b G w.heap.size A n xs := ⟨h, fun hn k o hA => by
  obtain ⟨j, q, hA', hlt, _⟩ := h.1.2 hn
  rw [hA] at hA'
  simp only [Option.some.injEq, Addr.mk.injEq, and_true] at hA'
  omega⟩
theorem RH.mv {w w' : World} {b n hi : Nat} {G G' : Option Nat} {A : Option Addr} {xs : List Int} (h : RH w b G hi A n xs) (k : Mv b G G' w w') : RH w' b G' hi A n xs := ⟨RM.mv h.1 k, h.2⟩
theorem RH.below_ {w w' : World} {b n B hi : Nat} {G : Option Nat} {A : Option Addr} {xs : List Int} (h : RH w b G hi A n xs) (k : Below B w w') (hB : w.heap.size ≤ B) : RH w' b G hi A n xs := ⟨RM.below_ h.1 k hB, h.2⟩
theorem RH.alloc_ {w : World} {b n hi : Nat} {G : Option Nat} {A : Option Addr} {xs : List Int} (h : RH w b G hi A n xs) (o : Obj) : RH (w.alloc o) b G hi A n xs := h.below_ ((Below.refl _ _).alloc (Nat.le_refl _) o) (Nat.le_refl _)
theorem RH.app {w w' : World} {b n hi lo' m c : Nat} {G : Option Nat} {A A' : Option Addr} {xs ys : List Int} (h : RH w b G hi A n xs) (ho : OM w b G lo' (.slice A' m c) m ys) (hg : w.grownBy w' (Value.slice A' m c).ownBlock) (hl : hi ≤ lo') : RH w' b G hi A n xs := by
  refine ⟨⟨⟨h.1.1.1, fun hn => ?_⟩, h.1.2⟩, h.2⟩
  obtain ⟨j, o, hA, hlt, hc⟩ := h.1.1.2 hn
  have hj := h.2 hn j o hA
  refine ⟨j, o, hA, Nat.lt_of_lt_of_le hlt hg.size, fun i hi => ?_⟩
  rw [← hc i hi]
  exact World.cell?_of_block (w := w) (a := ⟨j, o + i, none⟩) (hg.block j hlt (fun he => by have := ho.1.lt j he.symm; omega))
def TSt (w : World) (b : Nat) (G : Option Nat) (lo n k : Nat) (vo vs : Value) (o : List Int) : Prop :=
  (k = 0 ∧ vo = .slice none 0 0 ∧ vs = .slice none 0 0) ∨
  (k = 1 ∧ ∃ g oc, vo = .slice (some ⟨g, 0, none⟩) 1 oc ∧ vs = .slice (if oc - 1 = 0 then some ⟨g, 0, none⟩ else some ⟨g, 1, none⟩) (n - 1) (oc - 1) ∧ OM w b G lo (.slice (some ⟨g, 0, none⟩) n oc) n o) ∨
  (2 ≤ k ∧ ∃ OA oc SA sc, vo = .slice OA k oc ∧ vs = .slice SA n sc ∧ RM w b G OA k (o.take k) ∧ RM w b G SA n (o.drop k))
structure OQ where
  (A : Option Addr) (n c : Nat)
def MkQ (Qo : OQ) (w : World) (lo b : Nat) (x y : Int) (gs : List G3) (G : Option Nat) : Prop := MkO w lo b x y Qo.A Qo.n Qo.c gs G
section
variable {Qo : OQ} {w w' : World} {lo lo' b n : Nat} {x y : Int} {gs : List G3} {G : Option Nat}
theorem MkQ.lt (h : MkQ Qo w lo b x y gs G) : ∀ g, G = some g → lo ≤ g ∧ g < w.heap.size := MkO.lt h
theorem MkQ.below_ {B : Nat} (h : MkQ Qo w lo b x y gs G) (k : Below B w w') (hB : w.heap.size ≤ B) : MkQ Qo w' lo b x y gs G := MkO.below_ h k hB
theorem MkQ.alloc_ (h : MkQ Qo w lo b x y gs G) (o : Obj) : MkQ Qo (w.alloc o) lo b x y gs G := MkO.alloc_ h o
theorem MkQ.drewN_ (h : MkQ Qo w lo b x y gs G) (k : Nat) : MkQ Qo (w.drewN k) lo b x y gs G := h
theorem MkQ.grown_ {r : Option Nat} (h : MkQ Qo w lo b x y gs G) (k : w.grownBy w' r) (hb : r ≠ some b) (hG : ∀ g, r = some g → G ≠ some g) : MkQ Qo w' lo b x y gs G := MkO.grown_ h k hb hG
theorem MkQ.app {c : Nat} {A : Option Addr} {xs : List Int} (hm : MkQ Qo w lo' b x y gs G) (h : OM w b G lo (.slice A n c) n xs) (hg : w.grownBy w' (Value.slice A n c).ownBlock) : MkQ Qo w' lo' b x y gs G :=
  hm.grown_ hg (fun hc => (h.2 b hc).1 rfl) (fun g hc => (h.2 g hc).2)
theorem OM.appQ {m c c' : Nat} {A A' : Option Addr} {xs ys : List Int} (h : OM w b G lo (.slice A n c) n xs) (hm : MkQ Qo w lo' b x y gs G)
    (ho : Own w' lo w'.heap.size (.slice A' m c') m ys) (hat : (Value.slice A' m c').ownBlock = (Value.slice A n c).ownBlock ∨ (Value.slice A' m c').ownBlock = some w.heap.size) : OM w' b G lo (.slice A' m c') m ys := by
  refine ⟨ho, fun g hg => ?_⟩
  rcases hat with h1 | h1
  · exact h.2 g (h1 ▸ hg)
  · rw [h1] at hg; injection hg with hg; subst hg
    exact ⟨by have := hm.1; omega, fun hc => by have := hm.lt _ hc; omega⟩
theorem OM.newQ (hm : MkQ Qo w lo' b x y gs G) (ys : List Int) (n : Nat) (hn : ys.length = n) (hl : lo ≤ w.heap.size) (hb : n ≤ 4194304) :
    OM (w.alloc (.cells (ys.map (Value.int .i64)).toArray 3)) b G lo (.slice (some ⟨w.heap.size, 0, none⟩) n n) n ys :=
  ⟨(Own_new w ys n lo hn hl hb).now, fun g hg => by
    have hgg : w.heap.size = g := by simpa [Value.ownBlock] using hg
    subst hgg
    exact ⟨by have := hm.1; omega, fun hc => by have := hm.lt _ hc; omega⟩⟩
theorem OM.new0Q (hm : MkQ Qo w lo' b x y gs G) (hl : lo ≤ w.heap.size) : OM (w.alloc (.cells #[] 3)) b G lo (.slice (some ⟨w.heap.size, 0, none⟩) 0 0) 0 [] := by
  simpa using OM.newQ hm [] 0 rfl hl (by omega)
theorem OM.new1Q (hm : MkQ Qo w lo' b x y gs G) (v : Int) (hl : lo ≤ w.heap.size) : OM (w.alloc (.cells #[.int .i64 v] 3)) b G lo (.slice (some ⟨w.heap.size, 0, none⟩) 1 1) 1 [v] := by
  simpa using OM.newQ hm [v] 1 rfl hl (by omega)
theorem OM.ofOwnQ {v : Value} {xs : List Int} (hm : MkQ Qo w lo' b x y gs G) (h : Own w' lo w'.heap.size v n xs) (hl : w.heap.size ≤ lo) : OM w' b G lo v n xs :=
  ⟨h, fun g hg => ⟨by have := h.lt g hg; have := hm.1; omega, fun hc => by have := h.lt g hg; have := hm.lt _ hc; omega⟩⟩
def RetWQ (Qo : OQ) (lo b : Nat) (x y : Int) (gs : List G3) (G : Option Nat) (v : Int) (w : World) (e : Ending) (w' : World) : Prop :=
  ∃ G', e = .returned (.int .i64 v) ∧ MkQ Qo w' lo b x y gs G' ∧ Mv b G G' w w'
def RetAdQ (Qo : OQ) (lo b : Nat) (x y : Int) (s : Ad) (G : Option Nat) (n : Nat) (w : World) (e : Ending) (w' : World) : Prop :=
  ∃ G' O oc, e = .returned (.tuple #[.slice O n oc, .int .i64 s.c]) ∧ MkQ Qo w' lo b x y s.g G' ∧ Mv b G G' w w' ∧ OM w' b G' w.heap.size (.slice O n oc) n s.o
def RetRowQ (Qo : OQ) (lo b : Nat) (x y : Int) (gs : List G3) (os : List Int) (G : Option Nat) (w : World) (e : Ending) (w' : World) : Prop :=
  ∃ G' O oc, e = .returned (.slice O os.length oc) ∧ MkQ Qo w' lo b x y gs G' ∧ Mv b G G' w w' ∧ OM w' b G' w.heap.size (.slice O os.length oc) os.length os
theorem RetRowQ.mk_ {os : List Int} {G' : Option Nat} {e : Ending} {O : Option Addr} {oc : Nat} (hn : os.length = n) (he : e = .returned (.slice O n oc)) (hm : MkQ Qo w' lo b x y gs G') (hv : Mv b G G' w w') (ho : OM w' b G' w.heap.size (.slice O n oc) n os) : RetRowQ Qo lo b x y gs os G w e w' := by
  subst hn; exact ⟨G', O, oc, he, hm, hv, ho⟩
theorem RetRowQ.open_ {os : List Int} {e : Ending} (h : RetRowQ Qo lo b x y gs os G w e w') (hn : os.length = n) :
    ∃ G' O oc, e = .returned (.slice O n oc) ∧ MkQ Qo w' lo b x y gs G' ∧ Mv b G G' w w' ∧ OM w' b G' w.heap.size (.slice O n oc) n os := by
  subst hn; exact h
end
variable {Qo : OQ}
set_option maxHeartbeats 800000 in
theorem maker_gateQ_any (lo b : Nat) (x y : Int) (gs : List G3) (G : Option Nat) (k p q : Int) (w : World) (hm : MkQ Qo w lo b x y gs G) (hx : 0 ≤ x ∧ x ≤ 20) (hy : 0 ≤ y ∧ y ≤ 20) (hn : gs.length ≤ 100000) (hlo : lo ≤ w.heap.size) :
    Calls Tryz.prog 167 #[.pointer (some ⟨b, 0, none⟩), .int .i64 k, .int .i64 p, .int .i64 q] w (RetWQ Qo lo b x y (gs ++ [⟨k, p, q⟩]) G (x + y + gs.length) w) := by
  obtain ⟨h1, h2, hf, Ag, cg, hbx, hown, rfl⟩ := hm
  have hal : Below w.heap.size w (w.alloc (.cells #[.int .i64 k, .int .i64 p, .int .i64 q] 104)) := (Below.refl _ _).alloc (Nat.le_refl _) _
  have hownA := hown.alloc (.cells #[.int .i64 k, .int .i64 p, .int .i64 q] 104)
  have hbxA := hbx.below hal
  have hbb : b < (w.alloc (.cells #[.int .i64 k, .int .i64 p, .int .i64 q] 104)).heap.size := by simp; omega
  have hfA : ∀ r : Nat, (w.alloc (.cells #[.int .i64 k, .int .i64 p, .int .i64 q] 104)).frozen? ⟨b, r, none⟩ = false := fun r => (hal.frozen (p := ⟨b, r, none⟩) h1).trans (hf r)
  have hq := hbx; obtain ⟨k0, k1, k2, k3⟩ := hq
  go_enter Tryz.func167, Tryz.ntmps167
  go_wp2_with (at_builtin; refine wpList_appG _ rfl _ _ rfl rfl hownA rfl (RG_new1 _ _ _ _ _) (by omega) (by simp; omega) ?_; intro A5 c5 w5 hown5 hg5 hat5 hk5; obtain ⟨hmk, hmv⟩ := MkO.made hbb h2 hfA hbxA hown5 hg5 hat5; have hq5 := hbxA.grown hg5 h2; obtain ⟨j0, j1, j2, j3⟩ := hq5; have hq6 := hmk; obtain ⟨_, _, hf6, A6, c6, hx6, _, _⟩ := hq6; have hf5 : w5.frozen? ⟨b, 2, none⟩ = false := (World.frozen?_setCell _ _ _ _).symm.trans (hf6 2); obtain ⟨i0, i1, i2, i3⟩ := hx6)
  have q1 : x + y + ((gs.length : Int) + 1) - 1 = x + y + gs.length := by omega
  clear j0 j1 j2 j3 i0 i1 i2 i3
  refine (Circuit_wires_any x y A6 (gs.length + 1) c6 Qo.A Qo.n Qo.c _ hx hy (by omega)).mono ?_
  rintro e w6 ⟨rfl, hb6⟩
  go_wp2
  go_ret
  exact ⟨_, by rw [← q1]; rfl, MkO.below_ hmk hb6 (Nat.le_refl _), (((Mv.refl_ b _ w).alloc_ _).trans_ hmv).below_ hb6 (Nat.le_refl _)⟩
set_option maxHeartbeats 800000 in
theorem ciMaker_gateQ_any (lo b : Nat) (x y : Int) (gs : List G3) (G : Option Nat) (k p q : Int) (w : World) (hm : MkQ Qo w lo b x y gs G) (hx : 0 ≤ x ∧ x ≤ 20) (hy : 0 ≤ y ∧ y ≤ 20) (hn : gs.length ≤ 100000) (hlo : lo ≤ w.heap.size) :
    Calls Tryz.prog 147 #[.pointer (some ⟨b, 0, none⟩), .int .i64 k, .int .i64 p, .int .i64 q] w (RetWQ Qo lo b x y (gs ++ [⟨k, p, q⟩]) G (x + y + gs.length) w) := by
  obtain ⟨h1, h2, hf, Ag, cg, hbx, hown, rfl⟩ := hm
  have hal : Below w.heap.size w (w.alloc (.cells #[.int .i64 k, .int .i64 p, .int .i64 q] 104)) := (Below.refl _ _).alloc (Nat.le_refl _) _
  have hownA := hown.alloc (.cells #[.int .i64 k, .int .i64 p, .int .i64 q] 104)
  have hbxA := hbx.below hal
  have hbb : b < (w.alloc (.cells #[.int .i64 k, .int .i64 p, .int .i64 q] 104)).heap.size := by simp; omega
  have hfA : ∀ r : Nat, (w.alloc (.cells #[.int .i64 k, .int .i64 p, .int .i64 q] 104)).frozen? ⟨b, r, none⟩ = false := fun r => (hal.frozen (p := ⟨b, r, none⟩) h1).trans (hf r)
  have hq := hbx; obtain ⟨k0, k1, k2, k3⟩ := hq
  go_enter Tryz.func147, Tryz.ntmps147
  go_wp2_with (at_builtin; refine wpList_appG _ rfl _ _ rfl rfl hownA rfl (RG_new1 _ _ _ _ _) (by omega) (by simp; omega) ?_; intro A5 c5 w5 hown5 hg5 hat5 hk5; obtain ⟨hmk, hmv⟩ := MkO.made hbb h2 hfA hbxA hown5 hg5 hat5; have hq5 := hbxA.grown hg5 h2; obtain ⟨j0, j1, j2, j3⟩ := hq5; have hq6 := hmk; obtain ⟨_, _, hf6, A6, c6, hx6, _, _⟩ := hq6; have hf5 : w5.frozen? ⟨b, 2, none⟩ = false := (World.frozen?_setCell _ _ _ _).symm.trans (hf6 2); obtain ⟨i0, i1, i2, i3⟩ := hx6)
  have q1 : x + y + ((gs.length : Int) + 1) - 1 = x + y + gs.length := by omega
  clear j0 j1 j2 j3 i0 i1 i2 i3
  refine (ciWires_any x y A6 (gs.length + 1) c6 Qo.A Qo.n Qo.c _ hx hy (by omega)).mono ?_
  rintro e w6 ⟨rfl, hb6⟩
  go_wp2
  go_ret
  exact ⟨_, by rw [← q1]; rfl, MkO.below_ hmk hb6 (Nat.le_refl _), (((Mv.refl_ b _ w).alloc_ _).trans_ hmv).below_ hb6 (Nat.le_refl _)⟩
variable {Qo : OQ}
theorem maker_xorQ_any (lo b : Nat) (x y : Int) (gs : List G3) (G : Option Nat) (p q : Int) (w : World) (hm : MkQ Qo w lo b x y gs G) (hx : 0 ≤ x ∧ x ≤ 20) (hy : 0 ≤ y ∧ y ≤ 20) (hn : gs.length ≤ 100000) (hlo : lo ≤ w.heap.size) :
    Calls Tryz.prog 166 #[.pointer (some ⟨b, 0, none⟩), .int .i64 p, .int .i64 q] w (RetWQ Qo lo b x y (gs ++ [⟨0, p, q⟩]) G (x + y + gs.length) w) := by
  go_enter Tryz.func166, Tryz.ntmps166
  go_wp2_with fail
  refine (maker_gateQ_any lo b x y gs G 0 p q w hm hx hy hn hlo).mono ?_
  rintro e w1 ⟨G1, rfl, hm1, hv1⟩
  go_wp2
  go_ret
  exact ⟨G1, rfl, hm1, hv1⟩
theorem maker_andQ_any (lo b : Nat) (x y : Int) (gs : List G3) (G : Option Nat) (p q : Int) (w : World) (hm : MkQ Qo w lo b x y gs G) (hx : 0 ≤ x ∧ x ≤ 20) (hy : 0 ≤ y ∧ y ≤ 20) (hn : gs.length ≤ 100000) (hlo : lo ≤ w.heap.size) :
    Calls Tryz.prog 165 #[.pointer (some ⟨b, 0, none⟩), .int .i64 p, .int .i64 q] w (RetWQ Qo lo b x y (gs ++ [⟨1, p, q⟩]) G (x + y + gs.length) w) := by
  go_enter Tryz.func165, Tryz.ntmps165
  go_wp2_with fail
  refine (maker_gateQ_any lo b x y gs G 1 p q w hm hx hy hn hlo).mono ?_
  rintro e w1 ⟨G1, rfl, hm1, hv1⟩
  go_wp2
  go_ret
  exact ⟨G1, rfl, hm1, hv1⟩
theorem ciMaker_xorQ_any (lo b : Nat) (x y : Int) (gs : List G3) (G : Option Nat) (p q : Int) (w : World) (hm : MkQ Qo w lo b x y gs G) (hx : 0 ≤ x ∧ x ≤ 20) (hy : 0 ≤ y ∧ y ≤ 20) (hn : gs.length ≤ 100000) (hlo : lo ≤ w.heap.size) :
    Calls Tryz.prog 146 #[.pointer (some ⟨b, 0, none⟩), .int .i64 p, .int .i64 q] w (RetWQ Qo lo b x y (gs ++ [⟨0, p, q⟩]) G (x + y + gs.length) w) := by
  go_enter Tryz.func146, Tryz.ntmps146
  go_wp2_with fail
  refine (ciMaker_gateQ_any lo b x y gs G 0 p q w hm hx hy hn hlo).mono ?_
  rintro e w1 ⟨G1, rfl, hm1, hv1⟩
  go_wp2
  go_ret
  exact ⟨G1, rfl, hm1, hv1⟩
theorem ciMaker_andQ_any (lo b : Nat) (x y : Int) (gs : List G3) (G : Option Nat) (p q : Int) (w : World) (hm : MkQ Qo w lo b x y gs G) (hx : 0 ≤ x ∧ x ≤ 20) (hy : 0 ≤ y ∧ y ≤ 20) (hn : gs.length ≤ 100000) (hlo : lo ≤ w.heap.size) :
    Calls Tryz.prog 145 #[.pointer (some ⟨b, 0, none⟩), .int .i64 p, .int .i64 q] w (RetWQ Qo lo b x y (gs ++ [⟨1, p, q⟩]) G (x + y + gs.length) w) := by
  go_enter Tryz.func145, Tryz.ntmps145
  go_wp2_with fail
  refine (ciMaker_gateQ_any lo b x y gs G 1 p q w hm hx hy hn hlo).mono ?_
  rintro e w1 ⟨G1, rfl, hm1, hv1⟩
  go_wp2
  go_ret
  exact ⟨G1, rfl, hm1, hv1⟩
theorem maker_notQ_any (lo b : Nat) (x y : Int) (gs : List G3) (G : Option Nat) (p : Int) (w : World) (hm : MkQ Qo w lo b x y gs G) (hx : 0 ≤ x ∧ x ≤ 20) (hy : 0 ≤ y ∧ y ≤ 20) (hn : gs.length ≤ 100000) (hlo : lo ≤ w.heap.size) :
    Calls Tryz.prog 153 #[.pointer (some ⟨b, 0, none⟩), .int .i64 p] w (RetWQ Qo lo b x y (gs ++ [⟨2, p, 0⟩]) G (x + y + gs.length) w) := by
  go_enter Tryz.func153, Tryz.ntmps153
  go_wp2_with fail
  refine (maker_gateQ_any lo b x y gs G 2 p 0 w hm hx hy hn hlo).mono ?_
  rintro e w1 ⟨G1, rfl, hm1, hv1⟩
  go_wp2
  go_ret
  exact ⟨G1, rfl, hm1, hv1⟩
theorem ciMaker_notQ_any (lo b : Nat) (x y : Int) (gs : List G3) (G : Option Nat) (p : Int) (w : World) (hm : MkQ Qo w lo b x y gs G) (hx : 0 ≤ x ∧ x ≤ 20) (hy : 0 ≤ y ∧ y ≤ 20) (hn : gs.length ≤ 100000) (hlo : lo ≤ w.heap.size) :
    Calls Tryz.prog 125 #[.pointer (some ⟨b, 0, none⟩), .int .i64 p] w (RetWQ Qo lo b x y (gs ++ [⟨2, p, 0⟩]) G (x + y + gs.length) w) := by
  go_enter Tryz.func125, Tryz.ntmps125
  go_wp2_with fail
  refine (ciMaker_gateQ_any lo b x y gs G 2 p 0 w hm hx hy hn hlo).mono ?_
  rintro e w1 ⟨G1, rfl, hm1, hv1⟩
  go_wp2
  go_ret
  exact ⟨G1, rfl, hm1, hv1⟩
theorem ciMaker_oneQ_any (lo b : Nat) (x y : Int) (gs : List G3) (G : Option Nat) (w : World) (hm : MkQ Qo w lo b x y gs G) (hx : 0 ≤ x ∧ x ≤ 20) (hy : 0 ≤ y ∧ y ≤ 20) (hn : gs.length ≤ 100000) (hlo : lo ≤ w.heap.size) :
    Calls Tryz.prog 140 #[.pointer (some ⟨b, 0, none⟩)] w (RetWQ Qo lo b x y (gs ++ [⟨3, 0, 0⟩]) G (x + y + gs.length) w) := by
  go_enter Tryz.func140, Tryz.ntmps140
  go_wp2_with fail
  refine (ciMaker_gateQ_any lo b x y gs G 3 0 0 w hm hx hy hn hlo).mono ?_
  rintro e w1 ⟨G1, rfl, hm1, hv1⟩
  go_wp2
  go_ret
  exact ⟨G1, rfl, hm1, hv1⟩
theorem maker_xorQ_v (lo b : Nat) (x y : Int) (gs : List G3) (G : Option Nat) (p q v : Int) (w : World) (hm : MkQ Qo w lo b x y gs G) (hx : 0 ≤ x ∧ x ≤ 20) (hy : 0 ≤ y ∧ y ≤ 20) (hn : gs.length ≤ 100000) (hlo : lo ≤ w.heap.size) (hv : x + y + (gs.length : Int) = v) :
    Calls Tryz.prog 166 #[.pointer (some ⟨b, 0, none⟩), .int .i64 p, .int .i64 q] w (RetWQ Qo lo b x y (gs ++ [⟨0, p, q⟩]) G v w) := by
  subst hv; exact maker_xorQ_any lo b x y gs G p q w hm hx hy hn hlo
theorem maker_andQ_v (lo b : Nat) (x y : Int) (gs : List G3) (G : Option Nat) (p q v : Int) (w : World) (hm : MkQ Qo w lo b x y gs G) (hx : 0 ≤ x ∧ x ≤ 20) (hy : 0 ≤ y ∧ y ≤ 20) (hn : gs.length ≤ 100000) (hlo : lo ≤ w.heap.size) (hv : x + y + (gs.length : Int) = v) :
    Calls Tryz.prog 165 #[.pointer (some ⟨b, 0, none⟩), .int .i64 p, .int .i64 q] w (RetWQ Qo lo b x y (gs ++ [⟨1, p, q⟩]) G v w) := by
  subst hv; exact maker_andQ_any lo b x y gs G p q w hm hx hy hn hlo
theorem ciMaker_xorQ_v (lo b : Nat) (x y : Int) (gs : List G3) (G : Option Nat) (p q v : Int) (w : World) (hm : MkQ Qo w lo b x y gs G) (hx : 0 ≤ x ∧ x ≤ 20) (hy : 0 ≤ y ∧ y ≤ 20) (hn : gs.length ≤ 100000) (hlo : lo ≤ w.heap.size) (hv : x + y + (gs.length : Int) = v) :
    Calls Tryz.prog 146 #[.pointer (some ⟨b, 0, none⟩), .int .i64 p, .int .i64 q] w (RetWQ Qo lo b x y (gs ++ [⟨0, p, q⟩]) G v w) := by
  subst hv; exact ciMaker_xorQ_any lo b x y gs G p q w hm hx hy hn hlo
theorem ciMaker_andQ_v (lo b : Nat) (x y : Int) (gs : List G3) (G : Option Nat) (p q v : Int) (w : World) (hm : MkQ Qo w lo b x y gs G) (hx : 0 ≤ x ∧ x ≤ 20) (hy : 0 ≤ y ∧ y ≤ 20) (hn : gs.length ≤ 100000) (hlo : lo ≤ w.heap.size) (hv : x + y + (gs.length : Int) = v) :
    Calls Tryz.prog 145 #[.pointer (some ⟨b, 0, none⟩), .int .i64 p, .int .i64 q] w (RetWQ Qo lo b x y (gs ++ [⟨1, p, q⟩]) G v w) := by
  subst hv; exact ciMaker_andQ_any lo b x y gs G p q w hm hx hy hn hlo
theorem maker_notQ_v (lo b : Nat) (x y : Int) (gs : List G3) (G : Option Nat) (p v : Int) (w : World) (hm : MkQ Qo w lo b x y gs G) (hx : 0 ≤ x ∧ x ≤ 20) (hy : 0 ≤ y ∧ y ≤ 20) (hn : gs.length ≤ 100000) (hlo : lo ≤ w.heap.size) (hv : x + y + (gs.length : Int) = v) :
    Calls Tryz.prog 153 #[.pointer (some ⟨b, 0, none⟩), .int .i64 p] w (RetWQ Qo lo b x y (gs ++ [⟨2, p, 0⟩]) G v w) := by
  subst hv; exact maker_notQ_any lo b x y gs G p w hm hx hy hn hlo
theorem ciMaker_notQ_v (lo b : Nat) (x y : Int) (gs : List G3) (G : Option Nat) (p v : Int) (w : World) (hm : MkQ Qo w lo b x y gs G) (hx : 0 ≤ x ∧ x ≤ 20) (hy : 0 ≤ y ∧ y ≤ 20) (hn : gs.length ≤ 100000) (hlo : lo ≤ w.heap.size) (hv : x + y + (gs.length : Int) = v) :
    Calls Tryz.prog 125 #[.pointer (some ⟨b, 0, none⟩), .int .i64 p] w (RetWQ Qo lo b x y (gs ++ [⟨2, p, 0⟩]) G v w) := by
  subst hv; exact ciMaker_notQ_any lo b x y gs G p w hm hx hy hn hlo
theorem maker_zeroQ_v (lo b : Nat) (x y : Int) (gs : List G3) (G : Option Nat) (v : Int) (w : World) (hm : MkQ Qo w lo b x y gs G) (hx : 0 ≤ x ∧ x ≤ 20) (hy : 0 ≤ y ∧ y ≤ 20) (hn : gs.length ≤ 90000) (hlo : lo ≤ w.heap.size) (hv : x + y + (gs.length : Int) = v) :
    Calls Tryz.prog 160 #[.pointer (some ⟨b, 0, none⟩)] w (RetWQ Qo lo b x y (gs ++ [⟨3, 0, 0⟩] ++ [⟨2, v, 0⟩]) G (v + 1) w) := by
  subst hv
  go_enter Tryz.func160, Tryz.ntmps160
  go_wp2_with fail
  refine (maker_gateQ_any lo b x y gs G 3 0 0 w hm hx hy (by omega) hlo).mono ?_
  rintro e w1 ⟨G1, rfl, hm1, hv1⟩
  go_wp2_with fail
  refine (maker_notQ_v lo b x y (gs ++ [⟨3, 0, 0⟩]) G1 (x + y + gs.length) (x + y + gs.length + 1) _ hm1 hx hy (by simp; omega) (Nat.le_trans hlo hv1.size) (by simp; omega)).mono ?_
  rintro e w2 ⟨G2, rfl, hm2, hv2⟩
  go_wp2
  go_ret
  exact ⟨G2, rfl, hm2, hv1.trans_ hv2⟩
end Go.Proofs.YtenknpcbbcbciaaGreat
