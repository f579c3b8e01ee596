/- Worlds that differ in some blocks alone; marking as the laws do it. Rows of the call's own and worlds: gates' rows beside numbers' rows; circuits as results. No condition. append onto rows of the call's own, of numbers and of gates; what was read before is read behind it. Lengths below 2^21. -/
import Derived.Test.YtenknpcbbcbciaaGreatQP03
import Derived.Test.YtenknpcbbcbciaaGreatQP01
namespace Go.Proofs.YtenknpcbbcbciaaGreat
open Go.RowKit
set_option linter.unusedVariables false
set_option linter.unusedSimpArgs false
structure Chg (lo hi : Nat) (w w' : World) : Prop where
  os : w'.os = w.os
  tape : w'.tape = w.tape
  output : w'.output = w.output
  size : w.heap.size ≤ w'.heap.size
  block : ∀ k, k < w.heap.size → k < lo ∨ hi ≤ k → w'.heap[k]? = w.heap[k]?
theorem Chg.refl_ (lo hi : Nat) (w : World) : Chg lo hi w w := ⟨rfl, rfl, rfl, Nat.le_refl _, fun _ _ _ => rfl⟩
theorem Chg.trans_ {lo hi : Nat} {a b c : World} (h : Chg lo hi a b) (k : Chg lo hi b c) : Chg lo hi a c :=
  ⟨k.os.trans h.os, k.tape.trans h.tape, k.output.trans h.output, Nat.le_trans h.size k.size, fun i hi ho => (k.block i (Nat.lt_of_lt_of_le hi h.size) ho).trans (h.block i hi ho)⟩
theorem Chg.of_below {lo hi : Nat} {a b : World} (h : Below a.heap.size a b) : Chg lo hi a b := ⟨h.os, h.tape, h.output, h.size, fun i hi _ => h.block i hi⟩
theorem Chg.of_grown {lo hi n : Nat} {v : Value} {xs : List Int} {a b : World} (h : Own a lo hi v n xs) (hg : a.grownBy b v.ownBlock) : Chg lo hi a b :=
  ⟨hg.os, hg.tape, hg.output, hg.size, fun i hi ho => hg.block i hi (fun he => by have := h.lt i he.symm; omega)⟩
theorem Chg.below_ {lo hi B : Nat} {a b c : World} (h : Below B a b) (k : Chg lo hi b c) (hB : B ≤ lo) (hB2 : B ≤ b.heap.size) : Below B a c :=
  ⟨k.os.trans h.os, k.tape.trans h.tape, k.output.trans h.output, Nat.le_trans h.size k.size, fun i hi => (k.block i (by omega) (.inl (by omega))).trans (h.block i hi)⟩
theorem Own.chg {w w' : World} {lo hi lo' hi' n : Nat} {v : Value} {xs : List Int} (h : Own w lo hi v n xs) (k : Chg lo' hi' w w') (hd : hi ≤ lo' ∨ hi' ≤ lo) : Own w' lo hi v n xs := by
  refine ⟨⟨h.1.1, ?_⟩, h.2⟩
  rcases h.1.2 with h1 | ⟨g, cap, cur, rfl, hlo, hg, r⟩
  · exact .inl h1
  · have hl := h.lt g (by simp [Value.ownBlock])
    exact .inr ⟨g, cap, cur, rfl, hlo, by rw [k.block g (by omega) (by omega)]; exact hg, r⟩
theorem RI.chg {w w' : World} {A : Option Addr} {n B lo hi : Nat} {xs : List Int} (h : RI w A n xs) (k : Chg lo hi w w') (hb : ∀ b o, A = some ⟨b, o, none⟩ → b < lo ∨ hi ≤ b) : RI w' A n xs :=
  ⟨h.1, fun hn => by
    obtain ⟨b, o, hA, hlt, hc⟩ := h.2 hn
    refine ⟨b, o, hA, Nat.lt_of_lt_of_le hlt k.size, fun j hj => ?_⟩
    rw [← hc j hj]
    exact World.cell?_of_block (w := w) (a := ⟨b, o + j, none⟩) (k.block b hlt (hb b o hA))⟩
theorem Own.far {w : World} {lo hi n : Nat} {v : Value} {xs : List Int} (h : Own w lo hi v n xs) (p : Addr) (u : Value) (hp : p.block < lo ∨ hi ≤ p.block) : Own (w.setCell p u) lo hi v n xs := by
  refine ⟨⟨h.1.1, ?_⟩, h.2⟩
  rcases h.1.2 with h1 | ⟨g, cap, cur, rfl, hlo, hg, r⟩
  · exact .inl h1
  · refine .inr ⟨g, cap, cur, rfl, hlo, ?_, r⟩
    have := h.lt g (by simp [Value.ownBlock])
    rw [Below.heap_setCell w p u g (by omega)]; exact hg
theorem OwnG.far {w : World} {lo hi n : Nat} {v : Value} {xs : List G3} (h : OwnG w lo hi v n xs) (p : Addr) (u : Value) (hp : p.block < lo ∨ hi ≤ p.block) : OwnG (w.setCell p u) lo hi v n xs := by
  refine ⟨⟨h.1.1, ?_⟩, h.2⟩
  rcases h.1.2 with h1 | ⟨g, cap, cur, rfl, hlo, hg, r⟩
  · exact .inl h1
  · refine .inr ⟨g, cap, cur, rfl, hlo, ?_, r⟩
    have := h.lt g (by simp [Value.ownBlock])
    rw [Below.heap_setCell w p u g (by omega)]; exact hg
theorem OwnG.chg {w w' : World} {lo hi lo' hi' n : Nat} {v : Value} {xs : List G3} (h : OwnG w lo hi v n xs) (k : Chg lo' hi' w w') (hd : hi ≤ lo' ∨ hi' ≤ lo) : OwnG w' lo hi v n xs := by
  refine ⟨⟨h.1.1, ?_⟩, h.2⟩
  rcases h.1.2 with h1 | ⟨g, cap, cur, rfl, hlo, hg, r⟩
  · exact .inl h1
  · have hl := h.lt g (by simp [Value.ownBlock])
    exact .inr ⟨g, cap, cur, rfl, hlo, by rw [k.block g (by omega) (by omega)]; exact hg, r⟩
theorem OwnG.apart {w w' : World} {lo hi n : Nat} {v v1 : Value} {xs : List G3} (h : OwnG w lo hi v n xs) (hg : w.grownBy w' v1.ownBlock) (ha : Apart v v1) : OwnG w' lo hi v n xs := by
  refine h.grown hg ?_
  cases hv : v.ownBlock with
  | none => exact .inl rfl
  | some g => exact .inr (fun he => ha g hv he.symm)
theorem Apart.noneG (v : Value) (n c : Nat) : Apart (.slice none n c) v := fun g h _ => by simp [Value.ownBlock] at h
def OwnC (w : World) (lo hi : Nat) (Ag : Option Addr) (ng cg : Nat) (Ao : Option Addr) (no co : Nat) (gs : List G3) (os : List Int) : Prop :=
  OwnG w lo hi (.slice Ag ng cg) ng gs ∧ Own w lo hi (.slice Ao no co) no os ∧ Apart (.slice Ag ng cg) (.slice Ao no co)
section
variable {w w' : World} {lo hi : Nat} {Ag : Option Addr} {ng cg : Nat} {Ao : Option Addr} {no co : Nat} {gs : List G3} {os : List Int}
theorem OwnC.below {B : Nat} (h : OwnC w lo hi Ag ng cg Ao no co gs os) (hb : Below B w w') (hB : w.heap.size ≤ B ∨ hi ≤ B) : OwnC w' lo hi Ag ng cg Ao no co gs os :=
  ⟨h.1.below hb hB, h.2.1.below hb hB, h.2.2⟩
theorem OwnC.chg {lo' hi' : Nat} (h : OwnC w lo hi Ag ng cg Ao no co gs os) (k : Chg lo' hi' w w') (hd : hi ≤ lo' ∨ hi' ≤ lo) : OwnC w' lo hi Ag ng cg Ao no co gs os :=
  ⟨h.1.chg k hd, h.2.1.chg k hd, h.2.2⟩
theorem OwnC.far (h : OwnC w lo hi Ag ng cg Ao no co gs os) (p : Addr) (u : Value) (hp : p.block < lo ∨ hi ≤ p.block) : OwnC (w.setCell p u) lo hi Ag ng cg Ao no co gs os :=
  ⟨h.1.far p u hp, h.2.1.far p u hp, h.2.2⟩
theorem OwnC.reads (h : OwnC w lo hi Ag ng cg Ao no co gs os) : RG w Ag ng gs ∧ RI w Ao no os := ⟨h.1.reads, h.2.1.reads⟩
theorem OwnC.none_ (w : World) (lo hi : Nat) : OwnC w lo hi none 0 0 none 0 0 [] [] := ⟨OwnG.none_ _ _ _, Own.none_ _ _ _, Apart.noneG _ _ _⟩
theorem OwnC.lo_ {lo' : Nat} (h : OwnC w lo hi Ag ng cg Ao no co gs os) (hl : lo' ≤ lo) : OwnC w lo' hi Ag ng cg Ao no co gs os := ⟨h.1.lo_ hl, h.2.1.lo_ hl, h.2.2⟩
theorem OwnC.hi_ {hi' : Nat} (h : OwnC w lo hi Ag ng cg Ao no co gs os) (hl : hi ≤ hi') : OwnC w lo hi' Ag ng cg Ao no co gs os := ⟨h.1.hi_ hl, h.2.1.hi_ hl, h.2.2⟩
theorem OwnC.now (h : OwnC w lo hi Ag ng cg Ao no co gs os) : OwnC w lo w.heap.size Ag ng cg Ao no co gs os := ⟨h.1.now, h.2.1.now, h.2.2⟩
end
structure Ai where
  p : Int
  i0 : Int
  i1 : Int
  gs : List G3
  os : List Int
def RetC (w : World) (o : Option Ci) (e : Ending) (w' : World) : Prop :=
  ∃ Ag cg Ao co, e = .returned (.tuple #[.agg #[.int .i64 (o.getD ⟨0, 0, [], []⟩).i0, .int .i64 (o.getD ⟨0, 0, [], []⟩).i1, .slice Ag (o.getD ⟨0, 0, [], []⟩).gs.length cg, .slice Ao (o.getD ⟨0, 0, [], []⟩).os.length co], .bool o.isSome]) ∧
    OwnC w' w.heap.size w'.heap.size Ag (o.getD ⟨0, 0, [], []⟩).gs.length cg Ao (o.getD ⟨0, 0, [], []⟩).os.length co (o.getD ⟨0, 0, [], []⟩).gs (o.getD ⟨0, 0, [], []⟩).os ∧ Below w.heap.size w w'
def RetA (w : World) (o : Option Ai) (e : Ending) (w' : World) : Prop :=
  ∃ Ag cg Ao co, e = .returned (.tuple #[.agg #[.int .i64 (o.getD ⟨0, 0, 0, [], []⟩).p, .int .i64 (o.getD ⟨0, 0, 0, [], []⟩).i0, .int .i64 (o.getD ⟨0, 0, 0, [], []⟩).i1, .slice Ag (o.getD ⟨0, 0, 0, [], []⟩).gs.length cg, .slice Ao (o.getD ⟨0, 0, 0, [], []⟩).os.length co], .bool o.isSome]) ∧
    OwnC w' w.heap.size w'.heap.size Ag (o.getD ⟨0, 0, 0, [], []⟩).gs.length cg Ao (o.getD ⟨0, 0, 0, [], []⟩).os.length co (o.getD ⟨0, 0, 0, [], []⟩).gs (o.getD ⟨0, 0, 0, [], []⟩).os ∧ Below w.heap.size w w'
theorem RetC.none_ {w : World} {o : Option Ci} {e : Ending} {w' : World} (hb : Below w.heap.size w w') (ho : o = none) (he : e = .returned (.tuple #[.agg #[.int .i64 0, .int .i64 0, .slice none 0 0, .slice none 0 0], .bool false])) : RetC w o e w' := by
  subst ho; exact ⟨none, 0, none, 0, he, OwnC.none_ _ _ _, hb⟩
theorem RetA.none_ {w : World} {o : Option Ai} {e : Ending} {w' : World} (hb : Below w.heap.size w w') (ho : o = none) (he : e = .returned (.tuple #[.agg #[.int .i64 0, .int .i64 0, .int .i64 0, .slice none 0 0, .slice none 0 0], .bool false])) : RetA w o e w' := by
  subst ho; exact ⟨none, 0, none, 0, he, OwnC.none_ _ _ _, hb⟩
theorem RetC.some_ {w : World} {o : Option Ci} {x y : Int} {gs : List G3} {os : List Int} {ng cg no co : Nat} {Ag Ao : Option Addr} {e : Ending} {w' : World} (hb : Below w.heap.size w w') (ho : o = some ⟨x, y, gs, os⟩) (hng : gs.length = ng) (hno : os.length = no)
    (he : e = .returned (.tuple #[.agg #[.int .i64 x, .int .i64 y, .slice Ag ng cg, .slice Ao no co], .bool true])) (hw : OwnC w' w.heap.size w'.heap.size Ag ng cg Ao no co gs os) : RetC w o e w' := by
  subst ho; subst hng; subst hno; exact ⟨Ag, cg, Ao, co, he, hw, hb⟩
theorem RetA.some_ {w : World} {o : Option Ai} {p x y : Int} {gs : List G3} {os : List Int} {ng cg no co : Nat} {Ag Ao : Option Addr} {e : Ending} {w' : World} (hb : Below w.heap.size w w') (ho : o = some ⟨p, x, y, gs, os⟩) (hng : gs.length = ng) (hno : os.length = no)
    (he : e = .returned (.tuple #[.agg #[.int .i64 p, .int .i64 x, .int .i64 y, .slice Ag ng cg, .slice Ao no co], .bool true])) (hw : OwnC w' w.heap.size w'.heap.size Ag ng cg Ao no co gs os) : RetA w o e w' := by
  subst ho; subst hng; subst hno; exact ⟨Ag, cg, Ao, co, he, hw, hb⟩
def BxC (w : World) (b : Nat) (x y : Int) (Ag : Option Addr) (ng cg : Nat) (Ao : Option Addr) (no co : Nat) : Prop :=
  w.cell? ⟨b, 0, none⟩ = some (.int .i64 x) ∧ w.cell? ⟨b, 1, none⟩ = some (.int .i64 y) ∧ w.cell? ⟨b, 2, none⟩ = some (.slice Ag ng cg) ∧ w.cell? ⟨b, 3, none⟩ = some (.slice Ao no co)
def BxA (w : World) (b : Nat) (p x y : Int) (Ag : Option Addr) (ng cg : Nat) (Ao : Option Addr) (no co : Nat) : Prop :=
  w.cell? ⟨b, 0, none⟩ = some (.int .i64 p) ∧ w.cell? ⟨b, 1, none⟩ = some (.int .i64 x) ∧ w.cell? ⟨b, 2, none⟩ = some (.int .i64 y) ∧ w.cell? ⟨b, 3, none⟩ = some (.slice Ag ng cg) ∧ w.cell? ⟨b, 4, none⟩ = some (.slice Ao no co)
theorem cell_chg {lo hi : Nat} {w w' : World} {p : Addr} {v : Value} (h : w.cell? p = some v) (k : Chg lo hi w w') (hb : p.block < lo ∨ hi ≤ p.block) : w'.cell? p = some v :=
  (World.cell?_of_block (w := w) (k.block p.block (World.block_lt_of_cell? w _ h) hb)).trans h
theorem cell_bel {w w' : World} {p : Addr} {v : Value} (h : w.cell? p = some v) (hb : Below w.heap.size w w') : w'.cell? p = some v :=
  (hb.cell (World.block_lt_of_cell? w _ h)).trans h
section
variable {w w' : World} {b : Nat} {p x y : Int} {Ag : Option Addr} {ng cg : Nat} {Ao : Option Addr} {no co : Nat}
theorem BxC.below (h : BxC w b x y Ag ng cg Ao no co) (hb : Below w.heap.size w w') : BxC w' b x y Ag ng cg Ao no co :=
  ⟨cell_bel h.1 hb, cell_bel h.2.1 hb, cell_bel h.2.2.1 hb, cell_bel h.2.2.2 hb⟩
theorem BxA.below (h : BxA w b p x y Ag ng cg Ao no co) (hb : Below w.heap.size w w') : BxA w' b p x y Ag ng cg Ao no co :=
  ⟨cell_bel h.1 hb, cell_bel h.2.1 hb, cell_bel h.2.2.1 hb, cell_bel h.2.2.2.1 hb, cell_bel h.2.2.2.2 hb⟩
theorem BxC.chg {lo hi : Nat} (h : BxC w b x y Ag ng cg Ao no co) (k : Chg lo hi w w') (hb : b < lo ∨ hi ≤ b) : BxC w' b x y Ag ng cg Ao no co :=
  ⟨cell_chg h.1 k hb, cell_chg h.2.1 k hb, cell_chg h.2.2.1 k hb, cell_chg h.2.2.2 k hb⟩
theorem BxA.chg {lo hi : Nat} (h : BxA w b p x y Ag ng cg Ao no co) (k : Chg lo hi w w') (hb : b < lo ∨ hi ≤ b) : BxA w' b p x y Ag ng cg Ao no co :=
  ⟨cell_chg h.1 k hb, cell_chg h.2.1 k hb, cell_chg h.2.2.1 k hb, cell_chg h.2.2.2.1 k hb, cell_chg h.2.2.2.2 k hb⟩
theorem BxC.new (w : World) (T : TypeId) : BxC (w.alloc (.cells #[.int .i64 x, .int .i64 y, .slice Ag ng cg, .slice Ao no co] T)) w.heap.size x y Ag ng cg Ao no co :=
  ⟨box_cell w _ 0 _ rfl, box_cell w _ 1 _ rfl, box_cell w _ 2 _ rfl, box_cell w _ 3 _ rfl⟩
theorem BxA.new (w : World) (T : TypeId) : BxA (w.alloc (.cells #[.int .i64 p, .int .i64 x, .int .i64 y, .slice Ag ng cg, .slice Ao no co] T)) w.heap.size p x y Ag ng cg Ao no co :=
  ⟨box_cell w _ 0 _ rfl, box_cell w _ 1 _ rfl, box_cell w _ 2 _ rfl, box_cell w _ 3 _ rfl, box_cell w _ 4 _ rfl⟩
end
section
variable {P : Program} (w : World)
def StayA (A0 : Option Addr) (n : Nat) (w w' : World) : Prop := ∀ b o u, w.cell? ⟨b, o, none⟩ = some u → (∀ g, A0 = some ⟨g, 0, none⟩ → b = g → o < n) → w'.cell? ⟨b, o, none⟩ = some u
theorem StayA.refl_ (A0 : Option Addr) (n : Nat) (w : World) : StayA A0 n w w := fun _ _ _ h _ => h
def RV (w : World) (A : Option Addr) (m size : Nat) (news : List Value) : Prop :=
  news.length = m * size ∧ (0 < m → ∃ ad, A = some ad ∧ ∀ j u, news[j]? = some u → w.cell? (ad.add j) = some u)
theorem run_appV_nil (t ty e : TypeId) (i : TypeInfo) (ht : P.underlying t = some (.slice e)) (hi : P.info? e = some i) (base size n c0 c : Nat) (A0 : Option Addr) (xs : List Value) (hown : w.ownsRow base e size (.slice A0 n c0) n xs) :
    (Builtin.append_ #[t, t] ty #[.slice A0 n c0, .slice none 0 c]).run P w = .ok (.slice A0 n c0) w := by
  rcases hown.2 with ⟨h, rfl⟩ | ⟨g, cap, cur, h, _, _, hnc, _⟩
  · simp only [Value.slice.injEq] at h
    obtain ⟨rfl, _, rfl⟩ := h
    simp [Builtin.append_, run_underlying ht, sizeOf, typeInfo, hi, Builtin.lenOf, Builtin.firstCells]
  · simp only [Value.slice.injEq, true_and] at h
    obtain ⟨rfl, rfl⟩ := h
    simp [Builtin.append_, run_underlying ht, sizeOf, typeInfo, hi, Builtin.lenOf, Builtin.firstCells, hnc, storeCells]
theorem run_appV (t ty e : TypeId) (i : TypeInfo) (z : Value) (size bytes : Nat) (ht : P.underlying t = some (.slice e)) (hi : P.info? e = some i) (hz : i.zero = some z) (hsize : i.size = size) (hby : i.bytes = bytes) (hzs : z.cells.size = size) (hsz : 0 < size)
    (base n c0 m c : Nat) (A0 A : Option Addr) (xs news : List Value) (hown : w.ownsRow base e size (.slice A0 n c0) n xs) (hr : RV w A m size news) (h1 : ∀ u ∈ news, u.oneCell' = true)
    (h63 : n + m ≤ maxLen) (hbytes : (n + m) * bytes ≤ 140737488355328) (hbase : base ≤ w.heap.size) :
    ∃ A' c' w', (Builtin.append_ #[t, t] ty #[.slice A0 n c0, .slice A m c]).run P w = .ok (.slice A' (n + m) c') w' ∧ w'.ownsRow base e size (.slice A' (n + m) c') (n + m) (xs ++ news) ∧
      w.grownBy w' (Value.slice A0 n c0).ownBlock ∧ ((Value.slice A' (n + m) c').ownBlock = (Value.slice A0 n c0).ownBlock ∨ (Value.slice A' (n + m) c').ownBlock = some w.heap.size) ∧ StayA A0 (n * size) w w' := by
  have hsmall : n + m ≤ 9223372036854775807 := by simp only [maxLen] at h63; omega
  have hcase : A = none ∧ m = 0 ∨ ∃ ad, A = some ad ∧ ∀ j u, news[j]? = some u → w.cell? (ad.add j) = some u := by
    rcases A with _ | ad
    · refine .inl ⟨rfl, ?_⟩
      rcases Nat.eq_zero_or_pos m with h0 | h0
      · exact h0
      · obtain ⟨ad, h, _⟩ := hr.2 h0
        cases h
    · refine .inr ⟨ad, rfl, fun j u hu => ?_⟩
      rcases Nat.eq_zero_or_pos m with h0 | h0
      · subst h0
        have hn : news = [] := List.eq_nil_of_length_eq_zero (by simpa using hr.1)
        subst hn
        simp at hu
      · obtain ⟨ad', h, hc⟩ := hr.2 h0
        injection h with h
        subst h
        exact hc j u hu
  rcases hcase with ⟨rfl, rfl⟩ | ⟨ad, rfl, hc⟩
  · have hn : news = [] := List.eq_nil_of_length_eq_zero (by simpa using hr.1)
    subst hn
    exact ⟨A0, c0, w, run_appV_nil w t ty e i ht hi base size n c0 c A0 xs hown, by simpa using hown, World.grownBy.refl w _, .inl rfl, StayA.refl_ _ _ _⟩
  · obtain ⟨v', w', hrun, h2, h3, _, h5⟩ := run_append_own_at (P := P) w base t ty e i z size bytes ht hi hz hsize hby hzs hsz (.slice A0 n c0) n xs hown ad m c news hr.1 hc h1 h63 hbytes hbase
    have hform : ∃ A' c', v' = .slice A' (n + m) c' := by
      rcases h2.2 with ⟨h, h'⟩ | ⟨g, cap, cur, h, _⟩
      · exact ⟨none, 0, by rw [h, h']⟩
      · exact ⟨_, _, h⟩
    obtain ⟨A', c', rfl⟩ := hform
    refine ⟨A', c', w', hrun, h2, h3, h5, fun b o u hu hlt => ?_⟩
    have hbl := World.block_lt_of_cell? w _ hu
    by_cases hb : (Value.slice A0 n c0).ownBlock = some b
    · rcases hown.2 with ⟨h, _⟩ | ⟨g, cap, cur, h, hbg, hg, hnc, hcm, hcs, htake⟩
      · rw [h] at hb; simp [Value.ownBlock] at hb
      · simp only [Value.slice.injEq, true_and] at h
        obtain ⟨rfl, rfl⟩ := h
        have hgb : g = b := by simpa [Value.ownBlock] using hb
        subst hgb
        have ho := hlt g rfl rfl
        have hx : xs[o]? = some u := by
          have := hown.cells (g := g) rfl o (xs[o]'(by rw [hown.1]; exact ho)) (List.getElem?_eq_getElem _)
          rw [Addr.add_lit, Nat.zero_add, hu] at this
          rw [List.getElem?_eq_getElem (by rw [hown.1]; exact ho), ← this]
        by_cases hroom : n + m ≤ c0
        · have hfit : n * i.size + news.length ≤ cur.size := by rw [hr.1, hcs, ← hsize, ← Nat.add_mul]; exact Nat.mul_le_mul_right _ hroom
          have hr' := run_append_room (P := P) w t ty e i ht hi g n c0 cur hg ad m c news (by rw [hr.1, hsize]) hc h1 hroom hfit
          rw [hrun] at hr'
          simp only [Result.ok.injEq, Value.slice.injEq] at hr'
          obtain ⟨⟨rfl, _, rfl⟩, _⟩ := hr'
          have := h2.cells (g := g) rfl o u (by rw [List.getElem?_append_left (by rw [hown.1]; exact ho)]; exact hx)
          rwa [Addr.add_lit, Nat.zero_add] at this
        · have holds : ∀ j u, xs[j]? = some u → w.cell? ((⟨g, 0, none⟩ : Addr).add j) = some u := hown.cells (g := g) rfl
          have hr' := run_append_grow (P := P) w t ty e i z ht hi hz ⟨g, 0, none⟩ n c0 xs (by rw [hown.1, hsize]) holds ad m c news (by rw [hr.1, hsize]) hc (by omega) (by omega) (growslice_fits (by omega) (by rw [hby]; exact hbytes))
          rw [hrun] at hr'
          simp only [Result.ok.injEq] at hr'
          rw [hr'.2]
          exact (World.cell?_alloc_lt w.drew _ _ (by simpa using hbl)).trans hu
    · rw [← hu]
      exact World.cell?_of_block (w := w) (a := ⟨b, o, none⟩) (h3.block b hbl (fun e => hb e.symm))
end
theorem RV_of_RI {w : World} {A : Option Addr} {m : Nat} {ys : List Int} (h : RI w A m ys) : RV w A m 1 (ys.map (Value.int .i64)) := by
  refine ⟨by simp [h.len], fun hm => ?_⟩
  obtain ⟨b, o, rfl, _, hc⟩ := h.2 hm
  refine ⟨_, rfl, fun j u hu => ?_⟩
  have hl := h.len
  have hj : j < ys.length := by
    rcases Nat.lt_or_ge j ys.length with h | h
    · exact h
    · rw [List.getElem?_eq_none (by simpa using h)] at hu; cases hu
  rw [addr_add, hc j (by omega), gi_lt hj]
  rw [List.getElem?_map, List.getElem?_eq_getElem hj] at hu
  exact hu
theorem RV_of_RG {w : World} {A : Option Addr} {m : Nat} {gs : List G3} (h : RG w A m gs) : RV w A m 3 (gcells gs) := by
  refine ⟨by rw [gcells_len, h.len], fun hm => ?_⟩
  obtain ⟨b, o, rfl, _, hc⟩ := h.2 hm
  refine ⟨_, rfl, fun j u hu => ?_⟩
  have hl := h.len
  have hj : j < (gcells gs).length := by
    rcases Nat.lt_or_ge j (gcells gs).length with h | h
    · exact h
    · rw [List.getElem?_eq_none h] at hu; cases hu
  rw [gcells_len] at hj
  rw [addr_add]
  obtain ⟨q0, q1, q2⟩ := gcells_at gs (j / 3) (by omega)
  obtain ⟨c0, c1, c2⟩ := hc (j / 3) (by omega)
  have hm3 : j % 3 = 0 ∨ j % 3 = 1 ∨ j % 3 = 2 := by omega
  rcases hm3 with h3 | h3 | h3
  · have hjj : j / 3 * 3 = j := by omega
    rw [hjj, hu] at q0
    rw [hjj] at c0
    rw [c0, q0]
  · have hjj : j / 3 * 3 + 1 = j := by omega
    rw [hjj, hu] at q1
    rw [Nat.add_assoc, hjj] at c1
    rw [c1, q1]
  · have hjj : j / 3 * 3 + 2 = j := by omega
    rw [hjj, hu] at q2
    rw [Nat.add_assoc, hjj] at c2
    rw [c2, q2]
theorem gcells_one (gs : List G3) : ∀ u ∈ gcells gs, u.oneCell' = true := by
  intro u hu
  simp only [gcells, List.mem_flatMap, List.mem_cons, List.not_mem_nil, or_false] at hu
  obtain ⟨g, _, rfl | rfl | rfl⟩ := hu <;> rfl
theorem gcells_append (gs hs : List G3) : gcells (gs ++ hs) = gcells gs ++ gcells hs := by simp [gcells]
section
variable (w : World)
theorem run_appI (ty : TypeId) (lo hi n c0 m c : Nat) (A0 A : Option Addr) (xs ys : List Int) (hown : Own w lo hi (.slice A0 n c0) n xs) (hr : RI w A m ys) (hlen : n + m ≤ 8388608) (hlo : lo ≤ w.heap.size) :
    ∃ A' c' w', (Builtin.append_ #[24, 24] ty #[.slice A0 n c0, .slice A m c]).run Tryz.prog w = .ok (.slice A' (n + m) c') w' ∧
      Own w' lo w'.heap.size (.slice A' (n + m) c') (n + m) (xs ++ ys) ∧ w.grownBy w' (Value.slice A0 n c0).ownBlock ∧
      ((Value.slice A' (n + m) c').ownBlock = (Value.slice A0 n c0).ownBlock ∨ (Value.slice A' (n + m) c').ownBlock = some w.heap.size) ∧ StayA A0 n w w' := by
  obtain ⟨i, hi0, hz0, hz1, hz2⟩ := info_parts info_int
  obtain ⟨A', c', w', hrun, h2, h3, h4, h5⟩ := run_appV (P := Tryz.prog) w 24 ty 3 i (.int .i64 0) 1 8 Tryz.underlying24 hi0 hz0 hz1 hz2 rfl (by decide) lo n c0 m c A0 A _ _ hown.1 (RV_of_RI hr) (ints_one ys) (by unfold maxLen; omega) (by omega) hlo
  rw [← List.map_append] at h2
  rw [Nat.mul_one] at h5
  exact ⟨A', c', w', hrun, Own.mk_ h2, h3, h4, h5⟩
theorem wp_appI {o : Oper} {a : Act} {K : Act → World → Prop} {Q : Exit → Act → World → Prop} (s x : Operand)
    (ho : o.op = .call { callee := .builtin .append, args := #[s, x], argTypes := #[24, 24] })
    {lo hi n c0 m c : Nat} {A0 A : Option Addr} {xs ys : List Int} (hs : a.eval s = .slice A0 n c0) (hown : Own w lo hi (.slice A0 n c0) n xs) (hx : a.eval x = .slice A m c) (hr : RI w A m ys)
    (hlen : n + m ≤ 8388608) (hlo : lo ≤ w.heap.size)
    (h : ∀ A' c' w', Own w' lo w'.heap.size (.slice A' (n + m) c') (n + m) (xs ++ ys) → w.grownBy w' (Value.slice A0 n c0).ownBlock → ((Value.slice A' (n + m) c').ownBlock = (Value.slice A0 n c0).ownBlock ∨ (Value.slice A' (n + m) c').ownBlock = some w.heap.size) → StayA A0 n w w' → K (a.put o.dst (.slice A' (n + m) c')) w') : o.wp Tryz.prog a w K Q := by
  obtain ⟨A', c', w', hrun, h2, h3, h4, h5⟩ := run_appI w o.type lo hi n c0 m c A0 A xs ys hown hr hlen hlo
  unfold Oper.wp execOp
  simp only [ho, resolve, invoke, builtin, Sem.run_bind, Sem.run_pure, Result.andThen_ok, List.map_toArray, List.map_cons, List.map_nil, hs, hx, hrun]
  exact h A' c' w' h2 h3 h4 h5
theorem step_appI {ops : Array Oper} {o : Oper} {a : Act} {K : Act → World → Prop} {Q : Exit → Act → World → Prop} {E : Prop} (hgd : o.guard = none) (s x : Operand)
    (ho : o.op = .call { callee := .builtin .append, args := #[s, x], argTypes := #[24, 24] })
    {lo hi n c0 m c : Nat} {A0 A : Option Addr} {xs ys : List Int} (hs : a.eval s = .slice A0 n c0) (hown : Own w lo hi (.slice A0 n c0) n xs) (hx : a.eval x = .slice A m c) (hr : RI w A m ys)
    (hlen : n + m ≤ 8388608) (hlo : lo ≤ w.heap.size)
    (h : ∀ A' c' w', Own w' lo w'.heap.size (.slice A' (n + m) c') (n + m) (xs ++ ys) → w.grownBy w' (Value.slice A0 n c0).ownBlock → ((Value.slice A' (n + m) c').ownBlock = (Value.slice A0 n c0).ownBlock ∨ (Value.slice A' (n + m) c').ownBlock = some w.heap.size) → StayA A0 n w w' → K (a.put o.dst (.slice A' (n + m) c')) w') :
    if Region.wanted o (yielded ops a.tmps) = true then Oper.wp Tryz.prog o a w K Q else E := by
  have hw : Region.wanted o (yielded ops a.tmps) = true := by simp [Region.wanted, hgd]
  rw [if_pos hw]
  exact wp_appI w s x ho hs hown hx hr hlen hlo h
theorem info_gateI : (Tryz.prog.info? 104).map (fun i => (i.zero, i.size, i.bytes)) = some (some (.agg #[.int .i64 0, .int .i64 0, .int .i64 0]), 3, 24) := by kernel_rfl
theorem run_appG (ty : TypeId) (lo hi n c0 m c : Nat) (A0 A : Option Addr) (xs ys : List G3) (hown : OwnG w lo hi (.slice A0 n c0) n xs) (hr : RG w A m ys) (hlen : n + m ≤ 8388608) (hlo : lo ≤ w.heap.size) :
    ∃ A' c' w', (Builtin.append_ #[36, 36] ty #[.slice A0 n c0, .slice A m c]).run Tryz.prog w = .ok (.slice A' (n + m) c') w' ∧
      OwnG w' lo w'.heap.size (.slice A' (n + m) c') (n + m) (xs ++ ys) ∧ w.grownBy w' (Value.slice A0 n c0).ownBlock ∧
      ((Value.slice A' (n + m) c').ownBlock = (Value.slice A0 n c0).ownBlock ∨ (Value.slice A' (n + m) c').ownBlock = some w.heap.size) ∧ StayA A0 (n * 3) w w' := by
  obtain ⟨i, hi0, hz0, hz1, hz2⟩ := info_parts info_gateI
  obtain ⟨A', c', w', hrun, h2, h3, h4, h5⟩ := run_appV (P := Tryz.prog) w 36 ty 104 i _ 3 24 Tryz.underlying36 hi0 hz0 hz1 hz2 rfl (by decide) lo n c0 m c A0 A _ _ hown.1 (RV_of_RG hr) (gcells_one ys) (by unfold maxLen; omega) (by omega) hlo
  rw [← gcells_append] at h2
  exact ⟨A', c', w', hrun, OwnG.mk_ h2, h3, h4, h5⟩
theorem wp_appG {o : Oper} {a : Act} {K : Act → World → Prop} {Q : Exit → Act → World → Prop} (s x : Operand)
    (ho : o.op = .call { callee := .builtin .append, args := #[s, x], argTypes := #[36, 36] })
    {lo hi n c0 m c : Nat} {A0 A : Option Addr} {xs ys : List G3} (hs : a.eval s = .slice A0 n c0) (hown : OwnG w lo hi (.slice A0 n c0) n xs) (hx : a.eval x = .slice A m c) (hr : RG w A m ys)
    (hlen : n + m ≤ 8388608) (hlo : lo ≤ w.heap.size)
    (h : ∀ A' c' w', OwnG w' lo w'.heap.size (.slice A' (n + m) c') (n + m) (xs ++ ys) → w.grownBy w' (Value.slice A0 n c0).ownBlock → ((Value.slice A' (n + m) c').ownBlock = (Value.slice A0 n c0).ownBlock ∨ (Value.slice A' (n + m) c').ownBlock = some w.heap.size) → StayA A0 (n * 3) w w' → K (a.put o.dst (.slice A' (n + m) c')) w') : o.wp Tryz.prog a w K Q := by
  obtain ⟨A', c', w', hrun, h2, h3, h4, h5⟩ := run_appG w o.type lo hi n c0 m c A0 A xs ys hown hr hlen hlo
  unfold Oper.wp execOp
  simp only [ho, resolve, invoke, builtin, Sem.run_bind, Sem.run_pure, Result.andThen_ok, List.map_toArray, List.map_cons, List.map_nil, hs, hx, hrun]
  exact h A' c' w' h2 h3 h4 h5
theorem wpList_appI {ops : Array Oper} {rest : List Oper} {o : Oper} {a : Act} {Q : Exit → Act → World → Prop} (hgd : o.guard = none) (s x : Operand)
    (ho : o.op = .call { callee := .builtin .append, args := #[s, x], argTypes := #[24, 24] })
    {lo hi n c0 m c : Nat} {A0 A : Option Addr} {xs ys : List Int} (hs : a.eval s = .slice A0 n c0) (hown : Own w lo hi (.slice A0 n c0) n xs) (hx : a.eval x = .slice A m c) (hr : RI w A m ys)
    (hlen : n + m ≤ 8388608) (hlo : lo ≤ w.heap.size)
    (h : ∀ A' c' w', Own w' lo w'.heap.size (.slice A' (n + m) c') (n + m) (xs ++ ys) → w.grownBy w' (Value.slice A0 n c0).ownBlock → ((Value.slice A' (n + m) c').ownBlock = (Value.slice A0 n c0).ownBlock ∨ (Value.slice A' (n + m) c').ownBlock = some w.heap.size) → StayA A0 n w w' → wpList Tryz.prog ops Q rest (a.put o.dst (.slice A' (n + m) c')) w') : wpList Tryz.prog ops Q (o :: rest) a w :=
  wpList_plain hgd fun _ hK => wp_appI w s x ho hs hown hx hr hlen hlo fun A' c' w' h2 h3 h4 h5 => hK _ _ (h A' c' w' h2 h3 h4 h5)
theorem wpList_appG {ops : Array Oper} {rest : List Oper} {o : Oper} {a : Act} {Q : Exit → Act → World → Prop} (hgd : o.guard = none) (s x : Operand)
    (ho : o.op = .call { callee := .builtin .append, args := #[s, x], argTypes := #[36, 36] })
    {lo hi n c0 m c : Nat} {A0 A : Option Addr} {xs ys : List G3} (hs : a.eval s = .slice A0 n c0) (hown : OwnG w lo hi (.slice A0 n c0) n xs) (hx : a.eval x = .slice A m c) (hr : RG w A m ys)
    (hlen : n + m ≤ 8388608) (hlo : lo ≤ w.heap.size)
    (h : ∀ A' c' w', OwnG w' lo w'.heap.size (.slice A' (n + m) c') (n + m) (xs ++ ys) → w.grownBy w' (Value.slice A0 n c0).ownBlock → ((Value.slice A' (n + m) c').ownBlock = (Value.slice A0 n c0).ownBlock ∨ (Value.slice A' (n + m) c').ownBlock = some w.heap.size) → StayA A0 (n * 3) w w' → wpList Tryz.prog ops Q rest (a.put o.dst (.slice A' (n + m) c')) w') : wpList Tryz.prog ops Q (o :: rest) a w :=
  wpList_plain hgd fun _ hK => wp_appG w s x ho hs hown hx hr hlen hlo fun A' c' w' h2 h3 h4 h5 => hK _ _ (h A' c' w' h2 h3 h4 h5)
end
end Go.Proofs.YtenknpcbbcbciaaGreat
