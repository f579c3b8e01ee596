/- Words for gates, circuits and arithmetic circuits in memory; regions whose order is open, whose operations read and whose callees return plain values. -/
import Derived.Test.YtgenehiiakdadaaQPlain
import Derived.Test.YtgenehiiakdadaaQApp
namespace Go.Proofs.Ytgenehiiakdadaa
open Go.RowKit
set_option linter.unusedVariables false
set_option linter.unusedSimpArgs false

/-- A gate. -/
structure G3 where
  k : Int
  a : Int
  b : Int
/-- The j-th gate. -/
def gg (gs : List G3) (j : Nat) : G3 := gs.getD j ⟨0, 0, 0⟩
theorem gg_lt {gs : List G3} {j : Nat} (h : j < gs.length) : gg gs j = gs[j] := by simp [gg, h]
theorem gg_mem {gs : List G3} {j : Nat} (h : j < gs.length) : gg gs j ∈ gs := by rw [gg_lt h]; exact List.getElem_mem h
theorem gg_take_snoc {gs : List G3} {k : Nat} (h : k < gs.length) : gs.take (k + 1) = gs.take k ++ [gg gs k] := by
  rw [List.take_succ_eq_append_getElem h, gg_lt h]
/-- The slice value '.slice A n c' reads as the gates gs. -/
def RG (w : World) (A : Option Addr) (n : Nat) (gs : List G3) : Prop :=
  gs.length = n ∧ (0 < n → ∃ b o, A = some ⟨b, o, none⟩ ∧ b < w.heap.size ∧ ∀ j, j < n →
    w.cell? ⟨b, o + j * 3, none⟩ = some (.int .i64 (gg gs j).k) ∧ w.cell? ⟨b, o + j * 3 + 1, none⟩ = some (.int .i64 (gg gs j).a) ∧ w.cell? ⟨b, o + j * 3 + 2, none⟩ = some (.int .i64 (gg gs j).b))
theorem RG.len {w : World} {A : Option Addr} {n : Nat} {gs : List G3} (h : RG w A n gs) : gs.length = n := h.1
theorem RG.at_ {w : World} {A : Option Addr} {n : Nat} {gs : List G3} {k : Nat} (h : RG w A n gs) (hk : k < n) :
    ∃ b o, A = some ⟨b, o, none⟩ ∧ b < w.heap.size ∧ w.cell? ⟨b, o + k * 3, none⟩ = some (.int .i64 (gg gs k).k) ∧ w.cell? ⟨b, o + k * 3 + 1, none⟩ = some (.int .i64 (gg gs k).a) ∧ w.cell? ⟨b, o + k * 3 + 2, none⟩ = some (.int .i64 (gg gs k).b) := by
  obtain ⟨b, o, hA, hb, hc⟩ := h.2 (by omega)
  exact ⟨b, o, hA, hb, hc k hk⟩
theorem RG.below {w w' : World} {A : Option Addr} {n : Nat} {gs : List G3} (h : RG w A n gs) {B : Nat} (hb : Below B w w') (hB : w.heap.size ≤ B) : RG w' A n gs :=
  ⟨h.1, fun hn => by
    obtain ⟨b, o, hA, hlt, hc⟩ := h.2 hn
    have hc' : ∀ q, w'.cell? ⟨b, q, none⟩ = w.cell? ⟨b, q, none⟩ := fun q => hb.cell (p := ⟨b, q, none⟩) (by exact Nat.lt_of_lt_of_le hlt hB)
    refine ⟨b, o, hA, Nat.lt_of_lt_of_le hlt hb.size, fun j hj => ?_⟩
    rw [hc', hc', hc']; exact hc j hj⟩
theorem RG.alloc {w : World} {A : Option Addr} {n : Nat} {gs : List G3} (h : RG w A n gs) (o : Obj) : RG (w.alloc o) A n gs :=
  h.below ((Below.refl _ _).alloc (Nat.le_refl _) o) (Nat.le_refl _)

/-- The cells of a list of gates. -/
def gcells (gs : List G3) : List Value := gs.flatMap fun g => [.int .i64 g.k, .int .i64 g.a, .int .i64 g.b]
theorem gcells_len (gs : List G3) : (gcells gs).length = gs.length * 3 := by
  induction gs with
  | nil => rfl
  | cons g gs ih => simp only [gcells, List.flatMap_cons, List.length_append, List.length_cons, List.length_nil] at ih ⊢; rw [ih]; omega
theorem gcells_at (gs : List G3) : ∀ j, j < gs.length → (gcells gs)[j * 3]? = some (.int .i64 (gg gs j).k) ∧ (gcells gs)[j * 3 + 1]? = some (.int .i64 (gg gs j).a) ∧ (gcells gs)[j * 3 + 2]? = some (.int .i64 (gg gs j).b) := by
  induction gs with
  | nil => intro j hj; simp at hj
  | cons g gs ih =>
    intro j hj
    cases j with
    | zero => exact ⟨rfl, rfl, rfl⟩
    | succ j =>
      have := ih j (by simpa using hj)
      have hc : gcells (g :: gs) = Value.int .i64 g.k :: .int .i64 g.a :: .int .i64 g.b :: gcells gs := rfl
      have hgg : gg (g :: gs) (j + 1) = gg gs j := rfl
      rw [hc, hgg, show (j + 1) * 3 = j * 3 + 1 + 1 + 1 from by omega]
      simpa using this
/-- The slice value v is a row of the call's own between the blocks lo and hi, which holds the gates gs. -/
def OwnG (w : World) (lo hi : Nat) (v : Value) (n : Nat) (gs : List G3) : Prop :=
  w.ownsRow lo 58 3 v n (gcells gs) ∧ ∀ g, v.ownBlock = some g → g < hi

theorem OwnG.len {w : World} {lo hi n : Nat} {v : Value} {xs : List G3} (h : OwnG w lo hi v n xs) : xs.length = n := by
  have := h.1.1; rw [gcells_len] at this; omega
theorem OwnG.lt {w : World} {lo hi n : Nat} {v : Value} {xs : List G3} (h : OwnG w lo hi v n xs) : ∀ g, v.ownBlock = some g → lo ≤ g ∧ g < hi ∧ g < w.heap.size :=
  fun g hg => ⟨(h.1.lt g hg).1, h.2 g hg, (h.1.lt g hg).2⟩
theorem OwnG.mk_ {w : World} {lo n : Nat} {v : Value} {xs : List G3} (h : w.ownsRow lo 58 3 v n (gcells xs)) : OwnG w lo w.heap.size v n xs :=
  ⟨h, fun g hg => (h.lt g hg).2⟩
theorem OwnG.none_ (w : World) (lo hi : Nat) : OwnG w lo hi (.slice none 0 0) 0 [] := ⟨World.ownsRow_nil w lo _ _, fun g hg => by simp [Value.ownBlock] at hg⟩
theorem OwnG.lo_ {w : World} {lo lo' hi n : Nat} {v : Value} {xs : List G3} (h : OwnG w lo hi v n xs) (hl : lo' ≤ lo) : OwnG w lo' hi v n xs := by
  refine ⟨⟨h.1.1, ?_⟩, h.2⟩
  rcases h.1.2 with h1 | ⟨g, cap, cur, hv, hb, r⟩
  · exact .inl h1
  · exact .inr ⟨g, cap, cur, hv, by omega, r⟩
theorem OwnG.hi_ {w : World} {lo hi hi' n : Nat} {v : Value} {xs : List G3} (h : OwnG w lo hi v n xs) (hl : hi ≤ hi') : OwnG w lo hi' v n xs := ⟨h.1, fun g hg => Nat.lt_of_lt_of_le (h.2 g hg) hl⟩
theorem OwnG.now {w : World} {lo hi n : Nat} {v : Value} {xs : List G3} (h : OwnG w lo hi v n xs) : OwnG w lo w.heap.size v n xs := ⟨h.1, fun g hg => (h.lt g hg).2.2⟩
theorem OwnG.form {w : World} {lo hi n : Nat} {v : Value} {xs : List G3} (h : OwnG w lo hi v n xs) : ∃ A c, v = .slice A n c ∧ (A = none → n = 0 ∧ c = 0) ∧ n ≤ c := by
  rcases h.1.2 with ⟨rfl, rfl⟩ | ⟨g, cap, cur, hv, _, _, hnc, _⟩
  · exact ⟨none, 0, rfl, fun _ => ⟨rfl, rfl⟩, Nat.le_refl _⟩
  · exact ⟨_, cap, hv, fun h => by simp at h, hnc⟩
theorem OwnG.grown {w w' : World} {lo hi n : Nat} {v : Value} {xs : List G3} {row : Option Nat} (h : OwnG w lo hi v n xs) (hg : w.grownBy w' row) (hne : v.ownBlock = none ∨ v.ownBlock ≠ row) : OwnG w' lo hi v n xs :=
  ⟨h.1.kept hg hne, h.2⟩
theorem OwnG.below {w w' : World} {lo hi n : Nat} {v : Value} {xs : List G3} {B : Nat} (h : OwnG w lo hi v n xs) (hb : Below B w w') (hB : w.heap.size ≤ B ∨ hi ≤ B) : OwnG w' lo hi v n xs := by
  refine ⟨⟨h.1.1, ?_⟩, h.2⟩
  rcases h.1.2 with h1 | ⟨g, cap, cur, rfl, hlo, hg, r⟩
  · exact .inl h1
  · refine .inr ⟨g, cap, cur, rfl, hlo, ?_, r⟩
    have := h.lt g (by simp [Value.ownBlock])
    rw [hb.block g (by omega)]; exact hg
theorem OwnG.drewN {w : World} {lo hi n : Nat} {v : Value} {xs : List G3} (h : OwnG w lo hi v n xs) (k : Nat) : OwnG (w.drewN k) lo hi v n xs := h
theorem OwnG.alloc {w : World} {lo hi n : Nat} {v : Value} {xs : List G3} (h : OwnG w lo hi v n xs) (o : Obj) : OwnG (w.alloc o) lo hi v n xs := h.below ((Below.refl _ _).alloc (Nat.le_refl _) o) (.inl (Nat.le_refl _))
theorem OwnG.reads {w : World} {lo hi n c : Nat} {A : Option Addr} {xs : List G3} (h : OwnG w lo hi (.slice A n c) n xs) : RG w A n xs := by
  refine ⟨h.len, fun hn => ?_⟩
  obtain ⟨g, cap, hv, _, hlt⟩ := h.1.form hn
  simp only [Value.slice.injEq, true_and] at hv
  obtain ⟨rfl, rfl⟩ := hv
  refine ⟨g, 0, rfl, hlt, fun j hj => ?_⟩
  have hl := h.len
  obtain ⟨q1, q2, q3⟩ := gcells_at xs j (by omega)
  simp only [Nat.zero_add]
  exact ⟨(h.1.cellAt _ (by omega)).trans q1, (h.1.cellAt _ (by omega)).trans q2, (h.1.cellAt _ (by omega)).trans q3⟩

theorem OwnG.some_ {w : World} {lo hi n c : Nat} {A : Option Addr} {xs : List G3} (h : OwnG w lo hi (.slice A n c) n xs) (hn : 0 < n) : ∃ g, A = some ⟨g, 0, none⟩ ∧ lo ≤ g ∧ g < hi ∧ g < w.heap.size := by
  obtain ⟨g, cap, hv, h1, h2⟩ := h.1.form hn
  simp only [Value.slice.injEq, true_and] at hv
  obtain ⟨rfl, rfl⟩ := hv
  exact ⟨g, rfl, h1, h.2 g rfl, h2⟩
theorem gcells_set (gs : List G3) (x : G3) : ∀ j, j < gs.length → (((gcells gs).set (j * 3) (.int .i64 x.k)).set (j * 3 + 1) (.int .i64 x.a)).set (j * 3 + 2) (.int .i64 x.b) = gcells (gs.set j x) := by
  induction gs with
  | nil => intro j hj; simp at hj
  | cons g gs ih =>
    intro j hj
    cases j with
    | zero => rfl
    | succ j =>
      have := ih j (by simpa using hj)
      have hc : gcells (g :: gs) = Value.int .i64 g.k :: .int .i64 g.a :: .int .i64 g.b :: gcells gs := rfl
      have hd : gcells ((g :: gs).set (j + 1) x) = Value.int .i64 g.k :: .int .i64 g.a :: .int .i64 g.b :: gcells (gs.set j x) := rfl
      rw [hc, hd, ← this, show (j + 1) * 3 = j * 3 + 1 + 1 + 1 from by omega]
      rfl
theorem OwnG.stored {w : World} {lo hi g n c : Nat} {xs : List G3} (h : OwnG w lo hi (.slice (some ⟨g, 0, none⟩) n c) n xs) (k : Nat) (x : G3) (hk : k < n) :
    OwnG (((w.setCell ⟨g, k * 3, none⟩ (.int .i64 x.k)).setCell ⟨g, k * 3 + 1, none⟩ (.int .i64 x.a)).setCell ⟨g, k * 3 + 2, none⟩ (.int .i64 x.b)) lo hi (.slice (some ⟨g, 0, none⟩) n c) n (xs.set k x) := by
  have hl := h.len
  obtain ⟨h1, _⟩ := h.1.stored (k * 3) (.int .i64 x.k)
  obtain ⟨h2, _⟩ := h1.stored (k * 3 + 1) (.int .i64 x.a)
  obtain ⟨h3, _⟩ := h2.stored (k * 3 + 2) (.int .i64 x.b)
  rw [gcells_set xs x k (by omega)] at h3
  exact ⟨h3, h.2⟩

/-- A circuit. -/
structure Ci where
  i0 : Int
  i1 : Int
  gs : List G3
  os : List Int
/-- The four values of a circuit read as c. -/
def RC (w : World) (v : Value) (c : Ci) : Prop :=
  ∃ Ag ng cg Ao no co, v = .agg #[.int .i64 c.i0, .int .i64 c.i1, .slice Ag ng cg, .slice Ao no co] ∧ RG w Ag ng c.gs ∧ RI w Ao no c.os

/-- A cell of a new object. -/
theorem box_cell (w : World) (cs : Array Value) {T} (i : Nat) (v : Value) (h : cs[i]? = some v) : (w.alloc (Obj.cells cs T)).cell? ⟨w.heap.size, i, none⟩ = some v := by
  rw [cell_of_row _ w.heap.size i _ _ _ (heap_alloc_new w _)]; exact h

/-- The world is as W was below B, and these cells are there. -/
def Keep (B : Nat) (W : World) (l : List (Addr × Value)) (w' : World) : Prop := Below B W w' ∧ ∀ q ∈ l, w'.cell? q.1 = some q.2
theorem Keep.next {B : Nat} {W w' w'' : World} {l : List (Addr × Value)} (h : Keep B W l w') (hb : Below w'.heap.size w' w'') (hB : B ≤ W.heap.size) : Keep B W l w'' :=
  ⟨h.1.trans (hb.mono (Nat.le_trans hB h.1.size)), fun q hq => (hb.cell (World.block_lt_of_cell? w' _ (h.2 q hq))).trans (h.2 q hq)⟩
theorem Keep.next_ {B : Nat} {W w' w'' : World} {l : List (Addr × Value)} (h : Keep B W l w') (hb : Below w'.heap.size w' w'') (hB : B ≤ w'.heap.size) : Keep B W l w'' :=
  ⟨h.1.trans (hb.mono hB), fun q hq => (hb.cell (World.block_lt_of_cell? w' _ (h.2 q hq))).trans (h.2 q hq)⟩
/-- A region whose order is open: its operations read, its callees return plain values and write nothing that was there. -/
theorem wp_region_keep (B : Nat) (W : World) (cs : List (Addr × Value)) {P : Program} {id : Nat} {Q : Exit → Act → World → Prop} {a : Act} {l : List Oper} (hm : P.follows .mixedOrders = true) (hB : Region.lexB .any l.toArray = true) (hC : ∀ q ∈ cs, W.cell? q.1 = some q.2)
    (h : wpQuiet P l.toArray (Keep B W cs) (fun a' => ∀ w', Keep B W cs w' → Q .normal a' w') l a) : (Code.region id l.toArray true).wp P Q a W :=
  wp_region_quiet (C := Keep B W cs) hm hB ⟨(Below.refl B W).drew, hC⟩ (by simpa using h)

end Go.Proofs.Ytgenehiiakdadaa
