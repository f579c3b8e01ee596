/- Words and lemmas on memory and lists that the contracts of this seat's functions share. No condition: plain theorems. -/
import Derived.Test.YtgenehiiakdadaaProg
import Derived.WalkKit
import Derived.WalkLawsBesides
import Derived.WalkSpells
import Derived.Deep.QuietTactic
import Derived.BigQuiet
import Derived.Outline
import Derived.Lib.Hide
import Derived.Deep.AppendLies
import Derived.Deep.RegionHeld3
import Derived.Deep.RegionWith
import Derived.Deep.LoopGhost
import Derived.Laws.MakeOwn
import Derived.KernelRfl
namespace Go.Proofs.Ytgenehiiakdadaa
open Go.RowKit
set_option linter.unusedVariables false
set_option linter.unusedSimpArgs false

theorem info_int : (Try.prog.info? 3).map (fun i => (i.zero, i.size, i.bytes)) = some (some (.int .i64 0), 1, 8) := by kernel_rfl

/-- The j-th number of a list (0 beyond its end), under a name that simp does not look into. -/
def gi (xs : List Int) (j : Nat) : Int := xs.getD j 0

theorem gi_lt {xs : List Int} {j : Nat} (h : j < xs.length) : gi xs j = xs[j] := by simp [gi, h]
theorem gi_mem {xs : List Int} {j : Nat} (h : j < xs.length) : gi xs j ∈ xs := by rw [gi_lt h]; exact List.getElem_mem h
theorem gi_take_snoc {xs : List Int} {k : Nat} (h : k < xs.length) : xs.take (k + 1) = xs.take k ++ [gi xs k] := by
  rw [List.take_succ_eq_append_getElem h, gi_lt h]
theorem gi_eq {xs ys : List Int} (h : xs.length = ys.length) (hg : ∀ j, j < xs.length → gi xs j = gi ys j) : xs = ys := by
  refine List.ext_getElem h fun i h1 h2 => ?_
  have := hg i h1
  rwa [gi_lt h1, gi_lt h2] at this

/-- The slice value '.slice A n c' reads as the numbers xs. -/
def RI (w : World) (A : Option Addr) (n : Nat) (xs : List Int) : Prop :=
  xs.length = n ∧ (0 < n → ∃ b o, A = some ⟨b, o, none⟩ ∧ b < w.heap.size ∧ ∀ j, j < n → w.cell? ⟨b, o + j, none⟩ = some (.int .i64 (gi xs j)))

theorem RI.len {w : World} {A : Option Addr} {n : Nat} {xs : List Int} (h : RI w A n xs) : xs.length = n := h.1
theorem RI.at_ {w : World} {A : Option Addr} {n : Nat} {xs : List Int} {k : Nat} (h : RI w A n xs) (hk : k < n) :
    ∃ b o, A = some ⟨b, o, none⟩ ∧ b < w.heap.size ∧ w.cell? ⟨b, o + k, none⟩ = some (.int .i64 (gi xs k)) := by
  obtain ⟨b, o, hA, hb, hc⟩ := h.2 (by omega)
  exact ⟨b, o, hA, hb, hc k hk⟩
theorem RI.cell {w : World} {b o n : Nat} {xs : List Int} {k : Nat} (h : RI w (some ⟨b, o, none⟩) n xs) (hk : k < n) :
    b < w.heap.size ∧ w.cell? ⟨b, o + k, none⟩ = some (.int .i64 (gi xs k)) := by
  obtain ⟨b', o', hA, hb, hc⟩ := h.2 (by omega)
  simp only [Option.some.injEq, Addr.mk.injEq, and_true] at hA
  obtain ⟨rfl, rfl⟩ := hA
  exact ⟨hb, hc k hk⟩
theorem RI.below {w w' : World} {A : Option Addr} {n : Nat} {xs : List Int} (h : RI w A n xs) {B : Nat} (hb : Below B w w') (hB : w.heap.size ≤ B) : RI w' A n xs :=
  ⟨h.1, fun hn => by
    obtain ⟨b, o, hA, hlt, hc⟩ := h.2 hn
    exact ⟨b, o, hA, Nat.lt_of_lt_of_le hlt hb.size, fun j hj => (hb.cell (p := ⟨b, o + j, none⟩) (by exact Nat.lt_of_lt_of_le hlt hB)).trans (hc j hj)⟩⟩
theorem RI.drewN {w : World} {A : Option Addr} {n : Nat} {xs : List Int} (h : RI w A n xs) (k : Nat) : RI (w.drewN k) A n xs := h
theorem RI.drew {w : World} {A : Option Addr} {n : Nat} {xs : List Int} (h : RI w A n xs) : RI w.drew A n xs := h
theorem RI.alloc {w : World} {A : Option Addr} {n : Nat} {xs : List Int} (h : RI w A n xs) (o : Obj) : RI (w.alloc o) A n xs :=
  h.below ((Below.refl _ _).alloc (Nat.le_refl _) o) (Nat.le_refl _)
theorem RI.nil (w : World) : RI w none 0 [] := ⟨rfl, fun h => absurd h (by omega)⟩

/-- The slice value v holds the numbers xs in a row of its own, in a block from lo on, below hi. -/
def Own (w : World) (lo hi : Nat) (v : Value) (n : Nat) (xs : List Int) : Prop :=
  w.ownsRow lo 3 1 v n (xs.map (Value.int .i64)) ∧ ∀ g, v.ownBlock = some g → g < hi

theorem Own.len {w : World} {lo hi n : Nat} {v : Value} {xs : List Int} (h : Own w lo hi v n xs) : xs.length = n := by
  have := h.1.1; simpa using this
theorem Own.lt {w : World} {lo hi n : Nat} {v : Value} {xs : List Int} (h : Own w lo hi v n xs) : ∀ g, v.ownBlock = some g → lo ≤ g ∧ g < hi ∧ g < w.heap.size :=
  fun g hg => ⟨(h.1.lt g hg).1, h.2 g hg, (h.1.lt g hg).2⟩
theorem Own.mk_ {w : World} {lo n : Nat} {v : Value} {xs : List Int} (h : w.ownsRow lo 3 1 v n (xs.map (Value.int .i64))) : Own w lo w.heap.size v n xs :=
  ⟨h, fun g hg => (h.lt g hg).2⟩
theorem Own.none_ (w : World) (lo hi : Nat) : Own w lo hi (.slice none 0 0) 0 [] := ⟨by simpa using World.ownsRow_nil w lo _ _, fun g hg => by simp [Value.ownBlock] at hg⟩
theorem Own.lo_ {w : World} {lo lo' hi n : Nat} {v : Value} {xs : List Int} (h : Own w lo hi v n xs) (hl : lo' ≤ lo) : Own w lo' hi v n xs := by
  refine ⟨⟨h.1.1, ?_⟩, h.2⟩
  rcases h.1.2 with h1 | ⟨g, cap, cur, hv, hb, r⟩
  · exact .inl h1
  · exact .inr ⟨g, cap, cur, hv, by omega, r⟩
theorem Own.hi_ {w : World} {lo hi hi' n : Nat} {v : Value} {xs : List Int} (h : Own w lo hi v n xs) (hl : hi ≤ hi') : Own w lo hi' v n xs := ⟨h.1, fun g hg => Nat.lt_of_lt_of_le (h.2 g hg) hl⟩
theorem Own.now {w : World} {lo hi n : Nat} {v : Value} {xs : List Int} (h : Own w lo hi v n xs) : Own w lo w.heap.size v n xs := ⟨h.1, fun g hg => (h.lt g hg).2.2⟩
theorem Own.form {w : World} {lo hi n : Nat} {v : Value} {xs : List Int} (h : Own w lo hi v n xs) : ∃ A c, v = .slice A n c ∧ (A = none → n = 0 ∧ c = 0) ∧ n ≤ c := by
  rcases h.1.2 with ⟨rfl, rfl⟩ | ⟨g, cap, cur, hv, _, _, hnc, _⟩
  · exact ⟨none, 0, rfl, fun _ => ⟨rfl, rfl⟩, Nat.le_refl _⟩
  · exact ⟨_, cap, hv, fun h => by simp at h, hnc⟩
theorem Own.grown {w w' : World} {lo hi n : Nat} {v : Value} {xs : List Int} {row : Option Nat} (h : Own w lo hi v n xs) (hg : w.grownBy w' row) (hne : v.ownBlock = none ∨ v.ownBlock ≠ row) : Own w' lo hi v n xs :=
  ⟨h.1.kept hg hne, h.2⟩
theorem Own.below {w w' : World} {lo hi n : Nat} {v : Value} {xs : List Int} {B : Nat} (h : Own w lo hi v n xs) (hb : Below B w w') (hB : w.heap.size ≤ B ∨ hi ≤ B) : Own w' lo hi v n xs := by
  refine ⟨⟨h.1.1, ?_⟩, h.2⟩
  rcases h.1.2 with h1 | ⟨g, cap, cur, rfl, hlo, hg, r⟩
  · exact .inl h1
  · refine .inr ⟨g, cap, cur, rfl, hlo, ?_, r⟩
    have := h.lt g (by simp [Value.ownBlock])
    rw [hb.block g (by omega)]; exact hg
theorem Own.drewN {w : World} {lo hi n : Nat} {v : Value} {xs : List Int} (h : Own w lo hi v n xs) (k : Nat) : Own (w.drewN k) lo hi v n xs := h
theorem Own.alloc {w : World} {lo hi n : Nat} {v : Value} {xs : List Int} (h : Own w lo hi v n xs) (o : Obj) : Own (w.alloc o) lo hi v n xs := h.below ((Below.refl _ _).alloc (Nat.le_refl _) o) (.inl (Nat.le_refl _))
theorem Own.reads {w : World} {lo hi n c : Nat} {A : Option Addr} {xs : List Int} (h : Own w lo hi (.slice A n c) n xs) : RI w A n xs := by
  refine ⟨h.len, fun hn => ?_⟩
  obtain ⟨g, cap, hv, _, hlt⟩ := h.1.form hn
  simp only [Value.slice.injEq, true_and] at hv
  obtain ⟨rfl, rfl⟩ := hv
  refine ⟨g, 0, rfl, hlt, fun j hj => ?_⟩
  have hl := h.len
  rw [Nat.zero_add, h.1.cellAt j (by omega), List.getElem?_map, List.getElem?_eq_getElem (by omega), gi_lt (by omega)]
  rfl

theorem Own.some_ {w : World} {lo hi n c : Nat} {A : Option Addr} {xs : List Int} (h : Own w lo hi (.slice A n c) n xs) (hn : 0 < n) : ∃ g, A = some ⟨g, 0, none⟩ ∧ lo ≤ g ∧ g < hi ∧ g < w.heap.size := by
  obtain ⟨g, cap, hv, h1, h2⟩ := h.1.form hn
  simp only [Value.slice.injEq, true_and] at hv
  obtain ⟨rfl, rfl⟩ := hv
  exact ⟨g, rfl, h1, h.2 g rfl, h2⟩
theorem Own.cellAt {w : World} {lo hi g n c : Nat} {xs : List Int} (h : Own w lo hi (.slice (some ⟨g, 0, none⟩) n c) n xs) {k : Nat} (hk : k < n) :
    w.cell? ⟨g, k, none⟩ = some (.int .i64 (gi xs k)) ∧ w.frozen? ⟨g, k, none⟩ = false := by
  have hl := h.len
  refine ⟨?_, h.1.frozenAt k⟩
  rw [h.1.cellAt k (by omega), List.getElem?_map, List.getElem?_eq_getElem (by omega), gi_lt (by omega)]
  rfl
theorem Own.stored {w : World} {lo hi g n c : Nat} {xs : List Int} (h : Own w lo hi (.slice (some ⟨g, 0, none⟩) n c) n xs) (k : Nat) (u : Int) :
    Own (w.setCell ⟨g, k, none⟩ (.int .i64 u)) lo hi (.slice (some ⟨g, 0, none⟩) n c) n (xs.set k u) ∧ w.grownBy (w.setCell ⟨g, k, none⟩ (.int .i64 u)) (some g) := by
  obtain ⟨h1, h2⟩ := h.1.stored k (.int .i64 u)
  rw [← List.map_set] at h1
  exact ⟨⟨h1, h.2⟩, h2⟩

/-- A call that began at w returns a new slice of the numbers zs. -/
def RetI (w : World) (zs : List Int) (e : Ending) (w' : World) : Prop :=
  ∃ A' c', e = .returned (.slice A' zs.length c') ∧ Own w' w.heap.size w'.heap.size (.slice A' zs.length c') zs.length zs ∧ Below w.heap.size w w'
/-- A call that began at w returns a new slice and true; or an empty one and false. -/
def RetO (w : World) (o : Option (List Int)) (e : Ending) (w' : World) : Prop :=
  ∃ A' c', e = .returned (.tuple #[.slice A' (o.getD []).length c', .bool o.isSome]) ∧ Own w' w.heap.size w'.heap.size (.slice A' (o.getD []).length c') (o.getD []).length (o.getD []) ∧ Below w.heap.size w w'
theorem RetI.mk_ {w : World} {zs : List Int} {n : Nat} {A' : Option Addr} {c' : Nat} {e : Ending} {w' : World} (hn : zs.length = n) (he : e = .returned (.slice A' n c')) (ho : Own w' w.heap.size w'.heap.size (.slice A' n c') n zs) (hb : Below w.heap.size w w') : RetI w zs e w' := by
  subst hn; exact ⟨A', c', he, ho, hb⟩
theorem RetI.open_ {w : World} {zs : List Int} {n : Nat} {e : Ending} {w' : World} (h : RetI w zs e w') (hn : zs.length = n) : ∃ A' c', e = .returned (.slice A' n c') ∧ Own w' w.heap.size w'.heap.size (.slice A' n c') n zs ∧ Below w.heap.size w w' := by
  subst hn; exact h
theorem RetO.none_ {w : World} {o : Option (List Int)} {e : Ending} {w' : World} (hb : Below w.heap.size w w') (ho : o = none) (he : e = .returned (.tuple #[.slice none 0 0, .bool false])) : RetO w o e w' := by
  subst ho; exact ⟨none, 0, he, Own.none_ _ _ _, hb⟩
theorem RetO.some_ {w : World} {o : Option (List Int)} {zs : List Int} {n : Nat} {A' : Option Addr} {c' : Nat} {e : Ending} {w' : World} (hb : Below w.heap.size w w') (ho : o = some zs) (hn : zs.length = n) (he : e = .returned (.tuple #[.slice A' n c', .bool true]))
    (hw : Own w' w.heap.size w'.heap.size (.slice A' n c') n zs) : RetO w o e w' := by
  subst ho; subst hn; exact ⟨A', c', he, hw, hb⟩

theorem bcell {W w1 : World} {B : Nat} (hb : Below B W w1) : (∀ b o, b < B → w1.cell? ⟨b, o, none⟩ = W.cell? ⟨b, o, none⟩) ∧ (∀ b o, b < B → w1.frozen? ⟨b, o, none⟩ = W.frozen? ⟨b, o, none⟩) :=
  ⟨fun b o h => hb.cell (p := ⟨b, o, none⟩) h, fun b o h => hb.frozen (p := ⟨b, o, none⟩) h⟩
theorem below_drewN {B : Nat} {a w : World} (h : Below B a w) (n : Nat) : Below B a (w.drewN n) := ⟨h.os, h.tape, h.output, h.size, h.block⟩
theorem below_of_drewN {B : Nat} {a : World} (n : Nat) : Below B a (a.drewN n) := below_drewN (Below.refl _ _) n
theorem below_grown {B : Nat} {a w w' : World} {row : Option Nat} (h : Below B a w) (hg : w.grownBy w' row) (hB : B ≤ w.heap.size) (hr : ∀ k, row = some k → B ≤ k) : Below B a w' := h.grown hg hB hr
theorem grownBy_trans {a b c : World} {row : Option Nat} (h : a.grownBy b row) (k : b.grownBy c row) : a.grownBy c row :=
  ⟨k.os.trans h.os, k.tape.trans h.tape, k.output.trans h.output, Nat.le_trans h.size k.size, fun i hi hn => (k.block i (Nat.lt_of_lt_of_le hi h.size) hn).trans (h.block i hi hn)⟩
theorem grownBy_drewN {a w : World} {row : Option Nat} (h : a.grownBy w row) (n : Nat) : a.grownBy (w.drewN n) row := ⟨h.os, h.tape, h.output, h.size, h.block⟩
theorem grownBy_of_below {a w : World} (h : Below a.heap.size a w) (row : Option Nat) : a.grownBy w row := ⟨h.os, h.tape, h.output, h.size, fun i hi _ => h.block i hi⟩
theorem below_of_grownBy {a w : World} (h : a.grownBy w none) : Below a.heap.size a w := ⟨h.os, h.tape, h.output, h.size, fun i hi => h.block i hi (by simp)⟩

theorem quiet_add_left {P : Program} {f : FuncId} {args : Array Value} {w : World} {a n : Nat} {v : Value}
    (h : Calls P f args (w.drewN (a + n)) fun e w' => e = .returned v ∧ w.drewN (a + n) = w') :
    Calls P f args (w.drewN (a + n)) fun e w'' => e = .returned v ∧ ∃ m, w'' = w.drewN (a + m) :=
  h.mono fun _ _ ⟨he, hm⟩ => ⟨he, n, hm.symm⟩
theorem quiet_left {P : Program} {f : FuncId} {args : Array Value} {w : World} {n : Nat} {v : Value}
    (h : Calls P f args (w.drewN n) fun e w' => e = .returned v ∧ w.drewN n = w') : Calls P f args (w.drewN n) fun e w'' => e = .returned v ∧ ∃ m, w'' = w.drewN m :=
  h.mono fun _ _ ⟨he, hm⟩ => ⟨he, n, hm.symm⟩

theorem ret_int {a b : Int} (h : a = b) : Ending.returned (.int .i64 a) = .returned (.int .i64 b) := by rw [h]
theorem ret_bool {a b : Bool} (h : a = b) : Ending.returned (.bool a) = .returned (.bool b) := by rw [h]

theorem results_tmp4 {fn : Func} {t u v x : Tmp} (h : fn.results = #[.tmp t, .tmp u, .tmp v, .tmp x]) (tmps : Array Value) (P : Program) (w : World) :
    (results fn tmps).run P w = .ok (.tuple #[tmps.getD t undef, tmps.getD u undef, tmps.getD v undef, tmps.getD x undef]) w := by simp [results, h]

end Go.Proofs.Ytgenehiiakdadaa
