/- Words and lemmas on memory and lists that the contracts of this seat's functions share. No condition: plain theorems. What the rows' steps of this seat's laws share: the arguments' readings as the walks ask them. The head of the program's text, word by word: what the rows' closed facts ask of it. No condition. The laws' own helpers on slices of ints: copying, comparing, marking and asking for marks. No condition beyond lengths below 2^21. Plain functions on numbers and lists that the contracts speak of; no program in sight. Lists given place by place; no program in sight. Worlds that differ in some blocks alone; marking as the laws do it. -/
import Derived.WalkKit
import Derived.WalkLawsBesides
import Derived.WalkSpells
import Derived.Deep.QuietTactic
import Derived.BigQuiet
import Derived.Outline
import Derived.Lib.Hide
import Derived.Deep.AppendLies
import Derived.Deep.RegionHeld3
import Derived.Deep.RegionWith
import Derived.Deep.LoopGhost
import Derived.Laws.MakeOwn
import Derived.KernelRfl
import Derived.Test.YtjjphaiomaiilaaGreatProg
import Derived.ProofKit
import Derived.OpenShut
import Derived.ShutString
import Derived.ChangeOld
import Derived.Below
import Derived.Test.YtjjphaiomaiilaaGreatRows
namespace Go.Proofs.YtjjphaiomaiilaaGreat
open Go.RowKit
set_option linter.unusedVariables false
set_option linter.unusedSimpArgs false
theorem info_int : (Tryz.prog.info? 3).map (fun i => (i.zero, i.size, i.bytes)) = some (some (.int .i64 0), 1, 8) := by kernel_rfl
def gi (xs : List Int) (j : Nat) : Int := xs.getD j 0
theorem gi_lt {xs : List Int} {j : Nat} (h : j < xs.length) : gi xs j = xs[j] := by simp [gi, h]
theorem gi_mem {xs : List Int} {j : Nat} (h : j < xs.length) : gi xs j ∈ xs := by rw [gi_lt h]; exact List.getElem_mem h
theorem gi_take_snoc {xs : List Int} {k : Nat} (h : k < xs.length) : xs.take (k + 1) = xs.take k ++ [gi xs k] := by
  rw [List.take_succ_eq_append_getElem h, gi_lt h]
def RI (w : World) (A : Option Addr) (n : Nat) (xs : List Int) : Prop :=
  xs.length = n ∧ (0 < n → ∃ b o, A = some ⟨b, o, none⟩ ∧ b < w.heap.size ∧ ∀ j, j < n → w.cell? ⟨b, o + j, none⟩ = some (.int .i64 (gi xs j)))
theorem RI.len {w : World} {A : Option Addr} {n : Nat} {xs : List Int} (h : RI w A n xs) : xs.length = n := h.1
theorem RI.at_ {w : World} {A : Option Addr} {n : Nat} {xs : List Int} {k : Nat} (h : RI w A n xs) (hk : k < n) :
    ∃ b o, A = some ⟨b, o, none⟩ ∧ b < w.heap.size ∧ w.cell? ⟨b, o + k, none⟩ = some (.int .i64 (gi xs k)) := by
  obtain ⟨b, o, hA, hb, hc⟩ := h.2 (by omega)
  exact ⟨b, o, hA, hb, hc k hk⟩
theorem RI.cell {w : World} {b o n : Nat} {xs : List Int} {k : Nat} (h : RI w (some ⟨b, o, none⟩) n xs) (hk : k < n) :
    b < w.heap.size ∧ w.cell? ⟨b, o + k, none⟩ = some (.int .i64 (gi xs k)) := by
  obtain ⟨b', o', hA, hb, hc⟩ := h.2 (by omega)
  simp only [Option.some.injEq, Addr.mk.injEq, and_true] at hA
  obtain ⟨rfl, rfl⟩ := hA
  exact ⟨hb, hc k hk⟩
theorem RI.below {w w' : World} {A : Option Addr} {n : Nat} {xs : List Int} (h : RI w A n xs) {B : Nat} (hb : Below B w w') (hB : w.heap.size ≤ B) : RI w' A n xs :=
  ⟨h.1, fun hn => by
    obtain ⟨b, o, hA, hlt, hc⟩ := h.2 hn
    exact ⟨b, o, hA, Nat.lt_of_lt_of_le hlt hb.size, fun j hj => (hb.cell (p := ⟨b, o + j, none⟩) (by exact Nat.lt_of_lt_of_le hlt hB)).trans (hc j hj)⟩⟩
theorem RI.drewN {w : World} {A : Option Addr} {n : Nat} {xs : List Int} (h : RI w A n xs) (k : Nat) : RI (w.drewN k) A n xs := h
theorem RI.drew {w : World} {A : Option Addr} {n : Nat} {xs : List Int} (h : RI w A n xs) : RI w.drew A n xs := h
theorem RI.alloc {w : World} {A : Option Addr} {n : Nat} {xs : List Int} (h : RI w A n xs) (o : Obj) : RI (w.alloc o) A n xs :=
  h.below ((Below.refl _ _).alloc (Nat.le_refl _) o) (Nat.le_refl _)
theorem RI.nil (w : World) : RI w none 0 [] := ⟨rfl, fun h => absurd h (by omega)⟩
def Own (w : World) (lo hi : Nat) (v : Value) (n : Nat) (xs : List Int) : Prop :=
  w.ownsRow lo 3 1 v n (xs.map (Value.int .i64)) ∧ ∀ g, v.ownBlock = some g → g < hi
theorem Own.len {w : World} {lo hi n : Nat} {v : Value} {xs : List Int} (h : Own w lo hi v n xs) : xs.length = n := by
  have := h.1.1; simpa using this
theorem Own.lt {w : World} {lo hi n : Nat} {v : Value} {xs : List Int} (h : Own w lo hi v n xs) : ∀ g, v.ownBlock = some g → lo ≤ g ∧ g < hi ∧ g < w.heap.size :=
  fun g hg => ⟨(h.1.lt g hg).1, h.2 g hg, (h.1.lt g hg).2⟩
theorem Own.mk_ {w : World} {lo n : Nat} {v : Value} {xs : List Int} (h : w.ownsRow lo 3 1 v n (xs.map (Value.int .i64))) : Own w lo w.heap.size v n xs :=
  ⟨h, fun g hg => (h.lt g hg).2⟩
theorem Own.none_ (w : World) (lo hi : Nat) : Own w lo hi (.slice none 0 0) 0 [] := ⟨by simpa using World.ownsRow_nil w lo _ _, fun g hg => by simp [Value.ownBlock] at hg⟩
theorem Own.lo_ {w : World} {lo lo' hi n : Nat} {v : Value} {xs : List Int} (h : Own w lo hi v n xs) (hl : lo' ≤ lo) : Own w lo' hi v n xs := by
  refine ⟨⟨h.1.1, ?_⟩, h.2⟩
  rcases h.1.2 with h1 | ⟨g, cap, cur, hv, hb, r⟩
  · exact .inl h1
  · exact .inr ⟨g, cap, cur, hv, by omega, r⟩
theorem Own.hi_ {w : World} {lo hi hi' n : Nat} {v : Value} {xs : List Int} (h : Own w lo hi v n xs) (hl : hi ≤ hi') : Own w lo hi' v n xs := ⟨h.1, fun g hg => Nat.lt_of_lt_of_le (h.2 g hg) hl⟩
theorem Own.now {w : World} {lo hi n : Nat} {v : Value} {xs : List Int} (h : Own w lo hi v n xs) : Own w lo w.heap.size v n xs := ⟨h.1, fun g hg => (h.lt g hg).2.2⟩
theorem Own.form {w : World} {lo hi n : Nat} {v : Value} {xs : List Int} (h : Own w lo hi v n xs) : ∃ A c, v = .slice A n c ∧ (A = none → n = 0 ∧ c = 0) ∧ n ≤ c := by
  rcases h.1.2 with ⟨rfl, rfl⟩ | ⟨g, cap, cur, hv, _, _, hnc, _⟩
  · exact ⟨none, 0, rfl, fun _ => ⟨rfl, rfl⟩, Nat.le_refl _⟩
  · exact ⟨_, cap, hv, fun h => by simp at h, hnc⟩
theorem Own.grown {w w' : World} {lo hi n : Nat} {v : Value} {xs : List Int} {row : Option Nat} (h : Own w lo hi v n xs) (hg : w.grownBy w' row) (hne : v.ownBlock = none ∨ v.ownBlock ≠ row) : Own w' lo hi v n xs :=
  ⟨h.1.kept hg hne, h.2⟩
theorem Own.below {w w' : World} {lo hi n : Nat} {v : Value} {xs : List Int} {B : Nat} (h : Own w lo hi v n xs) (hb : Below B w w') (hB : w.heap.size ≤ B ∨ hi ≤ B) : Own w' lo hi v n xs := by
  refine ⟨⟨h.1.1, ?_⟩, h.2⟩
  rcases h.1.2 with h1 | ⟨g, cap, cur, rfl, hlo, hg, r⟩
  · exact .inl h1
  · refine .inr ⟨g, cap, cur, rfl, hlo, ?_, r⟩
    have := h.lt g (by simp [Value.ownBlock])
    rw [hb.block g (by omega)]; exact hg
theorem Own.drewN {w : World} {lo hi n : Nat} {v : Value} {xs : List Int} (h : Own w lo hi v n xs) (k : Nat) : Own (w.drewN k) lo hi v n xs := h
theorem Own.alloc {w : World} {lo hi n : Nat} {v : Value} {xs : List Int} (h : Own w lo hi v n xs) (o : Obj) : Own (w.alloc o) lo hi v n xs := h.below ((Below.refl _ _).alloc (Nat.le_refl _) o) (.inl (Nat.le_refl _))
theorem Own.reads {w : World} {lo hi n c : Nat} {A : Option Addr} {xs : List Int} (h : Own w lo hi (.slice A n c) n xs) : RI w A n xs := by
  refine ⟨h.len, fun hn => ?_⟩
  obtain ⟨g, cap, hv, _, hlt⟩ := h.1.form hn
  simp only [Value.slice.injEq, true_and] at hv
  obtain ⟨rfl, rfl⟩ := hv
  refine ⟨g, 0, rfl, hlt, fun j hj => ?_⟩
  have hl := h.len
  rw [Nat.zero_add, h.1.cellAt j (by omega), List.getElem?_map, List.getElem?_eq_getElem (by omega), gi_lt (by omega)]
  rfl
theorem Own.some_ {w : World} {lo hi n c : Nat} {A : Option Addr} {xs : List Int} (h : Own w lo hi (.slice A n c) n xs) (hn : 0 < n) : ∃ g, A = some ⟨g, 0, none⟩ ∧ lo ≤ g ∧ g < hi ∧ g < w.heap.size := by
  obtain ⟨g, cap, hv, h1, h2⟩ := h.1.form hn
  simp only [Value.slice.injEq, true_and] at hv
  obtain ⟨rfl, rfl⟩ := hv
  exact ⟨g, rfl, h1, h.2 g rfl, h2⟩
theorem Own.cellAt {w : World} {lo hi g n c : Nat} {xs : List Int} (h : Own w lo hi (.slice (some ⟨g, 0, none⟩) n c) n xs) {k : Nat} (hk : k < n) :
    w.cell? ⟨g, k, none⟩ = some (.int .i64 (gi xs k)) ∧ w.frozen? ⟨g, k, none⟩ = false := by
  have hl := h.len
  refine ⟨?_, h.1.frozenAt k⟩
  rw [h.1.cellAt k (by omega), List.getElem?_map, List.getElem?_eq_getElem (by omega), gi_lt (by omega)]
  rfl
theorem Own.stored {w : World} {lo hi g n c : Nat} {xs : List Int} (h : Own w lo hi (.slice (some ⟨g, 0, none⟩) n c) n xs) (k : Nat) (u : Int) :
    Own (w.setCell ⟨g, k, none⟩ (.int .i64 u)) lo hi (.slice (some ⟨g, 0, none⟩) n c) n (xs.set k u) ∧ w.grownBy (w.setCell ⟨g, k, none⟩ (.int .i64 u)) (some g) := by
  obtain ⟨h1, h2⟩ := h.1.stored k (.int .i64 u)
  rw [← List.map_set] at h1
  exact ⟨⟨h1, h.2⟩, h2⟩
def RetI (w : World) (zs : List Int) (e : Ending) (w' : World) : Prop :=
  ∃ A' c', e = .returned (.slice A' zs.length c') ∧ Own w' w.heap.size w'.heap.size (.slice A' zs.length c') zs.length zs ∧ Below w.heap.size w w'
def RetO (w : World) (o : Option (List Int)) (e : Ending) (w' : World) : Prop :=
  ∃ A' c', e = .returned (.tuple #[.slice A' (o.getD []).length c', .bool o.isSome]) ∧ Own w' w.heap.size w'.heap.size (.slice A' (o.getD []).length c') (o.getD []).length (o.getD []) ∧ Below w.heap.size w w'
theorem RetI.mk_ {w : World} {zs : List Int} {n : Nat} {A' : Option Addr} {c' : Nat} {e : Ending} {w' : World} (hn : zs.length = n) (he : e = .returned (.slice A' n c')) (ho : Own w' w.heap.size w'.heap.size (.slice A' n c') n zs) (hb : Below w.heap.size w w') : RetI w zs e w' := by
  subst hn; exact ⟨A', c', he, ho, hb⟩
theorem RetI.open_ {w : World} {zs : List Int} {n : Nat} {e : Ending} {w' : World} (h : RetI w zs e w') (hn : zs.length = n) : ∃ A' c', e = .returned (.slice A' n c') ∧ Own w' w.heap.size w'.heap.size (.slice A' n c') n zs ∧ Below w.heap.size w w' := by
  subst hn; exact h
theorem RetO.none_ {w : World} {o : Option (List Int)} {e : Ending} {w' : World} (hb : Below w.heap.size w w') (ho : o = none) (he : e = .returned (.tuple #[.slice none 0 0, .bool false])) : RetO w o e w' := by
  subst ho; exact ⟨none, 0, he, Own.none_ _ _ _, hb⟩
theorem RetO.some_ {w : World} {o : Option (List Int)} {zs : List Int} {n : Nat} {A' : Option Addr} {c' : Nat} {e : Ending} {w' : World} (hb : Below w.heap.size w w') (ho : o = some zs) (hn : zs.length = n) (he : e = .returned (.tuple #[.slice A' n c', .bool true]))
    (hw : Own w' w.heap.size w'.heap.size (.slice A' n c') n zs) : RetO w o e w' := by
  subst ho; subst hn; exact ⟨A', c', he, hw, hb⟩
theorem bcell {W w1 : World} {B : Nat} (hb : Below B W w1) : (∀ b o, b < B → w1.cell? ⟨b, o, none⟩ = W.cell? ⟨b, o, none⟩) ∧ (∀ b o, b < B → w1.frozen? ⟨b, o, none⟩ = W.frozen? ⟨b, o, none⟩) :=
  ⟨fun b o h => hb.cell (p := ⟨b, o, none⟩) h, fun b o h => hb.frozen (p := ⟨b, o, none⟩) h⟩
theorem below_drewN {B : Nat} {a w : World} (h : Below B a w) (n : Nat) : Below B a (w.drewN n) := ⟨h.os, h.tape, h.output, h.size, h.block⟩
theorem below_of_drewN {B : Nat} {a : World} (n : Nat) : Below B a (a.drewN n) := below_drewN (Below.refl _ _) n
theorem grownBy_trans {a b c : World} {row : Option Nat} (h : a.grownBy b row) (k : b.grownBy c row) : a.grownBy c row :=
  ⟨k.os.trans h.os, k.tape.trans h.tape, k.output.trans h.output, Nat.le_trans h.size k.size, fun i hi hn => (k.block i (Nat.lt_of_lt_of_le hi h.size) hn).trans (h.block i hi hn)⟩
theorem grownBy_of_below {a w : World} (h : Below a.heap.size a w) (row : Option Nat) : a.grownBy w row := ⟨h.os, h.tape, h.output, h.size, fun i hi _ => h.block i hi⟩
theorem below_of_grownBy {a w : World} (h : a.grownBy w none) : Below a.heap.size a w := ⟨h.os, h.tape, h.output, h.size, fun i hi => h.block i hi (by simp)⟩
theorem ret_bool {a b : Bool} (h : a = b) : Ending.returned (.bool a) = .returned (.bool b) := by rw [h]
end Go.Proofs.YtjjphaiomaiilaaGreat
namespace Go.Proofs.YtjjphaiomaiilaaGreat
open Go.ChangeShapes Go.WideShapes Go.ChangeAt Go.RowKit
open Go.ChangeMaps (open_string shut_string)
set_option linter.unusedVariables false
set_option linter.unusedSimpArgs false
theorem own : ownKnob Tryz.prog.godebug = none := by kernel_rfl
theorem laidOut : laidOutB Tryz.prog = true := by kernel_rfl
end Go.Proofs.YtjjphaiomaiilaaGreat
namespace Go.Proofs.YtjjphaiomaiilaaGreat
set_option linter.unusedVariables false
def headCodes : List Nat := [104, 97, 114, 110, 101, 115, 115, 32, 54, 48, 102, 102, 51, 55, 56, 98, 51, 101, 97, 50, 55, 55, 57, 98, 54, 51, 97, 98, 98, 49, 56, 49, 97, 48, 98, 52, 56, 54, 102, 55, 99, 99, 55, 102, 101, 99, 98, 56, 52, 48, 97, 100, 102, 100, 51, 98, 100, 101, 57, 57, 54, 49, 100, 50, 102, 49, 52, 49, 98, 51, 56, 51, 32, 99, 117, 116, 32, 97, 116, 32, 108, 111, 111, 112, 46, 101, 120, 97, 109, 112, 108, 101, 47, 103, 48, 48, 56, 55, 55, 47, 108, 97, 119, 115, 46, 70, 110, 69, 120, 97, 99, 116, 76, 105, 110, 101, 79, 102, 71, 97, 116, 101, 32, 108, 111, 111, 112, 46, 101, 120, 97, 109, 112, 108, 101, 47, 103, 48, 48, 56, 55, 55, 47, 108, 97, 119, 115, 46, 70, 110, 69, 120, 97, 99, 116, 87, 105, 114, 101, 115, 79, 102, 32, 108, 111, 111, 112, 46, 101, 120, 97, 109, 112, 108, 101, 47, 103, 48, 48, 56, 55, 55, 47, 108, 97, 119, 115, 46, 70, 110, 69, 120, 97, 99, 116, 65, 110, 100, 115, 66, 121, 76, 105, 110, 101, 32, 108, 111, 111, 112, 46, 101, 120, 97, 109, 112, 108, 101, 47, 103, 48, 48, 56, 55, 55, 47, 108, 97, 119, 115, 46, 70, 110, 69, 120, 97, 99, 116, 82, 101, 115, 117, 108, 116, 78, 117, 109, 98, 101, 114, 115, 32, 108, 111, 111, 112, 46, 101, 120, 97, 109, 112, 108, 101, 47, 103, 48, 48, 56, 55, 55, 47, 108, 97, 119, 115, 46, 70, 110, 69, 120, 97, 99, 116, 73, 110, 112, 117, 116, 66, 105, 116, 115, 32, 108, 111, 111, 112, 46, 101, 120, 97, 109, 112, 108, 101, 47, 103, 48, 48, 56, 55, 55, 47, 108, 97, 119, 115, 46, 70, 110, 69, 120, 97, 99, 116, 67, 111, 109, 112, 105, 108, 101, 80, 114, 111, 103, 114, 97, 109, 32, 108, 111, 111, 112, 46, 101, 120, 97, 109, 112, 108, 101, 47, 103, 48, 48, 56, 55, 55, 47, 108, 97, 119, 115, 46, 70, 110, 69, 120, 97, 99, 116, 67, 111, 117, 110, 116, 73, 110, 112, 117, 116, 115, 70, 111, 114, 32, 108, 111, 111, 112, 46, 101, 120, 97, 109, 112, 108, 101, 47, 103, 48, 48, 56, 55, 55, 47, 108, 97, 119, 115, 46, 70, 110, 69, 120, 97, 99, 116, 82, 117, 110, 67, 111, 109, 112, 105, 108, 101, 100, 32, 108, 111, 111, 112, 46, 101, 120, 97, 109, 112, 108, 101, 47, 103, 48, 48, 56, 55, 55, 47, 108, 97, 119, 115, 46, 70, 110, 69, 120, 97, 99, 116, 67, 97, 110, 100, 105, 100, 97, 116, 101, 115, 70, 111, 114]
theorem head_io : Tryz.pinned.checked.prog.initOrder.toList = headCodes.map Char.ofNat := by
  have h : Tryz.pinned.checked.prog.initOrder = String.ofList (headCodes.map Char.ofNat) := by kernel_rfl
  rw [h]; exact String.toList_ofList
def headWords : List (List Char) := [[Char.ofNat 99, Char.ofNat 117, Char.ofNat 116], [Char.ofNat 97, Char.ofNat 116], [Char.ofNat 108, Char.ofNat 111, Char.ofNat 111, Char.ofNat 112, Char.ofNat 46, Char.ofNat 101, Char.ofNat 120, Char.ofNat 97, Char.ofNat 109, Char.ofNat 112, Char.ofNat 108, Char.ofNat 101, Char.ofNat 47, Char.ofNat 103, Char.ofNat 48, Char.ofNat 48, Char.ofNat 56, Char.ofNat 55, Char.ofNat 55, Char.ofNat 47, Char.ofNat 108, Char.ofNat 97, Char.ofNat 119, Char.ofNat 115, Char.ofNat 46, Char.ofNat 70, Char.ofNat 110, Char.ofNat 69, Char.ofNat 120, Char.ofNat 97, Char.ofNat 99, Char.ofNat 116, Char.ofNat 76, Char.ofNat 105, Char.ofNat 110, Char.ofNat 101, Char.ofNat 79, Char.ofNat 102, Char.ofNat 71, Char.ofNat 97, Char.ofNat 116, Char.ofNat 101], [Char.ofNat 108, Char.ofNat 111, Char.ofNat 111, Char.ofNat 112, Char.ofNat 46, Char.ofNat 101, Char.ofNat 120, Char.ofNat 97, Char.ofNat 109, Char.ofNat 112, Char.ofNat 108, Char.ofNat 101, Char.ofNat 47, Char.ofNat 103, Char.ofNat 48, Char.ofNat 48, Char.ofNat 56, Char.ofNat 55, Char.ofNat 55, Char.ofNat 47, Char.ofNat 108, Char.ofNat 97, Char.ofNat 119, Char.ofNat 115, Char.ofNat 46, Char.ofNat 70, Char.ofNat 110, Char.ofNat 69, Char.ofNat 120, Char.ofNat 97, Char.ofNat 99, Char.ofNat 116, Char.ofNat 87, Char.ofNat 105, Char.ofNat 114, Char.ofNat 101, Char.ofNat 115, Char.ofNat 79, Char.ofNat 102], [Char.ofNat 108, Char.ofNat 111, Char.ofNat 111, Char.ofNat 112, Char.ofNat 46, Char.ofNat 101, Char.ofNat 120, Char.ofNat 97, Char.ofNat 109, Char.ofNat 112, Char.ofNat 108, Char.ofNat 101, Char.ofNat 47, Char.ofNat 103, Char.ofNat 48, Char.ofNat 48, Char.ofNat 56, Char.ofNat 55, Char.ofNat 55, Char.ofNat 47, Char.ofNat 108, Char.ofNat 97, Char.ofNat 119, Char.ofNat 115, Char.ofNat 46, Char.ofNat 70, Char.ofNat 110, Char.ofNat 69, Char.ofNat 120, Char.ofNat 97, Char.ofNat 99, Char.ofNat 116, Char.ofNat 65, Char.ofNat 110, Char.ofNat 100, Char.ofNat 115, Char.ofNat 66, Char.ofNat 121, Char.ofNat 76, Char.ofNat 105, Char.ofNat 110, Char.ofNat 101], [Char.ofNat 108, Char.ofNat 111, Char.ofNat 111, Char.ofNat 112, Char.ofNat 46, Char.ofNat 101, Char.ofNat 120, Char.ofNat 97, Char.ofNat 109, Char.ofNat 112, Char.ofNat 108, Char.ofNat 101, Char.ofNat 47, Char.ofNat 103, Char.ofNat 48, Char.ofNat 48, Char.ofNat 56, Char.ofNat 55, Char.ofNat 55, Char.ofNat 47, Char.ofNat 108, Char.ofNat 97, Char.ofNat 119, Char.ofNat 115, Char.ofNat 46, Char.ofNat 70, Char.ofNat 110, Char.ofNat 69, Char.ofNat 120, Char.ofNat 97, Char.ofNat 99, Char.ofNat 116, Char.ofNat 82, Char.ofNat 101, Char.ofNat 115, Char.ofNat 117, Char.ofNat 108, Char.ofNat 116, Char.ofNat 78, Char.ofNat 117, Char.ofNat 109, Char.ofNat 98, Char.ofNat 101, Char.ofNat 114, Char.ofNat 115], [Char.ofNat 108, Char.ofNat 111, Char.ofNat 111, Char.ofNat 112, Char.ofNat 46, Char.ofNat 101, Char.ofNat 120, Char.ofNat 97, Char.ofNat 109, Char.ofNat 112, Char.ofNat 108, Char.ofNat 101, Char.ofNat 47, Char.ofNat 103, Char.ofNat 48, Char.ofNat 48, Char.ofNat 56, Char.ofNat 55, Char.ofNat 55, Char.ofNat 47, Char.ofNat 108, Char.ofNat 97, Char.ofNat 119, Char.ofNat 115, Char.ofNat 46, Char.ofNat 70, Char.ofNat 110, Char.ofNat 69, Char.ofNat 120, Char.ofNat 97, Char.ofNat 99, Char.ofNat 116, Char.ofNat 73, Char.ofNat 110, Char.ofNat 112, Char.ofNat 117, Char.ofNat 116, Char.ofNat 66, Char.ofNat 105, Char.ofNat 116, Char.ofNat 115], [Char.ofNat 108, Char.ofNat 111, Char.ofNat 111, Char.ofNat 112, Char.ofNat 46, Char.ofNat 101, Char.ofNat 120, Char.ofNat 97, Char.ofNat 109, Char.ofNat 112, Char.ofNat 108, Char.ofNat 101, Char.ofNat 47, Char.ofNat 103, Char.ofNat 48, Char.ofNat 48, Char.ofNat 56, Char.ofNat 55, Char.ofNat 55, Char.ofNat 47, Char.ofNat 108, Char.ofNat 97, Char.ofNat 119, Char.ofNat 115, Char.ofNat 46, Char.ofNat 70, Char.ofNat 110, Char.ofNat 69, Char.ofNat 120, Char.ofNat 97, Char.ofNat 99, Char.ofNat 116, Char.ofNat 67, Char.ofNat 111, Char.ofNat 109, Char.ofNat 112, Char.ofNat 105, Char.ofNat 108, Char.ofNat 101, Char.ofNat 80, Char.ofNat 114, Char.ofNat 111, Char.ofNat 103, Char.ofNat 114, Char.ofNat 97, Char.ofNat 109], [Char.ofNat 108, Char.ofNat 111, Char.ofNat 111, Char.ofNat 112, Char.ofNat 46, Char.ofNat 101, Char.ofNat 120, Char.ofNat 97, Char.ofNat 109, Char.ofNat 112, Char.ofNat 108, Char.ofNat 101, Char.ofNat 47, Char.ofNat 103, Char.ofNat 48, Char.ofNat 48, Char.ofNat 56, Char.ofNat 55, Char.ofNat 55, Char.ofNat 47, Char.ofNat 108, Char.ofNat 97, Char.ofNat 119, Char.ofNat 115, Char.ofNat 46, Char.ofNat 70, Char.ofNat 110, Char.ofNat 69, Char.ofNat 120, Char.ofNat 97, Char.ofNat 99, Char.ofNat 116, Char.ofNat 67, Char.ofNat 111, Char.ofNat 117, Char.ofNat 110, Char.ofNat 116, Char.ofNat 73, Char.ofNat 110, Char.ofNat 112, Char.ofNat 117, Char.ofNat 116, Char.ofNat 115, Char.ofNat 70, Char.ofNat 111, Char.ofNat 114], [Char.ofNat 108, Char.ofNat 111, Char.ofNat 111, Char.ofNat 112, Char.ofNat 46, Char.ofNat 101, Char.ofNat 120, Char.ofNat 97, Char.ofNat 109, Char.ofNat 112, Char.ofNat 108, Char.ofNat 101, Char.ofNat 47, Char.ofNat 103, Char.ofNat 48, Char.ofNat 48, Char.ofNat 56, Char.ofNat 55, Char.ofNat 55, Char.ofNat 47, Char.ofNat 108, Char.ofNat 97, Char.ofNat 119, Char.ofNat 115, Char.ofNat 46, Char.ofNat 70, Char.ofNat 110, Char.ofNat 69, Char.ofNat 120, Char.ofNat 97, Char.ofNat 99, Char.ofNat 116, Char.ofNat 82, Char.ofNat 117, Char.ofNat 110, Char.ofNat 67, Char.ofNat 111, Char.ofNat 109, Char.ofNat 112, Char.ofNat 105, Char.ofNat 108, Char.ofNat 101, Char.ofNat 100], [Char.ofNat 108, Char.ofNat 111, Char.ofNat 111, Char.ofNat 112, Char.ofNat 46, Char.ofNat 101, Char.ofNat 120, Char.ofNat 97, Char.ofNat 109, Char.ofNat 112, Char.ofNat 108, Char.ofNat 101, Char.ofNat 47, Char.ofNat 103, Char.ofNat 48, Char.ofNat 48, Char.ofNat 56, Char.ofNat 55, Char.ofNat 55, Char.ofNat 47, Char.ofNat 108, Char.ofNat 97, Char.ofNat 119, Char.ofNat 115, Char.ofNat 46, Char.ofNat 70, Char.ofNat 110, Char.ofNat 69, Char.ofNat 120, Char.ofNat 97, Char.ofNat 99, Char.ofNat 116, Char.ofNat 67, Char.ofNat 97, Char.ofNat 110, Char.ofNat 100, Char.ofNat 105, Char.ofNat 100, Char.ofNat 97, Char.ofNat 116, Char.ofNat 101, Char.ofNat 115, Char.ofNat 70, Char.ofNat 111, Char.ofNat 114]]
theorem head_words : behindMainWord (wordsSigns Tryz.pinned.checked.prog.initOrder.toList) = headWords := by rw [head_io]; kernel_rfl
theorem head_lifts_of (P : Program) (h2 : behindMainWord (wordsSigns P.initOrder.toList) = headWords) : P.headLifts = [] := by
  unfold Program.headLifts; rw [h2]; kernel_rfl
theorem head_make_of (P : Program) (h1 : P.headLifts = []) (h2 : behindMainWord (wordsSigns P.initOrder.toList) = headWords) : P.make = some .cut := by
  unfold Program.make; rw [h2]; kernel_rfl
theorem head_final_of (P : Program) (h1 : P.headLifts = []) (h2 : behindMainWord (wordsSigns P.initOrder.toList) = headWords) : P.liftsFinal = false := by
  unfold Program.liftsFinal; rw [h2, h1]; kernel_rfl
theorem head_enter_of (P : Program) (h2 : behindMainWord (wordsSigns P.initOrder.toList) = headWords) (h3 : P.laysLater = false) (h4 : P.bearsReflect = false) (h5 : P.doorFits [] = true) : P.mayEnter = true := by
  have h6 : stripLifts liftWords ("cut".toList :: headWords.tail) = ([], "cut".toList :: headWords.tail) := by kernel_rfl
  have h7 : headWords = "cut".toList :: headWords.tail := by kernel_rfl
  unfold Program.mayEnter; rw [h2, h7]
  dsimp only
  rw [h6]
  generalize headWords.tail = r
  simp [h3, h4, h5]
theorem head_lifts : Tryz.pinned.checked.prog.headLifts = [] := head_lifts_of _ head_words
theorem head_make : Tryz.pinned.checked.prog.make = some .cut := head_make_of _ head_lifts head_words
theorem head_final : Tryz.pinned.checked.prog.liftsFinal = false := head_final_of _ head_lifts head_words
theorem head_enter : Tryz.pinned.checked.prog.mayEnter = true := head_enter_of _ head_words (by kernel_rfl) (by kernel_rfl) (by kernel_rfl)
end Go.Proofs.YtjjphaiomaiilaaGreat
namespace Go.Proofs.YtjjphaiomaiilaaGreat
open Go.RowKit
set_option linter.unusedVariables false
set_option linter.unusedSimpArgs false
set_option maxHeartbeats 400000 in
theorem eqIntS_any (A B : Option Addr) (n c d : Nat) (xs : List Int) (w : World) (ha : RI w A n xs) (hb : RI w B n xs) (hn : n ≤ 2097152) :
    Calls Tryz.prog 19 #[.slice A n c, .slice B n d] w fun e w' => e = .returned (.bool true) ∧ ∃ k, w.drewN k = w' := by
  have hne : ((n : Int) != n) = false := by simp
  go_enter Tryz.func19, Tryz.ntmps19
  go_wp2
  go_loopw [5] (fun i wr => ∃ k j : Nat, k ≤ n ∧ i = .int .i64 k ∧ w.drewN j = wr) (fun i _ => n - (intOf i).toNat)
  case atStart => exact ⟨0, 0, Nat.zero_le _, rfl, rfl⟩
  case round =>
    obtain ⟨k, j, hk, rfl, rfl⟩ := hrel
    by_cases hlt : k < n
    · obtain ⟨b, o, rfl, hbB, c1⟩ := ha.at_ hlt
      obtain ⟨b', o', rfl, hbB', c2⟩ := hb.at_ hlt
      have hlt' : (k : Int) < n := by omega
      have hd : ((gi xs k) != (gi xs k)) = false := by simp
      clear ha hb
      go_wp2
      go_quiet (fail)
      go_wp2
      go_roundw
      case rel => exact ⟨k + 1, _, by omega, by go_num, rfl⟩
      case measure => simp [intOf]; omega
    · go_wp2
      go_ret
      exact ⟨rfl, _, rfl⟩
def marks (k : Int) (n : Nat) : List Int := (List.range n).map fun i : Nat => k + (i : Int)
theorem marks_len (k : Int) (n : Nat) : (marks k n).length = n := by simp [marks]
theorem gi_marks {k : Int} {n j : Nat} (h : j < n) : gi (marks k n) j = k + j := by simp [gi, marks, h]
theorem marks_set (k : Int) (j n : Nat) (xs : List Int) (hx : xs.length = n) (h : j < n) : ((marks k j ++ xs.drop j).set j (k + j)) = marks k (j + 1) ++ xs.drop (j + 1) := by
  rw [List.set_append_right _ _ (by simp [marks_len])]
  simp only [marks_len, Nat.sub_self]
  have hd : xs.drop j = xs[j] :: xs.drop (j + 1) := List.drop_eq_getElem_cons (by omega)
  rw [hd, List.set_cons_zero]
  simp [marks, List.range_succ]
set_option maxHeartbeats 400000 in
theorem markIntS_any (A : Option Addr) (n c lo hi : Nat) (q : Int) (xs : List Int) (w : World) (ha : Own w lo hi (.slice A n c) n xs) (hn : n ≤ 2097152) (h0 : 0 ≤ q) (h1 : q ≤ 1000000000000) :
    Calls Tryz.prog 21 #[.slice A n c, .int .i64 q] w fun e w' => e = .returned (.int .i64 (q + n)) ∧ Own w' lo hi (.slice A n c) n (marks q n) ∧ w.grownBy w' (Value.slice A n c).ownBlock := by
  have hl := ha.len
  go_enter Tryz.func21, Tryz.ntmps21
  go_wp2
  go_loopw [1, 5] (fun v i wr => ∃ k : Nat, k ≤ n ∧ i = .int .i64 k ∧ v = .int .i64 (q + k) ∧ Own wr lo hi (.slice A n c) n (marks q k ++ xs.drop k) ∧ w.grownBy wr (Value.slice A n c).ownBlock) (fun _ i _ => n - (intOf i).toNat)
  case atStart => exact ⟨0, Nat.zero_le _, rfl, by simp, by simpa [marks] using ha, World.grownBy.refl _ _⟩
  case round =>
    clear ha
    obtain ⟨k, hk, rfl, rfl, hown, hg⟩ := hrel
    by_cases hlt : k < n
    · obtain ⟨g, rfl, _, _, hgs⟩ := hown.some_ (by omega)
      obtain ⟨hoc, hof⟩ := hown.cellAt hlt
      obtain ⟨hs1, hs2⟩ := hown.stored k (q + k)
      rw [marks_set q k n xs hl hlt] at hs1
      have hg2 := grownBy_trans hg hs2
      clear hs2 hg hown
      go_wp2
      go_roundw
      case rel => exact ⟨k + 1, by omega, by go_num, by go_num, hs1, hg2⟩
      case measure => simp [intOf]; omega
    · obtain rfl : k = n := by omega
      rw [List.drop_of_length_le (by omega), List.append_nil] at hown
      go_wp2
      go_ret
      exact ⟨rfl, hown, hg⟩
set_option maxHeartbeats 400000 in
theorem heldIntS_any (A : Option Addr) (n c : Nat) (q : Int) (w : World) (ha : RI w A n (marks q n)) (hn : n ≤ 2097152) (h0 : 0 ≤ q) (h1 : q ≤ 1000000000000) :
    Calls Tryz.prog 22 #[.slice A n c, .int .i64 q] w fun e w' => e = .returned (.int .i64 (q + n)) ∧ ∃ k, w.drewN k = w' := by
  go_enter Tryz.func22, Tryz.ntmps22
  go_wp2
  go_loopw [1, 5] (fun v i wr => ∃ k j : Nat, k ≤ n ∧ i = .int .i64 k ∧ v = .int .i64 (q + k) ∧ w.drewN j = wr) (fun _ i _ => n - (intOf i).toNat)
  case atStart => exact ⟨0, 0, Nat.zero_le _, rfl, by simp, rfl⟩
  case round =>
    obtain ⟨k, j, hk, rfl, rfl, rfl⟩ := hrel
    by_cases hlt : k < n
    · obtain ⟨b, o, rfl, hbB, c1⟩ := ha.at_ hlt
      rw [gi_marks hlt] at c1
      have hlt' : (k : Int) < n := by omega
      have hd : ((q + (k : Int)) != (q + (k : Int))) = false := by simp
      clear ha
      go_wp2
      go_roundw
      case rel => exact ⟨k + 1, _, by omega, by go_num, by go_num, rfl⟩
      case measure => simp [intOf]; omega
    · obtain rfl : k = n := by omega
      go_wp2
      go_ret
      exact ⟨rfl, _, rfl⟩
theorem eqIntS_b (A B : Option Addr) (n c d : Nat) (xs : List Int) (w : World) (ha : RI w A n xs) (hb : RI w B n xs) (hn : n ≤ 2097152) :
    Calls Tryz.prog 19 #[.slice A n c, .slice B n d] w fun e w' => e = .returned (.bool true) ∧ Below w.heap.size w w' :=
  (eqIntS_any A B n c d xs w ha hb hn).mono fun _ _ ⟨h1, k, h2⟩ => ⟨h1, by subst h2; exact below_of_drewN k⟩
theorem heldIntS_b (A : Option Addr) (n c : Nat) (q : Int) (w : World) (ha : RI w A n (marks q n)) (hn : n ≤ 2097152) (h0 : 0 ≤ q) (h1 : q ≤ 1000000000000) :
    Calls Tryz.prog 22 #[.slice A n c, .int .i64 q] w fun e w' => e = .returned (.int .i64 (q + n)) ∧ Below w.heap.size w w' :=
  (heldIntS_any A n c q w ha hn h0 h1).mono fun _ _ ⟨h1, k, h2⟩ => ⟨h1, by subst h2; exact below_of_drewN k⟩
theorem Own.ne {w : World} {lo hi lo' hi' n n' : Nat} {v v' : Value} {xs xs' : List Int} (h : Own w lo hi v n xs) (h' : Own w lo' hi' v' n' xs') (hd : hi ≤ lo' ∨ hi' ≤ lo) : v.ownBlock = none ∨ v.ownBlock ≠ v'.ownBlock := by
  cases hv : v.ownBlock with
  | none => exact .inl rfl
  | some g =>
    refine .inr (fun he => ?_)
    have := h.lt g hv
    have := h'.lt g he.symm
    omega
def inB (lo hi x : Int) : Bool := decide (lo ≤ x ∧ x ≤ hi)
theorem inB_iff {lo hi x : Int} : inB lo hi x = true ↔ lo ≤ x ∧ x ≤ hi := by simp [inB]
theorem inB_t {lo hi x : Int} (h : lo ≤ x ∧ x ≤ hi) : inB lo hi x = true := inB_iff.2 h
theorem inB_f {lo hi x : Int} (h : ¬ (lo ≤ x ∧ x ≤ hi)) : inB lo hi x = false := by
  cases hc : inB lo hi x with
  | false => rfl
  | true => exact absurd (inB_iff.1 hc) h
theorem inB_not {lo hi x : Int} (h : inB lo hi x = false) : ¬ (lo ≤ x ∧ x ≤ hi) := fun hc => by rw [inB_t hc] at h; cases h
def allB (lo hi : Int) (xs : List Int) : Bool := xs.all (inB lo hi)
theorem allB_iff {lo hi : Int} {xs : List Int} : allB lo hi xs = true ↔ ∀ x ∈ xs, lo ≤ x ∧ x ≤ hi := by simp [allB, inB]
theorem allB_gi {lo hi : Int} {xs : List Int} (h : allB lo hi xs = true) {j : Nat} (hj : j < xs.length) : lo ≤ gi xs j ∧ gi xs j ≤ hi := allB_iff.1 h _ (gi_mem hj)
theorem allB_take {lo hi : Int} {xs : List Int} {k : Nat} (h : k < xs.length) : allB lo hi (xs.take (k + 1)) = (allB lo hi (xs.take k) && inB lo hi (gi xs k)) := by
  rw [gi_take_snoc h]; simp [allB]
theorem allB_false {lo hi : Int} {xs : List Int} {k : Nat} (h : k < xs.length) (hk : inB lo hi (gi xs k) = false) : allB lo hi xs = false := by
  cases hc : allB lo hi xs with
  | false => rfl
  | true => exact absurd (allB_gi hc h) (inB_not hk)
def idxP (p : Int → Bool) (xs : List Int) : Int := if xs.any p then (xs.findIdx p : Int) else -1
theorem idxP_none {p : Int → Bool} {xs : List Int} (h : xs.any p = false) : idxP p xs = -1 := by simp [idxP, h]
theorem idxP_some {p : Int → Bool} {xs : List Int} {k : Nat} (h : k < xs.length) (h1 : (xs.take k).any p = false) (h2 : p (gi xs k) = true) : idxP p xs = k := by
  have hx : xs.any p = true := by simp only [List.any_eq_true]; exact ⟨_, gi_mem h, h2⟩
  rw [idxP, if_pos hx]
  have : xs.findIdx p = k := by
    rw [List.findIdx_eq h]
    rw [gi_lt h] at h2
    refine ⟨h2, fun j hj => ?_⟩
    have := List.any_eq_false.1 h1 (xs[j]'(by omega)) (List.mem_take_iff_getElem.2 ⟨j, by omega, rfl⟩)
    simpa using this
  rw [this]
theorem any_take_succ {p : Int → Bool} {xs : List Int} {k : Nat} (h : k < xs.length) (h1 : (xs.take k).any p = false) (h2 : p (gi xs k) = false) : (xs.take (k + 1)).any p = false := by
  rw [gi_take_snoc h]; simp only [List.any_append, h1, List.any_cons, h2, List.any_nil, Bool.or_self]
def tab (n : Nat) (f : Nat → Int) : List Int := (List.range n).map f
theorem tab_len (n : Nat) (f : Nat → Int) : (tab n f).length = n := by simp [tab]
theorem tab_snoc (n : Nat) (f : Nat → Int) : tab (n + 1) f = tab n f ++ [f n] := by simp [tab, List.range_succ]
theorem tab_zero (f : Nat → Int) : tab 0 f = [] := rfl
theorem gi_tab {n j : Nat} {f : Nat → Int} (h : j < n) : gi (tab n f) j = f j := by simp [gi, tab, h]
def bxor (a b : Int) : Int := bits .xor .i64 a b
structure Chg (lo hi : Nat) (w w' : World) : Prop where
  os : w'.os = w.os
  tape : w'.tape = w.tape
  output : w'.output = w.output
  size : w.heap.size ≤ w'.heap.size
  block : ∀ k, k < w.heap.size → k < lo ∨ hi ≤ k → w'.heap[k]? = w.heap[k]?
theorem Chg.refl_ (lo hi : Nat) (w : World) : Chg lo hi w w := ⟨rfl, rfl, rfl, Nat.le_refl _, fun _ _ _ => rfl⟩
theorem Chg.trans_ {lo hi : Nat} {a b c : World} (h : Chg lo hi a b) (k : Chg lo hi b c) : Chg lo hi a c :=
  ⟨k.os.trans h.os, k.tape.trans h.tape, k.output.trans h.output, Nat.le_trans h.size k.size, fun i hi ho => (k.block i (Nat.lt_of_lt_of_le hi h.size) ho).trans (h.block i hi ho)⟩
theorem Chg.of_below {lo hi : Nat} {a b : World} (h : Below a.heap.size a b) : Chg lo hi a b := ⟨h.os, h.tape, h.output, h.size, fun i hi _ => h.block i hi⟩
theorem Chg.of_grown {lo hi n : Nat} {v : Value} {xs : List Int} {a b : World} (h : Own a lo hi v n xs) (hg : a.grownBy b v.ownBlock) : Chg lo hi a b :=
  ⟨hg.os, hg.tape, hg.output, hg.size, fun i hi ho => hg.block i hi (fun he => by have := h.lt i he.symm; omega)⟩
theorem Chg.below_ {lo hi B : Nat} {a b c : World} (h : Below B a b) (k : Chg lo hi b c) (hB : B ≤ lo) (hB2 : B ≤ b.heap.size) : Below B a c :=
  ⟨k.os.trans h.os, k.tape.trans h.tape, k.output.trans h.output, Nat.le_trans h.size k.size, fun i hi => (k.block i (by omega) (.inl (by omega))).trans (h.block i hi)⟩
theorem Own.chg {w w' : World} {lo hi lo' hi' n : Nat} {v : Value} {xs : List Int} (h : Own w lo hi v n xs) (k : Chg lo' hi' w w') (hd : hi ≤ lo' ∨ hi' ≤ lo) : Own w' lo hi v n xs := by
  refine ⟨⟨h.1.1, ?_⟩, h.2⟩
  rcases h.1.2 with h1 | ⟨g, cap, cur, rfl, hlo, hg, r⟩
  · exact .inl h1
  · have hl := h.lt g (by simp [Value.ownBlock])
    exact .inr ⟨g, cap, cur, rfl, hlo, by rw [k.block g (by omega) (by omega)]; exact hg, r⟩
theorem RI.chg {w w' : World} {A : Option Addr} {n B lo hi : Nat} {xs : List Int} (h : RI w A n xs) (k : Chg lo hi w w') (hb : ∀ b o, A = some ⟨b, o, none⟩ → b < lo ∨ hi ≤ b) : RI w' A n xs :=
  ⟨h.1, fun hn => by
    obtain ⟨b, o, hA, hlt, hc⟩ := h.2 hn
    refine ⟨b, o, hA, Nat.lt_of_lt_of_le hlt k.size, fun j hj => ?_⟩
    rw [← hc j hj]
    exact World.cell?_of_block (w := w) (a := ⟨b, o + j, none⟩) (k.block b hlt (hb b o hA))⟩
end Go.Proofs.YtjjphaiomaiilaaGreat
