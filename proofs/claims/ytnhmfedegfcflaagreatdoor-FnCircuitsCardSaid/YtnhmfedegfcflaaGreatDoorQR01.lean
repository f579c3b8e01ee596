/- Contracts of tests of numbers and lists: elements of fields, bits, closures handed to the library's search. Lengths up to 2^21. -/
import Derived.WalkKit
import Derived.WalkLawsBesides
import Derived.WalkSpells
import Derived.Deep.QuietTactic
import Derived.BigQuiet
import Derived.Outline
import Derived.Lib.Hide
import Derived.Deep.AppendLies
import Derived.Deep.RegionHeld3
import Derived.Deep.RegionWith
import Derived.Deep.LoopGhost
import Derived.Laws.MakeOwn
import Derived.KernelRfl
import Derived.Test.YtnhmfedegfcflaaGreatDoorProg
import Derived.ProofKit
import Derived.OpenShut
import Derived.ShutString
import Derived.ChangeOld
import Derived.Below
import Derived.Maps.AppendAt
namespace Go.Proofs.YtnhmfedegfcflaaGreatDoor
open Go.RowKit
set_option linter.unusedVariables false
set_option linter.unusedSimpArgs false
theorem fin1 {p : Prop} (h : p := by repeat' (first | exact Below.refl _ _ | refine Below.drew ?_ | refine Zas ?_ _ | refine Below.alloc ?_ ?_ _ | refine Below.setCell ?_ ?_ _ | (simp; done) | (simp; omega))) : p := h
theorem fin2 {p : Prop} (h : p := by first | assumption | (repeat' (first | assumption | refine Below.drew ?_ | refine Zas ?_ _ | refine Below.alloc ?_ ?_ _ | refine Below.setCell ?_ ?_ _ | (simp; done) | (simp; omega) | omega))) : p := h
theorem oM {p : Prop} (h : p := by first | omega | (simp; done) | (simp; omega)) : p := h
theorem oN {p : Prop} (h : p := by first | omega | (simp; omega)) : p := h
theorem lR {n : Nat} : n ≤ n := Nat.le_refl n
theorem zH {p : Prop} (h : p) : Hid p := h
theorem lT {α : Sort _} (a : α) : ∃ x, Hid (a = x) := ⟨a, zH rfl⟩
theorem bA {w : World} {o : Obj} : Below w.heap.size w (w.alloc o) := (Below.refl _ _).alloc (Nat.le_refl _) _
theorem pA (a : Act) (d : Tmp) (v : Value) : a.put (some d) v = { a with tmps := a.tmps.setIfInBounds d v } := rfl
theorem pB (a : Act) (v : Value) : a.put none v = a := rfl
theorem sA {α : Type _} {xs : List α} {i : Nat} {a : α} : xs.toArray.setIfInBounds i a = (xs.set i a).toArray := by simp
theorem sB {α : Type _} {x : α} {xs : List α} {a : α} : (x :: xs).set 0 a = a :: xs := rfl
theorem sC {α : Type _} {x : α} {xs : List α} {n : Nat} {a : α} : (x :: xs).set (n + 1) a = x :: xs.set n a := rfl
theorem info_int : (Tryz.prog.info? 3).map (fun i => (i.zero, i.size, i.bytes)) = some (some (.int .i64 0), 1, 8) := by kernel_rfl
def gi (xs : List Int) (j : Nat) : Int := xs.getD j 0
theorem gi_lt {xs : List Int} {j : Nat} (h : j < xs.length) : gi xs j = xs[j] := by simp [gi, h]
theorem gi_mem {xs : List Int} {j : Nat} (h : j < xs.length) : gi xs j ∈ xs := by rw [gi_lt h]; exact List.getElem_mem h
theorem Zcg {xs : List Int} {k : Nat} (h : k < xs.length) : xs.take (k + 1) = xs.take k ++ [gi xs k] := by
 rw [List.take_succ_eq_append_getElem h, gi_lt h]
theorem gi_eq {xs ys : List Int} (h : xs.length = ys.length) (hg : ∀ j, j < xs.length → gi xs j = gi ys j) : xs = ys := by
 refine List.ext_getElem h fun i h1 h2 => ?_
 have := hg i h1
 rwa [gi_lt h1, gi_lt h2] at this
def RI (w : World) (A : Option Addr) (n : Nat) (xs : List Int) : Prop :=
 xs.length = n ∧ (0 < n → ∃ b o, A = some ⟨b, o, none⟩ ∧ b < w.heap.size ∧ ∀ j, j < n → w.cell? ⟨b, o + j, none⟩ = some (.int .i64 (gi xs j)))
theorem RI.len {w : World} {A : Option Addr} {n : Nat} {xs : List Int} (h : RI w A n xs) : xs.length = n := h.1
theorem RI.at_ {w : World} {A : Option Addr} {n : Nat} {xs : List Int} {k : Nat} (h : RI w A n xs) (hk : k < n) :
 ∃ b o, A = some ⟨b, o, none⟩ ∧ b < w.heap.size ∧ w.cell? ⟨b, o + k, none⟩ = some (.int .i64 (gi xs k)) := by
 obtain ⟨b, o, hA, hb, hc⟩ := h.2 (by omega)
 exact ⟨b, o, hA, hb, hc k hk⟩
theorem RI.below {w w' : World} {A : Option Addr} {n : Nat} {xs : List Int} (h : RI w A n xs) {B : Nat} (hb : Below B w w') (hB : w.heap.size ≤ B) : RI w' A n xs :=
 ⟨h.1, fun hn => by
  obtain ⟨b, o, hA, hlt, hc⟩ := h.2 hn
  exact ⟨b, o, hA, Nat.lt_of_lt_of_le hlt hb.size, fun j hj => (hb.cell (p := ⟨b, o + j, none⟩) (by exact Nat.lt_of_lt_of_le hlt hB)).trans (hc j hj)⟩⟩
theorem RI.alloc {w : World} {A : Option Addr} {n : Nat} {xs : List Int} (h : RI w A n xs) (o : Obj) : RI (w.alloc o) A n xs :=
 h.below ((Below.refl _ _).alloc lR o) lR
def Own (w : World) (lo hi : Nat) (v : Value) (n : Nat) (xs : List Int) : Prop :=
 w.ownsRow lo 3 1 v n (xs.map (Value.int .i64)) ∧ ∀ g, v.ownBlock = some g → g < hi
theorem Own.len {w : World} {lo hi n : Nat} {v : Value} {xs : List Int} (h : Own w lo hi v n xs) : xs.length = n := by
 have := h.1.1; simpa using this
theorem Own.lt {w : World} {lo hi n : Nat} {v : Value} {xs : List Int} (h : Own w lo hi v n xs) : ∀ g, v.ownBlock = some g → lo ≤ g ∧ g < hi ∧ g < w.heap.size :=
 fun g hg => ⟨(h.1.lt g hg).1, h.2 g hg, (h.1.lt g hg).2⟩
theorem Own.mk_ {w : World} {lo n : Nat} {v : Value} {xs : List Int} (h : w.ownsRow lo 3 1 v n (xs.map (Value.int .i64))) : Own w lo w.heap.size v n xs :=
 ⟨h, fun g hg => (h.lt g hg).2⟩
theorem Own.none_ (w : World) (lo hi : Nat) : Own w lo hi (.slice none 0 0) 0 [] := ⟨by simpa using World.ownsRow_nil w lo _ _, fun g hg => by simp [Value.ownBlock] at hg⟩
theorem Own.lo_ {w : World} {lo lo' hi n : Nat} {v : Value} {xs : List Int} (h : Own w lo hi v n xs) (hl : lo' ≤ lo) : Own w lo' hi v n xs := by
 refine ⟨⟨h.1.1, ?_⟩, h.2⟩
 rcases h.1.2 with h1 | ⟨g, cap, cur, hv, hb, r⟩
 ·exact .inl h1
 ·exact .inr ⟨g, cap, cur, hv, by omega, r⟩
theorem Own.hi_ {w : World} {lo hi hi' n : Nat} {v : Value} {xs : List Int} (h : Own w lo hi v n xs) (hl : hi ≤ hi') : Own w lo hi' v n xs := ⟨h.1, fun g hg => Nat.lt_of_lt_of_le (h.2 g hg) hl⟩
theorem Own.now {w : World} {lo hi n : Nat} {v : Value} {xs : List Int} (h : Own w lo hi v n xs) : Own w lo w.heap.size v n xs := ⟨h.1, fun g hg => (h.lt g hg).2.2⟩
theorem Own.form {w : World} {lo hi n : Nat} {v : Value} {xs : List Int} (h : Own w lo hi v n xs) : ∃ A c, v = .slice A n c ∧ (A = none → n = 0 ∧ c = 0) ∧ n ≤ c := by
 rcases h.1.2 with ⟨rfl, rfl⟩ | ⟨g, cap, cur, hv, _, _, hnc, _⟩
 ·exact ⟨none, 0, rfl, fun _ => ⟨rfl, rfl⟩, Nat.le_refl _⟩
 ·exact ⟨_, cap, hv, fun h => by simp at h, hnc⟩
theorem Own.grown {w w' : World} {lo hi n : Nat} {v : Value} {xs : List Int} {row : Option Nat} (h : Own w lo hi v n xs) (hg : w.grownBy w' row) (hne : v.ownBlock = none ∨ v.ownBlock ≠ row) : Own w' lo hi v n xs :=
 ⟨h.1.kept hg hne, h.2⟩
theorem Own.below {w w' : World} {lo hi n : Nat} {v : Value} {xs : List Int} {B : Nat} (h : Own w lo hi v n xs) (hb : Below B w w') (hB : w.heap.size ≤ B ∨ hi ≤ B) : Own w' lo hi v n xs := by
 refine ⟨⟨h.1.1, ?_⟩, h.2⟩
 rcases h.1.2 with h1 | ⟨g, cap, cur, rfl, hlo, hg, r⟩
 ·exact .inl h1
 ·refine .inr ⟨g, cap, cur, rfl, hlo, ?_, r⟩
  have := h.lt g (by simp [Value.ownBlock])
  rw [hb.block g (by omega)]; exact hg
theorem Own.drewN {w : World} {lo hi n : Nat} {v : Value} {xs : List Int} (h : Own w lo hi v n xs) (k : Nat) : Own (w.drewN k) lo hi v n xs := h
theorem Own.alloc {w : World} {lo hi n : Nat} {v : Value} {xs : List Int} (h : Own w lo hi v n xs) (o : Obj) : Own (w.alloc o) lo hi v n xs := h.below ((Below.refl _ _).alloc lR o) (.inl lR)
theorem Own.reads {w : World} {lo hi n c : Nat} {A : Option Addr} {xs : List Int} (h : Own w lo hi (.slice A n c) n xs) : RI w A n xs := by
 refine ⟨h.len, fun hn => ?_⟩
 obtain ⟨g, cap, hv, _, hlt⟩ := h.1.form hn
 simp only [Value.slice.injEq, true_and] at hv
 obtain ⟨rfl, rfl⟩ := hv
 refine ⟨g, 0, rfl, hlt, fun j hj => ?_⟩
 have hl := h.len
 rw [Nat.zero_add, h.1.cellAt j (by omega), List.getElem?_map, List.getElem?_eq_getElem (by omega), gi_lt (by omega)]
 rfl
theorem Own.some_ {w : World} {lo hi n c : Nat} {A : Option Addr} {xs : List Int} (h : Own w lo hi (.slice A n c) n xs) (hn : 0 < n) : ∃ g, A = some ⟨g, 0, none⟩ ∧ lo ≤ g ∧ g < hi ∧ g < w.heap.size := by
 obtain ⟨g, cap, hv, h1, h2⟩ := h.1.form hn
 simp only [Value.slice.injEq, true_and] at hv
 obtain ⟨rfl, rfl⟩ := hv
 exact ⟨g, rfl, h1, h.2 g rfl, h2⟩
theorem Own.cellAt {w : World} {lo hi g n c : Nat} {xs : List Int} (h : Own w lo hi (.slice (some ⟨g, 0, none⟩) n c) n xs) {k : Nat} (hk : k < n) :
 w.cell? ⟨g, k, none⟩ = some (.int .i64 (gi xs k)) ∧ w.frozen? ⟨g, k, none⟩ = false := by
 have hl := h.len
 refine ⟨?_, h.1.frozenAt k⟩
 rw [h.1.cellAt k (by omega), List.getElem?_map, List.getElem?_eq_getElem (by omega), gi_lt (by omega)]
 rfl
def RetI (w : World) (zs : List Int) (e : Ending) (w' : World) : Prop :=
 ∃ A' c', e = .returned (.slice A' zs.length c') ∧ Own w' w.heap.size w'.heap.size (.slice A' zs.length c') zs.length zs ∧ Below w.heap.size w w'
def RetO (w : World) (o : Option (List Int)) (e : Ending) (w' : World) : Prop :=
 ∃ A' c', e = .returned (.tuple #[.slice A' (o.getD []).length c', .bool o.isSome]) ∧ Own w' w.heap.size w'.heap.size (.slice A' (o.getD []).length c') (o.getD []).length (o.getD []) ∧ Below w.heap.size w w'
theorem RetI.mk_ {w : World} {zs : List Int} {n : Nat} {A' : Option Addr} {c' : Nat} {e : Ending} {w' : World} (hn : zs.length = n) (he : e = .returned (.slice A' n c')) (ho : Own w' w.heap.size w'.heap.size (.slice A' n c') n zs) (hb : Below w.heap.size w w') : RetI w zs e w' := by
 subst hn; exact ⟨A', c', he, ho, hb⟩
theorem RetI.open_ {w : World} {zs : List Int} {n : Nat} {e : Ending} {w' : World} (h : RetI w zs e w') (hn : zs.length = n) : ∃ A' c', e = .returned (.slice A' n c') ∧ Own w' w.heap.size w'.heap.size (.slice A' n c') n zs ∧ Below w.heap.size w w' := by
 subst hn; exact h
theorem RetO.none_ {w : World} {o : Option (List Int)} {e : Ending} {w' : World} (hb : Below w.heap.size w w') (ho : o = none) (he : e = .returned (.tuple #[.slice none 0 0, .bool false])) : RetO w o e w' := by
 subst ho; exact ⟨none, 0, he, Own.none_ _ _ _, hb⟩
theorem RetO.some_ {w : World} {o : Option (List Int)} {zs : List Int} {n : Nat} {A' : Option Addr} {c' : Nat} {e : Ending} {w' : World} (hb : Below w.heap.size w w') (ho : o = some zs) (hn : zs.length = n) (he : e = .returned (.tuple #[.slice A' n c', .bool true]))
 (hw : Own w' w.heap.size w'.heap.size (.slice A' n c') n zs) : RetO w o e w' := by
 subst ho; subst hn; exact ⟨A', c', he, hw, hb⟩
theorem bcell {W w1 : World} {B : Nat} (hb : Below B W w1) : (∀ b o, b < B → w1.cell? ⟨b, o, none⟩ = W.cell? ⟨b, o, none⟩) ∧ (∀ b o, b < B → w1.frozen? ⟨b, o, none⟩ = W.frozen? ⟨b, o, none⟩) :=
 ⟨fun b o h => hb.cell (p := ⟨b, o, none⟩) h, fun b o h => hb.frozen (p := ⟨b, o, none⟩) h⟩
theorem Zas {B : Nat} {a w : World} (h : Below B a w) (n : Nat) : Below B a (w.drewN n) := ⟨h.os, h.tape, h.output, h.size, h.block⟩
theorem Zay {B : Nat} {a : World} (n : Nat) : Below B a (a.drewN n) := Zas (Below.refl _ _) n
theorem below_grown {B : Nat} {a w w' : World} {row : Option Nat} (h : Below B a w) (hg : w.grownBy w' row) (hB : B ≤ w.heap.size) (hr : ∀ k, row = some k → B ≤ k) : Below B a w' := h.grown hg hB hr
theorem below_of_grownBy {a w : World} (h : a.grownBy w none) : Below a.heap.size a w := ⟨h.os, h.tape, h.output, h.size, fun i hi => h.block i hi (by simp)⟩
theorem ret_bool {a b : Bool} (h : a = b) : Ending.returned (.bool a) = .returned (.bool b) := by rw [h]
end Go.Proofs.YtnhmfedegfcflaaGreatDoor
namespace Go.Proofs.YtnhmfedegfcflaaGreatDoor
open Go.ChangeShapes Go.WideShapes Go.ChangeAt Go.RowKit
open Go.ChangeMaps (open_string shut_string)
set_option linter.unusedVariables false
set_option linter.unusedSimpArgs false
theorem own : ownKnob Tryz.prog.godebug = none := by kernel_rfl
theorem laidOut : laidOutB Tryz.prog = true := by kernel_rfl
end Go.Proofs.YtnhmfedegfcflaaGreatDoor
namespace Go.Proofs.YtnhmfedegfcflaaGreatDoor
open Go.RowKit
set_option linter.unusedVariables false
set_option linter.unusedSimpArgs false
def inB (lo hi x : Int) : Bool := decide (lo ≤ x ∧ x ≤ hi)
theorem inB_iff {lo hi x : Int} : inB lo hi x = true ↔ lo ≤ x ∧ x ≤ hi := by simp [inB]
theorem inB_t {lo hi x : Int} (h : lo ≤ x ∧ x ≤ hi) : inB lo hi x = true := inB_iff.2 h
theorem inB_f {lo hi x : Int} (h : ¬ (lo ≤ x ∧ x ≤ hi)) : inB lo hi x = false := by
 cases hc : inB lo hi x with
 | false => rfl
 | true => exact absurd (inB_iff.1 hc) h
theorem inB_not {lo hi x : Int} (h : inB lo hi x = false) : ¬ (lo ≤ x ∧ x ≤ hi) := fun hc => by rw [inB_t hc] at h; cases h
def allB (lo hi : Int) (xs : List Int) : Bool := xs.all (inB lo hi)
theorem allB_iff {lo hi : Int} {xs : List Int} : allB lo hi xs = true ↔ ∀ x ∈ xs, lo ≤ x ∧ x ≤ hi := by simp [allB, inB]
theorem Zbv {lo hi : Int} {xs : List Int} (h : allB lo hi xs = true) {j : Nat} (hj : j < xs.length) : lo ≤ gi xs j ∧ gi xs j ≤ hi := allB_iff.1 h _ (gi_mem hj)
theorem allB_take {lo hi : Int} {xs : List Int} {k : Nat} (h : k < xs.length) : allB lo hi (xs.take (k + 1)) = (allB lo hi (xs.take k) && inB lo hi (gi xs k)) := by
 rw [Zcg h]; simp [allB]
theorem allB_false {lo hi : Int} {xs : List Int} {k : Nat} (h : k < xs.length) (hk : inB lo hi (gi xs k) = false) : allB lo hi xs = false := by
 cases hc : allB lo hi xs with
 | false => rfl
 | true => exact absurd (Zbv hc h) (inB_not hk)
def idxP (p : Int → Bool) (xs : List Int) : Int := if xs.any p then (xs.findIdx p : Int) else -1
theorem idxP_none {p : Int → Bool} {xs : List Int} (h : xs.any p = false) : idxP p xs = -1 := by simp [idxP, h]
theorem idxP_some {p : Int → Bool} {xs : List Int} {k : Nat} (h : k < xs.length) (h1 : (xs.take k).any p = false) (h2 : p (gi xs k) = true) : idxP p xs = k := by
 have hx : xs.any p = true := by simp only [List.any_eq_true]; exact ⟨_, gi_mem h, h2⟩
 rw [idxP, if_pos hx]
 have : xs.findIdx p = k := by
  rw [List.findIdx_eq h]
  rw [gi_lt h] at h2
  refine ⟨h2, fun j hj => ?_⟩
  have := List.any_eq_false.1 h1 (xs[j]'(by omega)) (List.mem_take_iff_getElem.2 ⟨j, by omega, rfl⟩)
  simpa using this
 rw [this]
theorem any_take_succ {p : Int → Bool} {xs : List Int} {k : Nat} (h : k < xs.length) (h1 : (xs.take k).any p = false) (h2 : p (gi xs k) = false) : (xs.take (k + 1)).any p = false := by
 rw [Zcg h]; simp only [List.any_append, h1, List.any_cons, h2, List.any_nil, Bool.or_self]
theorem addr_add (b o j : Nat) : (⟨b, o, none⟩ : Addr).add j = ⟨b, o + j, none⟩ := by
 unfold Addr.add; split
 ·rename_i h; subst h; rfl
 ·rfl
theorem ints_one (ys : List Int) : ∀ u ∈ ys.map (Value.int .i64), u.oneCell' = true := by
 intro u hu
 obtain ⟨y, _, rfl⟩ := List.mem_map.1 hu
 rfl
theorem RI_new (w : World) (ys : List Int) (t : TypeId) (n : Nat) (hn : ys.length = n) : RI (w.alloc (.cells (ys.map (Value.int .i64)).toArray t)) (some ⟨w.heap.size, 0, none⟩) n ys := by
 refine ⟨hn, fun _ => ⟨w.heap.size, 0, rfl, by simp, fun j hj => ?_⟩⟩
 rw [cell_of_row _ w.heap.size (0 + j) _ _ _ (heap_alloc_new w _)]
 simp [gi_lt (show j < ys.length by omega), show j < ys.length by omega]
theorem RI_new1 (w : World) (x : Int) (t : TypeId) : RI (w.alloc (.cells #[.int .i64 x] t)) (some ⟨w.heap.size, 0, none⟩) 1 [x] := RI_new w [x] t 1 rfl
theorem RI_new2 (w : World) (x y : Int) (t : TypeId) : RI (w.alloc (.cells #[.int .i64 x, .int .i64 y] t)) (some ⟨w.heap.size, 0, none⟩) 2 [x, y] := RI_new w [x, y] t 2 rfl
theorem RI_new3 (w : World) (x y z : Int) (t : TypeId) : RI (w.alloc (.cells #[.int .i64 x, .int .i64 y, .int .i64 z] t)) (some ⟨w.heap.size, 0, none⟩) 3 [x, y, z] := RI_new w [x, y, z] t 3 rfl
theorem Own_new (w : World) (ys : List Int) (n lo : Nat) (hn : ys.length = n) (hl : lo ≤ w.heap.size) (hm : n ≤ 4194304) :
 Own (w.alloc (.cells (ys.map (Value.int .i64)).toArray 3)) lo (w.heap.size + 1) (.slice (some ⟨w.heap.size, 0, none⟩) n n) n ys := by
 refine ⟨?_, fun g hg => by simp [Value.ownBlock] at hg; omega⟩
 have h := World.ownsRow_lit (base := lo) (e := 3) (size := 1) w (ys.map (Value.int .i64)).toArray n hl (by unfold maxLen; omega) (by simp [hn])
 simpa using h
theorem Zcu (w : World) (lo : Nat) (hl : lo ≤ w.heap.size) : Own (w.alloc (.cells #[] 3)) lo (w.heap.size + 1) (.slice (some ⟨w.heap.size, 0, none⟩) 0 0) 0 [] := Own_new w [] 0 lo rfl hl (by omega)
section
variable (w : World)
theorem run_app_nil (t ty : TypeId) (ht : Tryz.prog.underlying t = some (.slice 3)) (lo hi : Nat)
 (v : Value) (n : Nat) (xs : List Int) (hown : Own w lo hi v n xs) (c : Nat) : (Builtin.append_ #[t, t] ty #[v, .slice none 0 c]).run Tryz.prog w = .ok v w := by
 obtain ⟨i, hi0, hz0, hz1, hz2⟩ := info_parts info_int
 rcases hown.1.2 with ⟨rfl, rfl⟩ | ⟨g, cap, cur, rfl, _, _, hnc, _⟩
 ·simp [Builtin.append_, run_underlying ht, sizeOf, typeInfo, hi0, Builtin.lenOf, Builtin.firstCells]
 ·simp [Builtin.append_, run_underlying ht, sizeOf, typeInfo, hi0, Builtin.lenOf, Builtin.firstCells, hnc, storeCells]
theorem run_app (ty : TypeId) (lo hi n c0 m c : Nat) (A0 A : Option Addr) (xs ys : List Int) (hown : Own w lo hi (.slice A0 n c0) n xs) (hr : RI w A m ys)
 (hlen : n + m ≤ 8388608) (hlo : lo ≤ w.heap.size) :
 ∃ A' c' w', (Builtin.append_ #[25, 25] ty #[.slice A0 n c0, .slice A m c]).run Tryz.prog w = .ok (.slice A' (n + m) c') w' ∧
  Own w' lo w'.heap.size (.slice A' (n + m) c') (n + m) (xs ++ ys) ∧ w.grownBy w' (Value.slice A0 n c0).ownBlock ∧
  ((Value.slice A' (n + m) c').ownBlock = (Value.slice A0 n c0).ownBlock ∨ (Value.slice A' (n + m) c').ownBlock = some w.heap.size) := by
 obtain ⟨i, hi0, hz0, hz1, hz2⟩ := info_parts info_int
 have hl := hr.len
 have go : ∀ ad : Addr, (∀ j u, (ys.map (Value.int .i64))[j]? = some u → w.cell? (ad.add j) = some u) →
  ∃ A' c' w', (Builtin.append_ #[25, 25] ty #[.slice A0 n c0, .slice (some ad) m c]).run Tryz.prog w = .ok (.slice A' (n + m) c') w' ∧
  Own w' lo w'.heap.size (.slice A' (n + m) c') (n + m) (xs ++ ys) ∧ w.grownBy w' (Value.slice A0 n c0).ownBlock ∧
  ((Value.slice A' (n + m) c').ownBlock = (Value.slice A0 n c0).ownBlock ∨ (Value.slice A' (n + m) c').ownBlock = some w.heap.size) := by
  intro ad hc
  obtain ⟨v', w', hrun, h2, h3, _, h5⟩ := run_append_own_at (P := Tryz.prog) w lo 25 ty 3 i (.int .i64 0) 1 8 Tryz.underlying25 hi0 hz0 hz1 hz2 rfl (by decide) (.slice A0 n c0) n _ hown.1 ad m c (ys.map (Value.int .i64)) (by simp [hl]) hc (ints_one ys)
   (by unfold maxLen; omega) (by omega) hlo
  rw [← List.map_append] at h2
  have hO := Own.mk_ h2
  obtain ⟨A', c', rfl, _⟩ := hO.form
  exact ⟨A', c', w', hrun, hO, h3, h5⟩
 rcases A with _ | ad
 ·have hm : m = 0 := by
   rcases Nat.eq_zero_or_pos m with h0 | h0
   ·exact h0
   ·obtain ⟨b, o, h, _⟩ := hr.2 h0
    cases h
  subst hm
  obtain rfl : ys = [] := List.eq_nil_of_length_eq_zero hl
  refine ⟨A0, c0, w, run_app_nil w 25 ty Tryz.underlying25 lo hi _ n xs hown c, ?_, World.grownBy.refl w _, .inl rfl⟩
  simpa using (Own.mk_ hown.1)
 ·refine go ad ?_
  intro j u hu
  have hj : j < ys.length := by
   rcases Nat.lt_or_ge j ys.length with h | h
   ·exact h
   ·rw [List.getElem?_eq_none (by simpa using h)] at hu; cases hu
  obtain ⟨b, o, h, _, hcc⟩ := hr.at_ (k := j) (by omega)
  simp only [Option.some.injEq] at h
  subst h
  rw [addr_add, hcc]
  rw [List.getElem?_map, List.getElem?_eq_getElem hj] at hu
  rw [gi_lt hj]
  exact hu
theorem wp_app {o : Oper} {a : Act} {K : Act → World → Prop} {Q : Exit → Act → World → Prop} (s x : Operand)
 (ho : o.op = .call { callee := .builtin .append, args := #[s, x], argTypes := #[25, 25] })
 {lo hi n c0 m c : Nat} {A0 A : Option Addr} {xs ys : List Int} (hs : a.eval s = .slice A0 n c0) (hown : Own w lo hi (.slice A0 n c0) n xs) (hx : a.eval x = .slice A m c) (hr : RI w A m ys)
 (hlen : n + m ≤ 8388608) (hlo : lo ≤ w.heap.size)
 (h : ∀ A' c' w', Own w' lo w'.heap.size (.slice A' (n + m) c') (n + m) (xs ++ ys) → w.grownBy w' (Value.slice A0 n c0).ownBlock → ((Value.slice A' (n + m) c').ownBlock = (Value.slice A0 n c0).ownBlock ∨ (Value.slice A' (n + m) c').ownBlock = some w.heap.size) → K (a.put o.dst (.slice A' (n + m) c')) w') : o.wp Tryz.prog a w K Q := by
 obtain ⟨A', c', w', hrun, h2, h3, h4⟩ := run_app w o.type lo hi n c0 m c A0 A xs ys hown hr hlen hlo
 unfold Oper.wp execOp
 simp only [ho, resolve, invoke, builtin, Sem.run_bind, Sem.run_pure, Result.andThen_ok, List.map_toArray, List.map_cons, List.map_nil, hs, hx, hrun]
 exact h A' c' w' h2 h3 h4
theorem Zaw {ops : Array Oper} {rest : List Oper} {o : Oper} {a : Act} {Q : Exit → Act → World → Prop} (hgd : o.guard = none) (s x : Operand)
 (ho : o.op = .call { callee := .builtin .append, args := #[s, x], argTypes := #[25, 25] })
 {lo hi n c0 m c : Nat} {A0 A : Option Addr} {xs ys : List Int} (hs : a.eval s = .slice A0 n c0) (hown : Own w lo hi (.slice A0 n c0) n xs) (hx : a.eval x = .slice A m c) (hr : RI w A m ys)
 (hlen : n + m ≤ 8388608) (hlo : lo ≤ w.heap.size)
 (h : ∀ A' c' w', Own w' lo w'.heap.size (.slice A' (n + m) c') (n + m) (xs ++ ys) → w.grownBy w' (Value.slice A0 n c0).ownBlock → ((Value.slice A' (n + m) c').ownBlock = (Value.slice A0 n c0).ownBlock ∨ (Value.slice A' (n + m) c').ownBlock = some w.heap.size) → wpList Tryz.prog ops Q rest (a.put o.dst (.slice A' (n + m) c')) w') : wpList Tryz.prog ops Q (o :: rest) a w :=
 wpList_plain hgd fun _ hK => wp_app w s x ho hs hown hx hr hlen hlo fun A' c' w' h2 h3 h4 => hK _ _ (h A' c' w' h2 h3 h4)
end
theorem Zar {B : Nat} {a w w' : World} {lo hi n c : Nat} {A : Option Addr} {xs : List Int} (h : Below B a w) (hown : Own w lo hi (.slice A n c) n xs) (hg : w.grownBy w' (Value.slice A n c).ownBlock) (hB : B ≤ w.heap.size) (hl : B ≤ lo) : Below B a w' :=
 h.grown hg hB fun k hk => by have := hown.lt k hk; omega
def Apart (v v' : Value) : Prop := ∀ g, v.ownBlock = some g → v'.ownBlock ≠ some g
theorem Own.apart {w w' : World} {lo hi n : Nat} {v v1 : Value} {xs : List Int} (h : Own w lo hi v n xs) (hg : w.grownBy w' v1.ownBlock) (ha : Apart v v1) : Own w' lo hi v n xs :=
 h.grown hg (by
  cases hv : v.ownBlock with
  | none => exact .inl rfl
  | some g => exact .inr (fun he => ha g hv he.symm))
structure G3 where
 k : Int
 a : Int
 b : Int
def gg (gs : List G3) (j : Nat) : G3 := gs.getD j ⟨0, 0, 0⟩
theorem gg_lt {gs : List G3} {j : Nat} (h : j < gs.length) : gg gs j = gs[j] := by simp [gg, h]
theorem gg_take_snoc {gs : List G3} {k : Nat} (h : k < gs.length) : gs.take (k + 1) = gs.take k ++ [gg gs k] := by
 rw [List.take_succ_eq_append_getElem h, gg_lt h]
def RG (w : World) (A : Option Addr) (n : Nat) (gs : List G3) : Prop :=
 gs.length = n ∧ (0 < n → ∃ b o, A = some ⟨b, o, none⟩ ∧ b < w.heap.size ∧ ∀ j, j < n →
  w.cell? ⟨b, o + j * 3, none⟩ = some (.int .i64 (gg gs j).k) ∧ w.cell? ⟨b, o + j * 3 + 1, none⟩ = some (.int .i64 (gg gs j).a) ∧ w.cell? ⟨b, o + j * 3 + 2, none⟩ = some (.int .i64 (gg gs j).b))
theorem RG.len {w : World} {A : Option Addr} {n : Nat} {gs : List G3} (h : RG w A n gs) : gs.length = n := h.1
theorem RG.at_ {w : World} {A : Option Addr} {n : Nat} {gs : List G3} {k : Nat} (h : RG w A n gs) (hk : k < n) :
 ∃ b o, A = some ⟨b, o, none⟩ ∧ b < w.heap.size ∧ w.cell? ⟨b, o + k * 3, none⟩ = some (.int .i64 (gg gs k).k) ∧ w.cell? ⟨b, o + k * 3 + 1, none⟩ = some (.int .i64 (gg gs k).a) ∧ w.cell? ⟨b, o + k * 3 + 2, none⟩ = some (.int .i64 (gg gs k).b) := by
 obtain ⟨b, o, hA, hb, hc⟩ := h.2 (by omega)
 exact ⟨b, o, hA, hb, hc k hk⟩
theorem RG.below {w w' : World} {A : Option Addr} {n : Nat} {gs : List G3} (h : RG w A n gs) {B : Nat} (hb : Below B w w') (hB : w.heap.size ≤ B) : RG w' A n gs :=
 ⟨h.1, fun hn => by
  obtain ⟨b, o, hA, hlt, hc⟩ := h.2 hn
  have hc' : ∀ q, w'.cell? ⟨b, q, none⟩ = w.cell? ⟨b, q, none⟩ := fun q => hb.cell (p := ⟨b, q, none⟩) (by exact Nat.lt_of_lt_of_le hlt hB)
  refine ⟨b, o, hA, Nat.lt_of_lt_of_le hlt hb.size, fun j hj => ?_⟩
  rw [hc', hc', hc']; exact hc j hj⟩
theorem RG.alloc {w : World} {A : Option Addr} {n : Nat} {gs : List G3} (h : RG w A n gs) (o : Obj) : RG (w.alloc o) A n gs :=
 h.below ((Below.refl _ _).alloc lR o) lR
def gcells (gs : List G3) : List Value := gs.flatMap fun g => [.int .i64 g.k, .int .i64 g.a, .int .i64 g.b]
theorem gcells_len (gs : List G3) : (gcells gs).length = gs.length * 3 := by
 induction gs with
 | nil => rfl
 | cons g gs ih => simp only [gcells, List.flatMap_cons, List.length_append, List.length_cons, List.length_nil] at ih ⊢; rw [ih]; omega
theorem gcells_at (gs : List G3) : ∀ j, j < gs.length → (gcells gs)[j * 3]? = some (.int .i64 (gg gs j).k) ∧ (gcells gs)[j * 3 + 1]? = some (.int .i64 (gg gs j).a) ∧ (gcells gs)[j * 3 + 2]? = some (.int .i64 (gg gs j).b) := by
 induction gs with
 | nil => intro j hj; simp at hj
 | cons g gs ih =>
  intro j hj
  cases j with
  | zero => exact ⟨rfl, rfl, rfl⟩
  | succ j =>
   have := ih j (by simpa using hj)
   have hc : gcells (g :: gs) = Value.int .i64 g.k :: .int .i64 g.a :: .int .i64 g.b :: gcells gs := rfl
   have hgg : gg (g :: gs) (j + 1) = gg gs j := rfl
   rw [hc, hgg, show (j + 1) * 3 = j * 3 + 1 + 1 + 1 from by omega]
   simpa using this
def OwnG (w : World) (lo hi : Nat) (v : Value) (n : Nat) (gs : List G3) : Prop :=
 w.ownsRow lo 49 3 v n (gcells gs) ∧ ∀ g, v.ownBlock = some g → g < hi
theorem OwnG.len {w : World} {lo hi n : Nat} {v : Value} {xs : List G3} (h : OwnG w lo hi v n xs) : xs.length = n := by
 have := h.1.1; rw [gcells_len] at this; omega
theorem OwnG.lt {w : World} {lo hi n : Nat} {v : Value} {xs : List G3} (h : OwnG w lo hi v n xs) : ∀ g, v.ownBlock = some g → lo ≤ g ∧ g < hi ∧ g < w.heap.size :=
 fun g hg => ⟨(h.1.lt g hg).1, h.2 g hg, (h.1.lt g hg).2⟩
theorem OwnG.mk_ {w : World} {lo n : Nat} {v : Value} {xs : List G3} (h : w.ownsRow lo 49 3 v n (gcells xs)) : OwnG w lo w.heap.size v n xs :=
 ⟨h, fun g hg => (h.lt g hg).2⟩
theorem OwnG.none_ (w : World) (lo hi : Nat) : OwnG w lo hi (.slice none 0 0) 0 [] := ⟨World.ownsRow_nil w lo _ _, fun g hg => by simp [Value.ownBlock] at hg⟩
theorem OwnG.lo_ {w : World} {lo lo' hi n : Nat} {v : Value} {xs : List G3} (h : OwnG w lo hi v n xs) (hl : lo' ≤ lo) : OwnG w lo' hi v n xs := by
 refine ⟨⟨h.1.1, ?_⟩, h.2⟩
 rcases h.1.2 with h1 | ⟨g, cap, cur, hv, hb, r⟩
 ·exact .inl h1
 ·exact .inr ⟨g, cap, cur, hv, by omega, r⟩
theorem OwnG.hi_ {w : World} {lo hi hi' n : Nat} {v : Value} {xs : List G3} (h : OwnG w lo hi v n xs) (hl : hi ≤ hi') : OwnG w lo hi' v n xs := ⟨h.1, fun g hg => Nat.lt_of_lt_of_le (h.2 g hg) hl⟩
theorem OwnG.now {w : World} {lo hi n : Nat} {v : Value} {xs : List G3} (h : OwnG w lo hi v n xs) : OwnG w lo w.heap.size v n xs := ⟨h.1, fun g hg => (h.lt g hg).2.2⟩
theorem OwnG.below {w w' : World} {lo hi n : Nat} {v : Value} {xs : List G3} {B : Nat} (h : OwnG w lo hi v n xs) (hb : Below B w w') (hB : w.heap.size ≤ B ∨ hi ≤ B) : OwnG w' lo hi v n xs := by
 refine ⟨⟨h.1.1, ?_⟩, h.2⟩
 rcases h.1.2 with h1 | ⟨g, cap, cur, rfl, hlo, hg, r⟩
 ·exact .inl h1
 ·refine .inr ⟨g, cap, cur, rfl, hlo, ?_, r⟩
  have := h.lt g (by simp [Value.ownBlock])
  rw [hb.block g (by omega)]; exact hg
theorem OwnG.drewN {w : World} {lo hi n : Nat} {v : Value} {xs : List G3} (h : OwnG w lo hi v n xs) (k : Nat) : OwnG (w.drewN k) lo hi v n xs := h
theorem OwnG.alloc {w : World} {lo hi n : Nat} {v : Value} {xs : List G3} (h : OwnG w lo hi v n xs) (o : Obj) : OwnG (w.alloc o) lo hi v n xs := h.below ((Below.refl _ _).alloc lR o) (.inl lR)
theorem OwnG.reads {w : World} {lo hi n c : Nat} {A : Option Addr} {xs : List G3} (h : OwnG w lo hi (.slice A n c) n xs) : RG w A n xs := by
 refine ⟨h.len, fun hn => ?_⟩
 obtain ⟨g, cap, hv, _, hlt⟩ := h.1.form hn
 simp only [Value.slice.injEq, true_and] at hv
 obtain ⟨rfl, rfl⟩ := hv
 refine ⟨g, 0, rfl, hlt, fun j hj => ?_⟩
 have hl := h.len
 obtain ⟨q1, q2, q3⟩ := gcells_at xs j (by omega)
 simp only [Nat.zero_add]
 exact ⟨(h.1.cellAt _ (by omega)).trans q1, (h.1.cellAt _ (by omega)).trans q2, (h.1.cellAt _ (by omega)).trans q3⟩
structure Ci where
 i0 : Int
 i1 : Int
 gs : List G3
 os : List Int
theorem Zal (w : World) (cs : Array Value) {T} (i : Nat) (v : Value) (h : cs[i]? = some v) : (w.alloc (Obj.cells cs T)).cell? ⟨w.heap.size, i, none⟩ = some v := by
 rw [cell_of_row _ w.heap.size i _ _ _ (heap_alloc_new w _)]; exact h
def Keep (B : Nat) (W : World) (l : List (Addr × Value)) (w' : World) : Prop := Below B W w' ∧ ∀ q ∈ l, w'.cell? q.1 = some q.2
theorem Keep.next {B : Nat} {W w' w'' : World} {l : List (Addr × Value)} (h : Keep B W l w') (hb : Below w'.heap.size w' w'') (hB : B ≤ W.heap.size) : Keep B W l w'' :=
 ⟨h.1.trans (hb.mono (Nat.le_trans hB h.1.size)), fun q hq => (hb.cell (World.block_lt_of_cell? w' _ (h.2 q hq))).trans (h.2 q hq)⟩
theorem Zai (B : Nat) (W : World) (cs : List (Addr × Value)) {P : Program} {id : Nat} {Q : Exit → Act → World → Prop} {a : Act} {l : List Oper} (hm : P.follows .mixedOrders = true) (hB : Region.lexB .any l.toArray = true) (hC : ∀ q ∈ cs, W.cell? q.1 = some q.2)
 (h : wpQuiet P l.toArray (Keep B W cs) (fun a' => ∀ w', Keep B W cs w' → Q .normal a' w') l a) : (Code.region id l.toArray true).wp P Q a W :=
 wp_region_quiet (C := Keep B W cs) hm hB ⟨(Below.refl B W).drew, hC⟩ (by simpa using h)
theorem Zax (n lo hi : Int) (r : Bool) (hr : inB lo hi n = r) (w : World) :
 Calls Tryz.prog 28 #[.int .i64 n, .int .i64 lo, .int .i64 hi] w fun e w' => e = .returned (.bool r) ∧ w = w' := by
 subst hr
 by_cases h1 : lo ≤ n
 ·by_cases h2 : n ≤ hi
  ·go_enter Tryz.func28, Tryz.ntmps28
   go_wp2
   go_ret
   exact ⟨by rw [inB_t ⟨h1, h2⟩]; rfl, rfl⟩
  ·go_enter Tryz.func28, Tryz.ntmps28
   go_wp2
   go_ret
   exact ⟨by rw [inB_f (by omega)]; rfl, rfl⟩
 ·go_enter Tryz.func28, Tryz.ntmps28
  go_wp2
  go_ret
  exact ⟨by rw [inB_f (by omega)]; rfl, rfl⟩
theorem Zaq (n lo hi : Int) (r : Bool) (hr : inB lo hi n = r) (w : World) :
 Calls Tryz.prog 71 #[.int .i64 n, .int .i64 lo, .int .i64 hi] w fun e w' => e = .returned (.bool r) ∧ w = w' := by
 subst hr
 by_cases h1 : lo ≤ n
 ·by_cases h2 : n ≤ hi
  ·go_enter Tryz.func71, Tryz.ntmps71
   go_wp2
   go_ret
   exact ⟨by rw [inB_t ⟨h1, h2⟩]; rfl, rfl⟩
  ·go_enter Tryz.func71, Tryz.ntmps71
   go_wp2
   go_ret
   exact ⟨by rw [inB_f (by omega)]; rfl, rfl⟩
 ·go_enter Tryz.func71, Tryz.ntmps71
  go_wp2
  go_ret
  exact ⟨by rw [inB_f (by omega)]; rfl, rfl⟩
theorem isBit_any (n : Int) (w : World) : Calls Tryz.prog 95 #[.int .i64 n] w fun e w' => e = .returned (.bool (inB 0 1 n)) ∧ w = w' := by
 by_cases h0 : n = 0
 ·have h0' : (n == 0) = true := by simpa using h0
  clear h0
  go_enter Tryz.func95, Tryz.ntmps95
  go_wp2
  go_ret
  exact ⟨by simp at h0'; subst h0'; rfl, rfl⟩
 ·have h0' : (n == 0) = false := by simpa using h0
  go_enter Tryz.func95, Tryz.ntmps95
  go_wp2
  go_ret
  refine ⟨ret_bool ?_, rfl⟩
  rw [Bool.eq_iff_iff]
  rw [inB_iff]
  simp only [beq_iff_eq]
  omega
set_option maxHeartbeats 400000 in
theorem l1All_any (A : Option Addr) (n c : Nat) (lo hi : Int) (xs : List Int) (w : World) (ha : RI w A n xs) (hn : n ≤ 2097152) :
 Calls Tryz.prog 73 #[.slice A n c, .int .i64 lo, .int .i64 hi] w fun e w' => e = .returned (.bool (allB lo hi xs)) ∧ w = w' := by
 have hl := ha.len
 go_enter Tryz.func73, Tryz.ntmps73
 go_wp2
 go_loop [11] (fun i => ∃ k : Nat, k ≤ n ∧ i = .int .i64 k ∧ Hid (allB lo hi (xs.take k) = true)) (fun i => n - (intOf i).toNat)
 case atStart => exact ⟨0, Nat.zero_le _, rfl, rfl⟩
 case round =>
  obtain ⟨k, hk, rfl, hall⟩ := hrel
  by_cases hlt : k < n
  ·obtain ⟨b, o, rfl, hbB, c1⟩ := ha.at_ hlt
   clear ha
   cases hd : inB lo hi (gi xs k) with
   | true =>
    have HD := zH hd
    clear hd
    go_wp2_with (go_at_call 71; refine (Zaq _ _ _ true HD.out _).mono ?_; rintro e w' ⟨rfl, rfl⟩)
    go_round
    case rel => exact ⟨k + 1, by omega, by go_num, by show _ = _; rw [allB_take (by omega), hall.out, HD.out]; rfl⟩
    case measure => simp [intOf]; omega
   | false =>
    have HD := zH hd
    clear hd
    go_wp2_with (go_at_call 71; refine (Zaq _ _ _ false HD.out _).mono ?_; rintro e w' ⟨rfl, rfl⟩)
    go_ret
    exact ⟨by rw [allB_false (by omega) HD.out]; rfl, rfl⟩
  ·obtain rfl : k = n := by omega
   go_wp2
   go_ret
   refine ⟨?_, rfl⟩
   have := hall.out
   rw [List.take_of_length_le (by omega)] at this
   rw [this]; rfl
def bitsB (n most : Nat) (xs : List Int) : Bool := decide (n ≤ most) && allB 0 1 xs
theorem Zbk (A : Option Addr) (n c most : Nat) (xs : List Int) (w : World) (ha : RI w A n xs) (hn : n ≤ 2097152) :
 Calls Tryz.prog 67 #[.slice A n c, .int .i64 most] w fun e w' => e = .returned (.bool (bitsB n most xs)) ∧ w = w' := by
 by_cases hm : n ≤ most
 ·have HR : Hid (bitsB n most xs = allB 0 1 xs) := zH (by simp [bitsB, hm])
  have hm' : (n : Int) ≤ most := by omega
  go_enter Tryz.func67, Tryz.ntmps67
  go_wp2_with (first | (go_at_call 73; refine (l1All_any _ _ _ _ _ _ _ ha hn).mono ?_; rintro e w' ⟨rfl, rfl⟩))
  go_ret
  exact ⟨by rw [HR.out]; rfl, rfl⟩
 ·have HR : Hid (bitsB n most xs = false) := zH (by simp [bitsB, hm])
  have hm' : ¬ (n : Int) ≤ most := by omega
  go_enter Tryz.func67, Tryz.ntmps67
  go_wp2
  go_ret
  exact ⟨by rw [HR.out]; rfl, rfl⟩
set_option maxHeartbeats 400000 in
theorem IndexFunc_any (f : FuncId) (hcf : ∀ args w, Sem.run Tryz.prog (callFunc f args) w = .ok (.enter f args) w) (cap : Array Value) (p : Int → Bool) (A : Option Addr) (n c : Nat) (xs : List Int) (w : World) (ha : RI w A n xs) (hn : n ≤ 2097152)
 (hf : Hid (∀ x ∈ xs, ∀ w1, Below w.heap.size w w1 → Calls Tryz.prog f (#[.int .i64 x] ++ cap) w1 fun e w' => e = .returned (.bool (p x)) ∧ Below w1.heap.size w1 w')) :
 Calls Tryz.prog 94 #[.slice A n c, .func (.func f) #[] cap] w fun e w' => e = .returned (.int .i64 (idxP p xs)) ∧ Below w.heap.size w w' := by
 have hl := ha.len
 go_enter Tryz.func94, Tryz.ntmps94
 go_wp2
 go_loopw [8] (fun i wr => ∃ k : Nat, k ≤ n ∧ i = .int .i64 k ∧ Hid ((xs.take k).any p = false) ∧ Below w.heap.size w wr) (fun i _ => n - (intOf i).toNat)
 case atStart => exact ⟨0, Nat.zero_le _, rfl, rfl, Below.refl _ _⟩
 case round =>
  obtain ⟨k, hk, rfl, hall, hb⟩ := hrel
  by_cases hlt : k < n
  ·obtain ⟨b, o, rfl, hbB, c1⟩ := ha.at_ hlt
   have c2 := (hb.cell (p := ⟨b, o + k, none⟩) hbB).trans c1
   clear ha c1
   cases hd : p (gi xs k) with
   | true =>
    have HD := zH hd
    clear hd
    go_wp2_with fail
    refine (hf.out _ (gi_mem (by omega)) _ hb).mono ?_
    rintro e w1 ⟨rfl, hb1⟩
    rw [HD.out]
    go_wp2
    go_ret
    refine ⟨?_, hb.trans (hb1.mono hb.size)⟩
    rw [idxP_some (by omega) hall.out HD.out]; rfl
   | false =>
    have HD := zH hd
    clear hd
    go_wp2_with fail
    refine (hf.out _ (gi_mem (by omega)) _ hb).mono ?_
    rintro e w1 ⟨rfl, hb1⟩
    rw [HD.out]
    go_wp2
    go_roundw
    case rel => exact ⟨k + 1, by omega, by go_num, any_take_succ (by omega) hall.out HD.out, hb.trans (hb1.mono hb.size)⟩
    case measure => simp [intOf]; omega
  ·obtain rfl : k = n := by omega
   go_wp2
   go_ret
   refine ⟨?_, hb⟩
   have := hall.out
   rw [List.take_of_length_le (by omega)] at this
   rw [idxP_none this]; rfl
theorem ContainsFunc_any (f : FuncId) (hcf : ∀ args w, Sem.run Tryz.prog (callFunc f args) w = .ok (.enter f args) w) (cap : Array Value) (p : Int → Bool) (A : Option Addr) (n c : Nat) (xs : List Int) (w : World) (ha : RI w A n xs) (hn : n ≤ 2097152)
 (hf : Hid (∀ x ∈ xs, ∀ w1, Below w.heap.size w w1 → Calls Tryz.prog f (#[.int .i64 x] ++ cap) w1 fun e w' => e = .returned (.bool (p x)) ∧ Below w1.heap.size w1 w')) :
 Calls Tryz.prog 69 #[.slice A n c, .func (.func f) #[] cap] w fun e w' => e = .returned (.bool (xs.any p)) ∧ Below w.heap.size w w' := by
 have hidx : decide (0 ≤ idxP p xs) = xs.any p := by
  unfold idxP; split
  ·rename_i h; rw [h]; simp
  ·rename_i h; simp at h; simpa using h
 have HI := zH hidx
 clear hidx
 go_enter Tryz.func69, Tryz.ntmps69
 go_wp2_with fail
 refine (IndexFunc_any f hcf cap p A n c xs _ ha hn hf).mono ?_
 rintro e w1 ⟨rfl, hb1⟩
 go_wp2
 go_ret
 exact ⟨by rw [← HI.out]; rfl, hb1⟩
theorem areAll_1_any (f : FuncId) (hcf : ∀ args w, Sem.run Tryz.prog (callFunc f args) w = .ok (.enter f args) w) (cap : Array Value) (a : Addr) (x : Int) (r : Bool) (w : World) (hc : w.cell? a = some (.func (.func f) #[] cap))
 (hf : Hid (Calls Tryz.prog f (#[.int .i64 x] ++ cap) w fun e w' => e = .returned (.bool r) ∧ Below w.heap.size w w')) :
 Calls Tryz.prog 70 #[.int .i64 x, .pointer (some a)] w fun e w' => e = .returned (.bool !r) ∧ Below w.heap.size w w' := by
 go_enter Tryz.func70, Tryz.ntmps70
 go_wp2_with fail
 refine hf.out.mono ?_
 rintro e w1 ⟨rfl, hb1⟩
 go_wp2
 go_ret
 exact ⟨rfl, hb1⟩
theorem areAll_any (f : FuncId) (hcf : ∀ args w, Sem.run Tryz.prog (callFunc f args) w = .ok (.enter f args) w) (cap : Array Value) (p : Int → Bool) (A : Option Addr) (n c : Nat) (xs : List Int) (w : World) (ha : RI w A n xs) (hn : n ≤ 2097152)
 (hf : Hid (∀ x ∈ xs, ∀ w1, Below w.heap.size w w1 → Calls Tryz.prog f (#[.int .i64 x] ++ cap) w1 fun e w' => e = .returned (.bool (p x)) ∧ Below w1.heap.size w1 w')) :
 Calls Tryz.prog 31 #[.slice A n c, .func (.func f) #[] cap] w fun e w' => e = .returned (.bool (xs.all p)) ∧ Below w.heap.size w w' := by
 have HI : Hid ((!xs.any fun x => !p x) = xs.all p) := zH (by simp [List.any_eq_not_all_not])
 have hB : Below w.heap.size w (w.alloc (.cells #[.func (.func f) #[] cap] 53)) := bA
 go_enter Tryz.func31, Tryz.ntmps31
 go_wp2_with fail
 refine (ContainsFunc_any 70 Tryz.call70 #[.pointer (some ⟨w.heap.size, 0, none⟩)] (fun x => !p x) A n c xs _ (ha.alloc _) hn ?_).mono ?_
 ·refine zH (fun x hx w1 hb1 => ?_)
  have hbw : Below w.heap.size w w1 := hB.trans (hb1.mono (by simp))
  refine areAll_1_any f hcf cap _ x (p x) w1 ?_ (zH (hf.out x hx w1 hbw))
  rw [hb1.cell (p := ⟨w.heap.size, 0, none⟩) (by simp)]
  rw [cell_of_row _ w.heap.size 0 _ _ _ (heap_alloc_new w _)]
  rfl
 ·rintro e w1 ⟨rfl, hb1⟩
  go_wp2
  go_ret
  exact ⟨by rw [← HI.out]; rfl, hB.trans (hb1.mono (by simp))⟩
theorem Zbf (A : Option Addr) (n c : Nat) (xs : List Int) (w : World) (ha : RI w A n xs) (hn : n ≤ 2097152) :
 Calls Tryz.prog 74 #[.slice A n c] w fun e w' => e = .returned (.bool (bitsB n 64 xs)) ∧ Below w.heap.size w w' := by
 by_cases hm : n ≤ 64
 ·have HR : Hid (bitsB n 64 xs = xs.all (inB 0 1)) := zH (by simp [bitsB, hm, allB])
  have hm' : (n : Int) ≤ 64 := by omega
  go_enter Tryz.func74, Tryz.ntmps74
  go_wp2_with fail
  refine (areAll_any 95 Tryz.call95 #[] (inB 0 1) A n c xs _ ha hn (zH fun x _ w1 _ => (isBit_any x w1).mono fun e w' ⟨h1, h2⟩ => ⟨h1, by subst h2; exact Below.refl _ _⟩)).mono ?_
  rintro e w1 ⟨rfl, hb1⟩
  go_wp2
  go_ret
  exact ⟨by rw [HR.out]; rfl, hb1⟩
 ·have HR : Hid (bitsB n 64 xs = false) := zH (by simp [bitsB, hm])
  have hm' : ¬ (n : Int) ≤ 64 := by omega
  go_enter Tryz.func74, Tryz.ntmps74
  go_wp2
  go_ret
  exact ⟨by rw [HR.out]; rfl, Below.refl _ _⟩
end Go.Proofs.YtnhmfedegfcflaaGreatDoor
