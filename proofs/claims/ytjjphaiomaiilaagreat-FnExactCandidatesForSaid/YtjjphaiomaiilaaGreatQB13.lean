/- Appending a list to a slice of lists of the call's own; calls that return a slice of lists. Lengths up to 2^22. Contracts of equality of lists, of small circuits, of the tables of a circuit's outs. Contracts of truth tables, columns, sums, comparisons of two circuits. The language: parts, inputs and results of lines; what a program is. No program in sight. Texts out of their bytes; slices of texts in memory. No condition. Contracts of the library at this dump, laid by the kit's tool: the numbers of its functions and types; no condition. Lines of programs in memory; names, operations, the search for a line. Texts below 2^21 bytes. -/
import Derived.Test.YtjjphaiomaiilaaGreatQB12
import Derived.Test.YtjjphaiomaiilaaGreatQB04
import Derived.Deep.RegionLaw
import Derived.Test.YtjjphaiomaiilaaGreatQB01
import Derived.Test.YtjjphaiomaiilaaGreatQB06
import Derived.Shelf.Strings.Search2
import Derived.Shelf.Strings.Search3
import Derived.Test.YtjjphaiomaiilaaGreatProg
import Derived.BigQuiet
import Derived.Test.YtjjphaiomaiilaaGreatQB02
namespace Go.Proofs.YtjjphaiomaiilaaGreat
open Go.RowKit
set_option linter.unusedVariables false
set_option linter.unusedSimpArgs false
theorem OwnII.grown {w w' : World} {lo hi n : Nat} {v : Value} {xss : List (List Int)} (h : OwnII w lo hi v n xss) {v1 : Value} (hg : w.grownBy w' v1.ownBlock) (hn : v1.ownBlock = none) : OwnII w' lo hi v n xss :=
  h.below (below_of_grownBy (by rw [← hn]; exact hg)) (Nat.le_refl _)
theorem OwnII.drewN {w : World} {lo hi n : Nat} {v : Value} {xss : List (List Int)} (h : OwnII w lo hi v n xss) (k : Nat) : OwnII (w.drewN k) lo hi v n xss := h.below (below_of_drewN k) (Nat.le_refl _)
theorem OwnII.alloc {w : World} {lo hi n : Nat} {v : Value} {xss : List (List Int)} (h : OwnII w lo hi v n xss) (o : Obj) : OwnII (w.alloc o) lo hi v n xss := h.below ((Below.refl _ _).alloc (Nat.le_refl _) o) (Nat.le_refl _)
theorem OwnII.hi_ {w : World} {lo hi hi' n : Nat} {v : Value} {xss : List (List Int)} (h : OwnII w lo hi v n xss) (hl : hi ≤ hi') : OwnII w lo hi' v n xss := by
  obtain ⟨vals, h1, h2, h3, h4, h5⟩ := h
  refine ⟨vals, h1, fun g hg => Nat.lt_of_lt_of_le (h2 g hg) hl, h3, fun j hj => ?_, h5⟩
  obtain ⟨A', m, c', h6, h7⟩ := h4 j hj
  exact ⟨A', m, c', h6, h7.hi_ hl⟩
theorem OwnII.new0 (w : World) (lo : Nat) (hl : lo ≤ w.heap.size) : OwnII (w.alloc (.cells #[] 30)) lo (w.heap.size + 1) (.slice (some ⟨w.heap.size, 0, none⟩) 0 0) 0 [] := by
  have h := World.ownsRow_lit (base := lo) (e := 30) (size := 1) w #[] 0 hl (by unfold maxLen; omega) (by simp)
  exact ⟨[], by simpa using h, fun g hg => by simp [Value.ownBlock] at hg; omega, rfl, fun j hj => absurd hj (by omega), fun i j u u' _ h => by simp at h⟩
def RetII (w : World) (xss : List (List Int)) (e : Ending) (w' : World) : Prop :=
  ∃ A' c', e = .returned (.slice A' xss.length c') ∧ OwnII w' w.heap.size w'.heap.size (.slice A' xss.length c') xss.length xss ∧ Below w.heap.size w w'
theorem RetII.mk_ {w : World} {xss : List (List Int)} {n : Nat} {A' : Option Addr} {c' : Nat} {e : Ending} {w' : World} (hn : xss.length = n) (he : e = .returned (.slice A' n c')) (ho : OwnII w' w.heap.size w'.heap.size (.slice A' n c') n xss) (hb : Below w.heap.size w w') : RetII w xss e w' := by
  subst hn; exact ⟨A', c', he, ho, hb⟩
theorem RetII.open_ {w : World} {xss : List (List Int)} {n : Nat} {e : Ending} {w' : World} (h : RetII w xss e w') (hn : xss.length = n) : ∃ A' c', e = .returned (.slice A' n c') ∧ OwnII w' w.heap.size w'.heap.size (.slice A' n c') n xss ∧ Below w.heap.size w w' := by
  subst hn; exact h
section
variable (w : World)
end
theorem two_pow_small {X : Nat} (h : X ≤ 10) : 2 ^ X ≤ 1024 := by
  have := Nat.pow_le_pow_right (n := 2) (by omega) h
  exact this
theorem pow_wrap {X N : Nat} (hN : N = 2 ^ X) (h : X ≤ 10) : N ≤ 1024 ∧ wrap64 ((2 : Int) ^ X) = N := by
  have h1 := two_pow_small h
  have h2 : (2 : Int) ^ X = (N : Int) := by rw [hN, Int.natCast_pow]; rfl
  rw [h2]
  exact ⟨by omega, IntWalk.wrap64_in _ (by omega)⟩
def sumI (xs : List Int) : Int := xs.foldl (· + ·) 0
theorem sumI_snoc (xs : List Int) (x : Int) : sumI (xs ++ [x]) = sumI xs + x := by simp [sumI]
theorem iFind_bd (l : List Ln) (nm : Str) : -1 ≤ iFind l nm ∧ (iFind l nm < l.length) := by
  unfold iFind
  split
  · omega
  · exact lfind_bd _ _
theorem wids_take (f : List Ln → List Int → Ln → Int) (l : List Ln) (k : Nat) (hk : k ≤ l.length) : wids f (l.take k) = (wids f l).take k := by
  suffices H : ∀ m (l : List Ln), l.length = k + m → wids f (l.take k) = (wids f l).take k from H (l.length - k) l (by omega)
  intro m
  induction m with
  | zero => intro l hl; rw [List.take_of_length_le (by omega), List.take_of_length_le (by rw [wids_len]; omega)]
  | succ m ih =>
    intro l hl
    obtain ⟨n, x, rfl⟩ : ∃ n x, l = n ++ [x] := ⟨l.dropLast, l.getLast (by intro e; subst e; simp at hl), (List.dropLast_concat_getLast _).symm⟩
    rw [List.length_append, List.length_singleton] at hl
    rw [wids_snoc, List.take_append_of_le_length (by omega), List.take_append_of_le_length (by rw [wids_len]; omega)]
    exact ih n (by omega)
theorem allW_take {l : List Ln} {k : Nat} (hk : k ≤ l.length) (h : allW l) : allW (l.take k) := by
  unfold allW
  rw [wids_take sW l k hk]
  intro z hz
  exact h z (List.mem_of_mem_take hz)
theorem pw_snoc (f : Str → Int) (ws : List Int) (ps : List Str) (p : Str) : pw f ws (ps ++ [p]) = match pw f ws ps with | none => none | some w => if f p < 0 then none else some (w ++ [gi ws (f p).toNat]) := by
  induction ps with
  | nil => simp only [List.nil_append, pw]; split <;> rfl
  | cons a ps ih =>
    simp only [List.cons_append, pw]
    split
    · rfl
    · rw [ih]
      cases pw f ws ps with
      | none => rfl
      | some w => by_cases hp : f p < 0 <;> simp [hp]
theorem pw_none {f : Str → Int} {ws : List Int} {ps : List Str} {j : Nat} (hj : j < ps.length) (h : f ps[j] < 0) : pw f ws ps = none := by
  induction ps generalizing j with
  | nil => simp at hj
  | cons a ps ih =>
    simp only [pw]
    split
    · rfl
    · rename_i ha
      cases j with
      | zero => exact absurd h ha
      | succ j => rw [ih (j := j) (by simpa using hj) (by simpa using h)]; rfl
def insL (l : List Ln) (p : Int) : List Int := (l.filter fun x => decide (x.kind = 1) && decide (x.party = p)).map Ln.width
def outsC (l : List Ln) : Nat := (l.filter fun x => decide (x.kind = 6)).length
theorem insL_snoc (l : List Ln) (x : Ln) (p : Int) : insL (l ++ [x]) p = if x.kind = 1 ∧ x.party = p then insL l p ++ [x.width] else insL l p := by
  by_cases h1 : x.kind = 1 <;> by_cases h2 : x.party = p <;> simp [insL, h1, h2]
theorem outsC_snoc (l : List Ln) (x : Ln) : outsC (l ++ [x]) = if x.kind = 6 then outsC l + 1 else outsC l := by
  by_cases h1 : x.kind = 6 <;> simp [outsC, h1]
def goodP (l : List Ln) : Prop := l.length ≤ 30 ∧ allW l ∧ sumI (insL l 0) ≤ 20 ∧ sumI (insL l 1) ≤ 20 ∧ outsC l ≤ 10
instance (l : List Ln) : Decidable (allW l) := by unfold allW; infer_instance
instance (l : List Ln) : Decidable (goodP l) := by unfold goodP; infer_instance
theorem ite_ne {c : Prop} [Decidable c] {K : Int} (h : (if c then K else 0) ≠ 0) : c ∧ (if c then K else 0) = K := by
  by_cases hc : c
  · exact ⟨hc, if_pos hc⟩
  · rw [if_neg hc] at h; exact absurd rfl h
theorem lineW_in {x : Ln} {w : List Int} (h : lineW x w ≠ 0) (hk : x.kind = 1) : (x.party = 0 ∨ x.party = 1) ∧ lineW x w = x.width ∧ 1 ≤ x.width ∧ x.width ≤ 10 := by
  have e : lineW x w = kindW x w := (ite_ne h).2
  rw [e] at h ⊢
  unfold kindW at h ⊢
  rw [if_pos hk] at h ⊢
  obtain ⟨h2, h3⟩ := ite_ne h
  rw [h3]
  simp [inB] at h2
  exact ⟨by omega, rfl, by omega, by omega⟩
def bs (l : List UInt8) : ByteArray := ⟨l.toArray⟩
theorem bs_size (l : List UInt8) : (bs l).size = l.length := by simp [bs, ByteArray.size]
theorem bs_append (a b : List UInt8) : bs a ++ bs b = bs (a ++ b) := ByteArray.mk_append_mk a b
theorem bs_data (s : ByteArray) : bs s.data.toList = s := by cases s; simp [bs]
theorem bs_list (x : List UInt8) : (bs x).toList = x := by rw [ByteArray.toList_eq]; simp [bs]
theorem bs_is {x y : List UInt8} (h : x = y) : ((bs x).toList == y) = true := by rw [bs_list, h]; simp
theorem bs_not {x y : List UInt8} (h : ¬ x = y) : ((bs x).toList == y) = false := by rw [bs_list]; simp [h]
def sx (l : List (List UInt8)) (j : Nat) : List UInt8 := l.getD j []
def RX (w : World) (A : Option Addr) (n : Nat) (l : List (List UInt8)) : Prop :=
  l.length = n ∧ (0 < n → ∃ b o, A = some ⟨b, o, none⟩ ∧ b < w.heap.size ∧ ∀ j, j < n → w.cell? ⟨b, o + j, none⟩ = some (.string (bs (sx l j))))
theorem RX.len {w : World} {A : Option Addr} {n : Nat} {l : List (List UInt8)} (h : RX w A n l) : l.length = n := h.1
theorem RX.at_ {w : World} {A : Option Addr} {n k : Nat} {l : List (List UInt8)} (h : RX w A n l) (hk : k < n) : ∃ b o, A = some ⟨b, o, none⟩ ∧ b < w.heap.size ∧ w.cell? ⟨b, o + k, none⟩ = some (.string (bs (sx l k))) := by
  obtain ⟨b, o, h1, h2, h3⟩ := h.2 (by omega)
  exact ⟨b, o, h1, h2, h3 k hk⟩
theorem RX.below {w w' : World} {A : Option Addr} {n B : Nat} {l : List (List UInt8)} (h : RX w A n l) (hb : Below B w w') (hB : w.heap.size ≤ B) : RX w' A n l :=
  ⟨h.1, fun hn => by
    obtain ⟨b, o, h1, h2, h3⟩ := h.2 hn
    exact ⟨b, o, h1, Nat.lt_of_lt_of_le h2 hb.size, fun j hj => cell_on hb (h3 j hj) hB⟩⟩
theorem RX.alt {S : Nat → Prop} {w w' : World} {A : Option Addr} {n : Nat} {l : List (List UInt8)} (h : RX w A n l) (k : Alt S w w') (hS : ∀ b o, A = some ⟨b, o, none⟩ → ¬ S b) : RX w' A n l :=
  ⟨h.1, fun hn => by
    obtain ⟨b, o, h1, h2, h3⟩ := h.2 hn
    exact ⟨b, o, h1, Nat.lt_of_lt_of_le h2 k.size, fun j hj => k.cell_ (h3 j hj) (hS b o h1)⟩⟩
theorem RX.none_ (w : World) (A : Option Addr) : RX w A 0 [] := ⟨rfl, fun h => absurd h (by omega)⟩
end Go.Proofs.YtjjphaiomaiilaaGreat
namespace Go.Proofs
open Go.Shelf
def Tryz.lays144_ren : Go.Shelf.Ren := ⟨fun | 144 => 154 | 143 => 155 | 219 => 156 | 217 => 157 | 225 => 158 | 224 => 159 | 267 => 160 | 266 => 161 | 314 => 162 | n => n, fun | 9 => 9 | 4 => 4 | 3 => 3 | 5 => 5 | 46 => 95 | 146 => 141 | 51 => 140 | n => n, fun | 1 => 0 | n => n⟩
theorem Tryz.lays144 : Go.Proofs.Lays.n144 Tryz.prog Tryz.lays144_ren := {
  mixed := by kernel_rfl
  f143 := Tryz.func155.trans (congrArg some (by kernel_rfl))
  f144 := Tryz.func154.trans (congrArg some (by kernel_rfl))
  f217 := Tryz.func157.trans (congrArg some (by kernel_rfl))
  f219 := Tryz.func156.trans (congrArg some (by kernel_rfl))
  f224 := Tryz.func159.trans (congrArg some (by kernel_rfl))
  f225 := Tryz.func158.trans (congrArg some (by kernel_rfl))
  f266 := Tryz.func161.trans (congrArg some (by kernel_rfl))
  f267 := Tryz.func160.trans (congrArg some (by kernel_rfl))
  f314 := Tryz.func162.trans (congrArg some (by kernel_rfl))
  t3 := Tryz.underlying3
  a3 := Tryz.isAgg3
  z3 := Tryz.sizeOf3
  v3 := Tryz.zeroValue3
  t4 := Tryz.underlying4
  a4 := Tryz.isAgg4
  z4 := Tryz.sizeOf4
  v4 := Tryz.zeroValue4
  t5 := Tryz.underlying5
  a5 := Tryz.isAgg5
  z5 := Tryz.sizeOf5
  v5 := Tryz.zeroValue5
  t9 := Tryz.underlying9
  a9 := Tryz.isAgg9
  z9 := Tryz.sizeOf9
  v9 := Tryz.zeroValue9
  t46 := Tryz.underlying95
  a46 := Tryz.isAgg95
  z46 := Tryz.sizeOf95
  v46 := Tryz.zeroValue95
  t51 := Tryz.underlying140
  a51 := Tryz.isAgg140
  z51 := Tryz.sizeOf140
  v51 := Tryz.zeroValue140
  t146 := Tryz.underlying141
  a146 := Tryz.isAgg141
  z146 := Tryz.sizeOf141
  v146 := Tryz.zeroValue141
  g1 := by kernel_rfl }
open Go.RowKit Go.Lib in
theorem Tryz.strings_Contains_one (s : ByteArray) (c : UInt8) (w : World) :
    Calls Tryz.prog 154 #[.string s, .string ⟨#[c]⟩] w fun e w' => e = .returned (.bool (decide (0 ≤ Lib.indexByte s.data.toList c))) ∧ w' = w := Any.strings_Contains_one Tryz.lays144 s c w
end Go.Proofs
namespace Go.Proofs.YtjjphaiomaiilaaGreat
open Go.RowKit
set_option linter.unusedVariables false
set_option linter.unusedSimpArgs false
def lx (l : List Ln) (j : Nat) : Ln := l.getD j ⟨0, [], [], [], 0, 0, 0⟩
theorem lx_lt {l : List Ln} {j : Nat} (h : j < l.length) : lx l j = l[j] := by simp [lx, h]
theorem lx_take {l : List Ln} {j k : Nat} (h : j < k) : lx (l.take k) j = lx l j := by
  unfold lx; rw [List.getD_eq_getElem?_getD, List.getD_eq_getElem?_getD, List.getElem?_take, if_pos h]
theorem take_lx {l : List Ln} {k : Nat} (h : k < l.length) : l.take (k + 1) = l.take k ++ [lx l k] := by
  rw [List.take_succ_eq_append_getElem h, lx_lt h]
abbrev lnV (x : Ln) (P : Option Addr) (q : Nat) : Value := .agg #[.int .i64 x.kind, .string (bs x.name), .string (bs x.op), .slice P x.parts.length q, .int .i64 x.party, .int .i64 x.width, .int .i64 x.value]
structure LnAt (w : World) (b o : Nat) (x : Ln) (P : Option Addr) (q : Nat) : Prop where
  c0 : w.cell? ⟨b, o, none⟩ = some (.int .i64 x.kind)
  c1 : w.cell? ⟨b, o + 1, none⟩ = some (.string (bs x.name))
  c2 : w.cell? ⟨b, o + 2, none⟩ = some (.string (bs x.op))
  c3 : w.cell? ⟨b, o + 3, none⟩ = some (.slice P x.parts.length q)
  c4 : w.cell? ⟨b, o + 4, none⟩ = some (.int .i64 x.party)
  c5 : w.cell? ⟨b, o + 5, none⟩ = some (.int .i64 x.width)
  c6 : w.cell? ⟨b, o + 6, none⟩ = some (.int .i64 x.value)
theorem LnAt.below {w w' : World} {b o B : Nat} {x : Ln} {P : Option Addr} {q : Nat} (h : LnAt w b o x P q) (k : Below B w w') (hb : b < B) : LnAt w' b o x P q :=
  ⟨(k.cell (p := ⟨b, o, none⟩) hb).trans h.c0, (k.cell (p := ⟨b, o + 1, none⟩) hb).trans h.c1, (k.cell (p := ⟨b, o + 2, none⟩) hb).trans h.c2, (k.cell (p := ⟨b, o + 3, none⟩) hb).trans h.c3, (k.cell (p := ⟨b, o + 4, none⟩) hb).trans h.c4, (k.cell (p := ⟨b, o + 5, none⟩) hb).trans h.c5, (k.cell (p := ⟨b, o + 6, none⟩) hb).trans h.c6⟩
theorem LnAt.alt {S : Nat → Prop} {w w' : World} {b o : Nat} {x : Ln} {P : Option Addr} {q : Nat} (h : LnAt w b o x P q) (k : Alt S w w') (hb : ¬ S b) : LnAt w' b o x P q :=
  ⟨k.cell_ h.c0 hb, k.cell_ h.c1 hb, k.cell_ h.c2 hb, k.cell_ h.c3 hb, k.cell_ h.c4 hb, k.cell_ h.c5 hb, k.cell_ h.c6 hb⟩
theorem LnAt.lt {w : World} {b o : Nat} {x : Ln} {P : Option Addr} {q : Nat} (h : LnAt w b o x P q) : b < w.heap.size := World.block_lt_of_cell? w _ h.c0
theorem LnAt.new (w : World) (x : Ln) (P : Option Addr) (q : Nat) (T : TypeId) : LnAt (w.alloc (.cells #[.int .i64 x.kind, .string (bs x.name), .string (bs x.op), .slice P x.parts.length q, .int .i64 x.party, .int .i64 x.width, .int .i64 x.value] T)) w.heap.size 0 x P q :=
  ⟨box_cell _ _ 0 _ rfl, box_cell _ _ 1 _ rfl, box_cell _ _ 2 _ rfl, box_cell _ _ 3 _ rfl, box_cell _ _ 4 _ rfl, box_cell _ _ 5 _ rfl, box_cell _ _ 6 _ rfl⟩
def RLn (w : World) (A : Option Addr) (n : Nat) (l : List Ln) : Prop :=
  l.length = n ∧ (0 < n → ∃ b o, A = some ⟨b, o, none⟩ ∧ b < w.heap.size ∧ ∀ j, j < n → ∃ P q, LnAt w b (o + j * 7) (lx l j) P q ∧ RX w P (lx l j).parts.length (lx l j).parts)
theorem RLn.len {w : World} {A : Option Addr} {n : Nat} {l : List Ln} (h : RLn w A n l) : l.length = n := h.1
theorem RLn.below {w w' : World} {A : Option Addr} {n B : Nat} {l : List Ln} (h : RLn w A n l) (k : Below B w w') (hB : w.heap.size ≤ B) : RLn w' A n l :=
  ⟨h.1, fun hn => by
    obtain ⟨b, o, h1, h2, h3⟩ := h.2 hn
    exact ⟨b, o, h1, Nat.lt_of_lt_of_le h2 k.size, fun j hj => by
      obtain ⟨P, q, h4, h5⟩ := h3 j hj
      exact ⟨P, q, h4.below k (by omega), h5.below k hB⟩⟩⟩
theorem RLn.at_ {w : World} {A : Option Addr} {n k : Nat} {l : List Ln} (h : RLn w A n l) (hk : k < n) : ∃ b o P q, A = some ⟨b, o, none⟩ ∧ b < w.heap.size ∧ LnAt w b (o + k * 7) (lx l k) P q ∧ RX w P (lx l k).parts.length (lx l k).parts := by
  obtain ⟨b, o, h1, h2, h3⟩ := h.2 (by omega)
  obtain ⟨P, q, h4, h5⟩ := h3 k hk
  exact ⟨b, o, P, q, h1, h2, h4, h5⟩
theorem RLn.take {w : World} {A : Option Addr} {n k : Nat} {l : List Ln} (h : RLn w A n l) (hk : k ≤ n) : RLn w A k (l.take k) :=
  ⟨by have := h.1; simp; omega, fun hn => by
    obtain ⟨b, o, h1, h2, h3⟩ := h.2 (by omega)
    exact ⟨b, o, h1, h2, fun j hj => by rw [lx_take hj]; exact h3 j (by omega)⟩⟩
def shortS (s : Str) : Prop := s.length ≤ 2097152
def shortL (x : Ln) : Prop := shortS x.name ∧ shortS x.op ∧ x.parts.length ≤ 2097152 ∧ ∀ s ∈ x.parts, shortS s
theorem bs_is2 {x y : Str} (h : x = y) : ((bs x).toList == (bs y).toList) = true := by rw [h]; simp
theorem bs_not2 {x y : Str} (h : ¬ x = y) : ((bs x).toList == (bs y).toList) = false := by rw [bs_list, bs_list]; simp [h]
set_option maxHeartbeats 800000 in
theorem laName_any (s : Str) (w : World) (hs : shortS s) :
    Calls Tryz.prog 138 #[.string (bs s)] w fun e w' => e = .returned (.bool (nmB s)) ∧ w = w' := by
  have hs' : s.length ≤ 2097152 := hs
  have hz : (bs s).size = s.length := bs_size s
  have hby : ∀ j (h : j < s.length), (bs s)[j]'(by rw [hz]; exact h) = s[j] := fun j h => by
    show (s.toArray)[j] = s[j]
    simp
  go_enter Tryz.func138, Tryz.ntmps138
  go_wp2
  go_loopw [3] (fun i wr => ∃ j : Nat, j ≤ s.length ∧ i = .int .i64 j ∧ Hid (∀ q (h : q < s.length), q < j → nmC s[q] = true) ∧ w = wr) (fun i _ => s.length - (intOf i).toNat)
  case atStart => exact ⟨0, Nat.zero_le _, rfl, Lib.hid fun q _ h => absurd h (by omega), rfl⟩
  case round =>
    obtain ⟨j, hj, rfl, hq, rfl⟩ := hrel
    by_cases hlt : j < s.length
    · have hbj := hby j hlt
      obtain ⟨x, hx⟩ : ∃ x, Hid (s[j] = x) := ⟨_, Lib.hid rfl⟩
      rw [hx.out] at hbj
      have hxl := x.toNat_lt
      by_cases h1 : x.toNat < 97
      · have t1 : (x.toNat : Int) < 97 := by omega
        have HR : Hid (nmB s = false) := Lib.hid (nmB_at (j := j) hlt (by rw [hx.out]; unfold nmC; simp; omega))
        clear hby hq
        go_wp2
        go_ret
        exact ⟨by rw [HR.out]; rfl, rfl⟩
      · by_cases h2 : 122 < x.toNat
        · have t1 : ¬ (x.toNat : Int) < 97 := by omega
          have t2 : (122 : Int) < (x.toNat : Int) := by omega
          have HR : Hid (nmB s = false) := Lib.hid (nmB_at (j := j) hlt (by rw [hx.out]; unfold nmC; simp; omega))
          clear hby hq
          go_wp2
          go_ret
          exact ⟨by rw [HR.out]; rfl, rfl⟩
        · have t1 : ¬ (x.toNat : Int) < 97 := by omega
          have t2 : ¬ (122 : Int) < (x.toNat : Int) := by omega
          have HX : Hid (nmC s[j] = true) := Lib.hid (by rw [hx.out]; unfold nmC; simp; omega)
          clear hby
          go_wp2
          go_roundw
          case rel => exact ⟨j + 1, by omega, by go_num, Lib.hid fun q h hq' => by
            rcases Nat.lt_or_ge q j with h3 | h3
            · exact hq.out q h h3
            · obtain rfl : q = j := by omega
              exact HX.out, by trivial⟩
          case measure => simp [intOf]; omega
    · obtain rfl : j = s.length := by omega
      have HR : Hid (nmB s = inB 1 6 (s.length : Int)) := Lib.hid (nmB_all fun q h => hq.out q h h)
      cases hi : inB 1 6 (s.length : Int) with
      | false =>
        clear hby hq
        go_wp2_with fail
        refine (l1In_any (s.length : Int) 1 6 false hi _).mono ?_
        rintro e w1 ⟨rfl, rfl⟩
        go_wp2
        go_ret
        exact ⟨by rw [HR.out, hi]; rfl, rfl⟩
      | true =>
        clear hby hq
        go_wp2_with fail
        refine (l1In_any (s.length : Int) 1 6 true hi _).mono ?_
        rintro e w1 ⟨rfl, rfl⟩
        go_wp2
        go_ret
        exact ⟨by rw [HR.out, hi]; rfl, rfl⟩
set_option maxHeartbeats 800000 in
theorem isName_any (s : Str) (w : World) (hs : shortS s) :
    Calls Tryz.prog 143 #[.string (bs s)] w fun e w' => e = .returned (.bool (nmB s)) ∧ w = w' := by
  have hs' : s.length ≤ 2097152 := hs
  have hz : (bs s).size = s.length := bs_size s
  have hby : ∀ j (h : j < s.length), (bs s)[j]'(by rw [hz]; exact h) = s[j] := fun j h => by
    show (s.toArray)[j] = s[j]
    simp
  go_enter Tryz.func143, Tryz.ntmps143
  go_wp2
  go_loopw [6] (fun i wr => ∃ j : Nat, j ≤ s.length ∧ i = .int .i64 j ∧ Hid (∀ q (h : q < s.length), q < j → nmC s[q] = true) ∧ w = wr) (fun i _ => s.length - (intOf i).toNat)
  case atStart => exact ⟨0, Nat.zero_le _, rfl, Lib.hid fun q _ h => absurd h (by omega), rfl⟩
  case round =>
    obtain ⟨j, hj, rfl, hq, rfl⟩ := hrel
    by_cases hlt : j < s.length
    · have hbj := hby j hlt
      obtain ⟨x, hx⟩ : ∃ x, Hid (s[j] = x) := ⟨_, Lib.hid rfl⟩
      rw [hx.out] at hbj
      have hxl := x.toNat_lt
      by_cases h1 : x.toNat < 97
      · have t1 : (x.toNat : Int) < 97 := by omega
        have HR : Hid (nmB s = false) := Lib.hid (nmB_at (j := j) hlt (by rw [hx.out]; unfold nmC; simp; omega))
        clear hby hq
        go_wp2
        go_ret
        exact ⟨by rw [HR.out]; rfl, rfl⟩
      · by_cases h2 : 122 < x.toNat
        · have t1 : ¬ (x.toNat : Int) < 97 := by omega
          have t2 : (122 : Int) < (x.toNat : Int) := by omega
          have HR : Hid (nmB s = false) := Lib.hid (nmB_at (j := j) hlt (by rw [hx.out]; unfold nmC; simp; omega))
          clear hby hq
          go_wp2
          go_ret
          exact ⟨by rw [HR.out]; rfl, rfl⟩
        · have t1 : ¬ (x.toNat : Int) < 97 := by omega
          have t2 : ¬ (122 : Int) < (x.toNat : Int) := by omega
          have HX : Hid (nmC s[j] = true) := Lib.hid (by rw [hx.out]; unfold nmC; simp; omega)
          clear hby
          go_wp2
          go_roundw
          case rel => exact ⟨j + 1, by omega, by go_num, Lib.hid fun q h hq' => by
            rcases Nat.lt_or_ge q j with h3 | h3
            · exact hq.out q h h3
            · obtain rfl : q = j := by omega
              exact HX.out, by trivial⟩
          case measure => simp [intOf]; omega
    · obtain rfl : j = s.length := by omega
      have HR : Hid (nmB s = inB 1 6 (s.length : Int)) := Lib.hid (nmB_all fun q h => hq.out q h h)
      cases hi : inB 1 6 (s.length : Int) with
      | false =>
        clear hby hq
        go_wp2_with fail
        refine (within_any (s.length : Int) 1 6 false hi _).mono ?_
        rintro e w1 ⟨rfl, rfl⟩
        go_wp2
        go_ret
        exact ⟨by rw [HR.out, hi]; rfl, rfl⟩
      | true =>
        clear hby hq
        go_wp2_with fail
        refine (within_any (s.length : Int) 1 6 true hi _).mono ?_
        rintro e w1 ⟨rfl, rfl⟩
        go_wp2
        go_ret
        exact ⟨by rw [HR.out, hi]; rfl, rfl⟩
theorem no_snocL {p : Ln → Bool} {l : List Ln} {k : Nat} (h : ∀ j, j < k → p (lx l j) = false) (hk : p (lx l k) = false) : ∀ j, j < k + 1 → p (lx l j) = false := fun j hj => by
  rcases Nat.lt_or_ge j k with h1 | h1
  · exact h j h1
  · obtain rfl : j = k := by omega
    exact hk
theorem lfind_found {p : Ln → Bool} {l : List Ln} {k : Nat} (hk : k < l.length) (hp : p (lx l k) = true) (hn : ∀ j, j < k → p (lx l j) = false) : lfind p l = k :=
  lfind_at hk (fun q h hq => by rw [← lx_lt h]; exact hn q hq) (by rw [← lx_lt hk]; exact hp)
theorem lfind_no {p : Ln → Bool} {l : List Ln} (hn : ∀ j, j < l.length → p (lx l j) = false) : lfind p l = -1 := lfind_none fun q h => by rw [← lx_lt h]; exact hn q h
set_option maxHeartbeats 800000 in
theorem IndexFuncL_any (f : FuncId) (hcf : ∀ args w, Sem.run Tryz.prog (callFunc f args) w = .ok (.enter f args) w) (cap : Array Value) (p : Ln → Bool) (A : Option Addr) (n c : Nat) (l : List Ln) (w : World) (ha : RLn w A n l) (hn : n ≤ 2097152)
    (hf : Hid (∀ x P q w1, Below w.heap.size w w1 → Calls Tryz.prog f (#[lnV x P q] ++ cap) w1 fun e w' => e = .returned (.bool (p x)) ∧ Below w1.heap.size w1 w')) :
    Calls Tryz.prog 102 #[.slice A n c, .func (.func f) #[] cap] w fun e w' => e = .returned (.int .i64 (lfind p l)) ∧ Below w.heap.size w w' := by
  have hl := ha.len
  go_enter Tryz.func102, Tryz.ntmps102
  go_wp2
  go_loopw [8] (fun v wr => ∃ k : Nat, k ≤ n ∧ v = .int .i64 k ∧ Hid (∀ j, j < k → p (lx l j) = false) ∧ Below w.heap.size w wr) (fun v _ => n - (intOf v).toNat)
  case atStart => exact ⟨0, Nat.zero_le _, rfl, Lib.hid (fun j hj => by omega), Below.refl _ _⟩
  case round =>
    obtain ⟨k, hk, rfl, hno, hb⟩ := hrel
    by_cases hlt : k < n
    · obtain ⟨b, o, P, q, rfl, hbB, ⟨c0, c1, c2, c3, c4, c5, c6⟩, hx⟩ := (ha.below hb (Nat.le_refl _)).at_ hlt
      clear ha hx
      cases hd : p (lx l k) with
      | true =>
        have HQ := Lib.hid hd; clear hd
        go_wp2_with fail
        refine (hf.out (lx l k) P q _ hb).mono ?_
        rintro e w1 ⟨rfl, hb1⟩
        rw [HQ.out]
        go_wp2
        go_ret
        exact ⟨by rw [lfind_found (by omega) HQ.out hno.out]; rfl, hb.trans (hb1.mono hb.size)⟩
      | false =>
        have HQ := Lib.hid hd; clear hd
        go_wp2_with fail
        refine (hf.out (lx l k) P q _ hb).mono ?_
        rintro e w1 ⟨rfl, hb1⟩
        rw [HQ.out]
        go_wp2
        go_roundw
        case rel => exact ⟨k + 1, by omega, by go_num, Lib.hid (no_snocL hno.out HQ.out), hb.trans (hb1.mono hb.size)⟩
        case measure => simp [intOf]; omega
    · obtain rfl : n = k := Nat.le_antisymm (Nat.le_of_not_lt hlt) hk
      have HR : Hid (lfind p l = -1) := Lib.hid (lfind_no (fun j hj => hno.out j (by omega)))
      go_wp2
      go_ret
      exact ⟨by rw [HR.out]; rfl, hb⟩
theorem lineOf1_any (x : Ln) (P : Option Addr) (q b : Nat) (nm : Str) (w : World) (hc : w.cell? ⟨b, 0, none⟩ = some (.string (bs nm))) :
    Calls Tryz.prog 103 #[lnV x P q, .pointer (some ⟨b, 0, none⟩)] w fun e w' => e = .returned (.bool (iP nm x)) ∧ Below w.heap.size w w' := by
  have hb := World.block_lt_of_cell? w _ hc
  by_cases h : x.name = nm
  · have HR : Hid (iP nm x = true) := Lib.hid (by simp [iP, h])
    have t := bs_is2 h
    clear h
    go_enter Tryz.func103, Tryz.ntmps103
    go_wp2
    go_ret
    exact ⟨by rw [HR.out]; rfl, (Below.refl _ _).alloc (Nat.le_refl _) _⟩
  · have HR : Hid (iP nm x = false) := Lib.hid (by simp [iP, h])
    have t := bs_not2 h
    clear h
    go_enter Tryz.func103, Tryz.ntmps103
    go_wp2
    go_ret
    exact ⟨by rw [HR.out]; rfl, (Below.refl _ _).alloc (Nat.le_refl _) _⟩
theorem lineOf_any (A : Option Addr) (n c : Nat) (l : List Ln) (nm : Str) (w : World) (ha : RLn w A n l) (hn : n ≤ 2097152) :
    Calls Tryz.prog 53 #[.slice A n c, .string (bs nm)] w fun e w' => e = .returned (.int .i64 (iFind l nm)) ∧ Below w.heap.size w w' := by
  have hB : Below w.heap.size w (w.alloc (.cells #[.string (bs nm)] 9)) := (Below.refl _ _).alloc (Nat.le_refl _) _
  have hc : (w.alloc (.cells #[.string (bs nm)] 9)).cell? ⟨w.heap.size, 0, none⟩ = some (.string (bs nm)) := box_cell _ _ 0 _ rfl
  by_cases h : nm = []
  · have HR : Hid (iFind l nm = -1) := Lib.hid (by simp [iFind, h])
    have t := bs_is h
    clear h ha
    go_enter Tryz.func53, Tryz.ntmps53
    go_wp2
    go_ret
    exact ⟨by rw [HR.out]; rfl, hB⟩
  · have HR : Hid (iFind l nm = lfind (iP nm) l) := Lib.hid (by simp [iFind, h])
    have t := bs_not h
    clear h
    go_enter Tryz.func53, Tryz.ntmps53
    go_wp2_with fail
    refine (IndexFuncL_any 103 Tryz.call103 #[.pointer (some ⟨w.heap.size, 0, none⟩)] (iP nm) A n c l _ (ha.below hB (Nat.le_refl _)) hn (Lib.hid fun x P q w1 hb1 => lineOf1_any x P q w.heap.size nm w1 ((hb1.cell (p := ⟨w.heap.size, 0, none⟩) (by simp)).trans hc))).mono ?_
    rintro e w1 ⟨rfl, hb1⟩
    go_wp2
    go_ret
    exact ⟨by rw [HR.out]; rfl, hB.trans (hb1.mono hB.size)⟩
set_option maxHeartbeats 800000 in
theorem laFind_any (A : Option Addr) (n c : Nat) (l : List Ln) (nm : Str) (w : World) (ha : RLn w A n l) (hn : n ≤ 2097152) :
    Calls Tryz.prog 52 #[.slice A n c, .string (bs nm)] w fun e w' => e = .returned (.int .i64 (sFind l nm)) ∧ Below w.heap.size w w' := by
  have hl := ha.len
  go_enter Tryz.func52, Tryz.ntmps52
  go_wp2
  go_loopw [9] (fun v wr => ∃ k : Nat, k ≤ n ∧ v = .int .i64 k ∧ Hid (∀ j, j < k → sP nm (lx l j) = false) ∧ Below w.heap.size w wr) (fun v _ => n - (intOf v).toNat)
  case atStart => exact ⟨0, Nat.zero_le _, rfl, Lib.hid (fun j hj => by omega), Below.refl _ _⟩
  case round =>
    obtain ⟨k, hk, rfl, hno, hb⟩ := hrel
    by_cases hlt : k < n
    · obtain ⟨b, o, P, q, rfl, hbB, ⟨c0, c1, c2, c3, c4, c5, c6⟩, hx⟩ := (ha.below hb (Nat.le_refl _)).at_ hlt
      clear ha hx
      by_cases h6 : (lx l k).kind = 6
      · have HQ : Hid (sP nm (lx l k) = false) := Lib.hid (by simp [sP, h6])
        rw [h6] at c0
        clear h6
        go_wp2
        go_roundw
        case rel => exact ⟨k + 1, by omega, by go_num, Lib.hid (no_snocL hno.out HQ.out), hb.alloc (Nat.le_trans hb.size (Nat.le_refl _)) _⟩
        case measure => simp [intOf]; omega
      · have t6 : ((lx l k).kind == 6) = false := by simp [h6]
        have t6' : ((lx l k).kind != 6) = true := by simp [h6]
        by_cases h : (lx l k).name = nm
        · have HQ : Hid (sP nm (lx l k) = true) := Lib.hid (by simp [sP, h6, h])
          have t := bs_is2 h
          clear h h6
          go_wp2
          go_ret
          exact ⟨by unfold sFind; rw [lfind_found (by omega) HQ.out hno.out]; rfl, hb.alloc (Nat.le_trans hb.size (Nat.le_refl _)) _⟩
        · have HQ : Hid (sP nm (lx l k) = false) := Lib.hid (by simp [sP, h])
          have t := bs_not2 h
          clear h h6
          go_wp2
          go_roundw
          case rel => exact ⟨k + 1, by omega, by go_num, Lib.hid (no_snocL hno.out HQ.out), hb.alloc (Nat.le_trans hb.size (Nat.le_refl _)) _⟩
          case measure => simp [intOf]; omega
    · obtain rfl : n = k := Nat.le_antisymm (Nat.le_of_not_lt hlt) hk
      have HR : Hid (sFind l nm = -1) := Lib.hid (lfind_no (fun j hj => hno.out j (by omega)))
      go_wp2
      go_ret
      exact ⟨by rw [HR.out]; rfl, hb⟩
end Go.Proofs.YtjjphaiomaiilaaGreat
