/- Slices of strings in memory; contracts of the library's SplitN, Index at strings and Atoi as the readers use them. Texts below 2^21 bytes. -/
import Derived.Test.YtgpfiefhhlejfaaDoorQPrs
import Derived.Test.YtgpfiefhhlejfaaDoorQShelf2
import Derived.Lib.SlicesS
namespace Go.Proofs.YtgpfiefhhlejfaaDoor
open Go.RowKit
set_option linter.unusedVariables false
set_option linter.unusedSimpArgs false

/-- The text at place j. -/
def sx (l : List (List UInt8)) (j : Nat) : List UInt8 := l.getD j []
/-- A slice of strings that reads as these texts. -/
def RX (w : World) (A : Option Addr) (n : Nat) (l : List (List UInt8)) : Prop :=
  l.length = n ∧ (0 < n → ∃ b o, A = some ⟨b, o, none⟩ ∧ b < w.heap.size ∧ ∀ j, j < n → w.cell? ⟨b, o + j, none⟩ = some (.string (bs (sx l j))))
theorem RX.len {w : World} {A : Option Addr} {n : Nat} {l : List (List UInt8)} (h : RX w A n l) : l.length = n := h.1
theorem RX.at_ {w : World} {A : Option Addr} {n k : Nat} {l : List (List UInt8)} (h : RX w A n l) (hk : k < n) : ∃ b o, A = some ⟨b, o, none⟩ ∧ b < w.heap.size ∧ w.cell? ⟨b, o + k, none⟩ = some (.string (bs (sx l k))) := by
  obtain ⟨b, o, h1, h2, h3⟩ := h.2 (by omega)
  exact ⟨b, o, h1, h2, h3 k hk⟩
theorem RX.below {w w' : World} {A : Option Addr} {n B : Nat} {l : List (List UInt8)} (h : RX w A n l) (hb : Below B w w') (hB : w.heap.size ≤ B) : RX w' A n l :=
  ⟨h.1, fun hn => by
    obtain ⟨b, o, h1, h2, h3⟩ := h.2 hn
    exact ⟨b, o, h1, Nat.lt_of_lt_of_le h2 hb.size, fun j hj => cell_on hb (h3 j hj) hB⟩⟩
theorem RX.alt {S : Nat → Prop} {w w' : World} {A : Option Addr} {n : Nat} {l : List (List UInt8)} (h : RX w A n l) (k : Alt S w w') (hS : ∀ b o, A = some ⟨b, o, none⟩ → ¬ S b) : RX w' A n l :=
  ⟨h.1, fun hn => by
    obtain ⟨b, o, h1, h2, h3⟩ := h.2 hn
    exact ⟨b, o, h1, Nat.lt_of_lt_of_le h2 k.size, fun j hj => k.cell_ (h3 j hj) (hS b o h1)⟩⟩
theorem RX.none_ (w : World) (A : Option Addr) : RX w A 0 [] := ⟨rfl, fun h => absurd h (by omega)⟩
/-- The texts behind the first. -/
theorem RX.tail_ {w : World} {b o n : Nat} {l : List (List UInt8)} (h : RX w (some ⟨b, o, none⟩) (n + 1) l) : RX w (some ⟨b, o + 1, none⟩) n l.tail := by
  refine ⟨by have := h.1; simp; omega, fun hn => ?_⟩
  obtain ⟨b', o', h1, h2, h3⟩ := h.2 (by omega)
  simp only [Option.some.injEq, Addr.mk.injEq, and_true] at h1
  obtain ⟨rfl, rfl⟩ := h1
  refine ⟨_, _, rfl, h2, fun j hj => ?_⟩
  have := h3 (j + 1) (by omega)
  rw [Nat.add_assoc, Nat.add_comm 1 j, this]
  simp [sx, List.getD, List.getElem?_tail]
theorem pcs_len (n : Nat) (c : UInt8) (l : List UInt8) (hn : 1 ≤ n) : 1 ≤ (pcs n c l).length ∧ (pcs n c l).length ≤ n ∧ (pcs n c l).length ≤ l.length + 1 := by
  have h : ∀ (k : Nat) (s : List UInt8), 1 ≤ (Lib.splitK [c] 0 k s).length ∧ (Lib.splitK [c] 0 k s).length ≤ k + 1 := by
    intro k
    induction k with
    | zero => intro s; simp [Lib.splitK]
    | succ k ih =>
      intro s
      simp only [Lib.splitK]
      split
      · simp
      · have := ih (s.drop ((Lib.index s [c]).toNat + [c].length))
        simp only [List.length_cons] at this ⊢; omega
  have := h (min n (l.length + 1) - 1) l
  unfold pcs; omega
theorem splitK_small (c : UInt8) : ∀ (k : Nat) (s x : List UInt8), x ∈ Lib.splitK [c] 0 k s → x.length ≤ s.length := by
  intro k
  induction k with
  | zero => intro s x hx; simp [Lib.splitK] at hx; subst hx; omega
  | succ k ih =>
    intro s x hx
    simp only [Lib.splitK] at hx
    split at hx
    · simp at hx; subst hx; omega
    · rcases List.mem_cons.1 hx with rfl | h
      · simp; omega
      · have := ih _ _ h
        simp only [List.length_drop] at this; omega
theorem pcs_small {n : Nat} {c : UInt8} {l x : List UInt8} (hx : x ∈ pcs n c l) : x.length ≤ l.length := splitK_small c _ _ _ hx
theorem sx_mem {l : List (List UInt8)} {j : Nat} (h : j < l.length) : sx l j ∈ l := by simp [sx, List.getD, List.getElem?_eq_getElem h]

/-- The library's bound for its quick search lies as a number. -/
def ML (w : World) : Prop := ∃ m : Int, w.cell? ⟨2, 0, none⟩ = some (.int .i64 m)
theorem ML.below {B : Nat} {w w' : World} (h : ML w) (hb : Below B w w') (hB : w.heap.size ≤ B) : ML w' := by
  obtain ⟨m, h⟩ := h; exact ⟨m, cell_on hb h hB⟩
theorem ML.alt {S : Nat → Prop} {w w' : World} (h : ML w) (k : Alt S w w') (hS : ¬ S 2) : ML w' := by
  obtain ⟨m, h⟩ := h; exact ⟨m, k.cell_ h hS⟩
/-- A call returns a new slice of these texts. -/
def RetX (w : World) (l : List (List UInt8)) (e : Ending) (w' : World) : Prop :=
  ∃ b c, e = .returned (.slice (some ⟨b, 0, none⟩) l.length c) ∧ l.length ≤ c ∧ w.heap.size ≤ b ∧ RX w' (some ⟨b, 0, none⟩) l.length l ∧ Below w.heap.size w w'
theorem splitB_list (c : UInt8) (k : Nat) (s : List UInt8) : Lib.splitB ⟨#[c]⟩ 0 k (bs s) = (Lib.splitK [c] 0 k s).map bs := by
  have h := Lib.splitB_data ⟨#[c]⟩ 0 k (bs s)
  have e : (bs s).data.toList = s := by simp [bs]
  have e2 : (ByteArray.mk #[c]).data.toList = [c] := rfl
  rw [e, e2] at h
  rw [← h, List.map_map]
  exact (List.map_congr_left fun x _ => (bs_data x).symm).symm ▸ (List.map_id _).symm
theorem SplitN_any (s : List UInt8) (c : UInt8) (n : Nat) (w : World) (hs : s.length ≤ 2097152) (hn : 1 ≤ n) (hn2 : n ≤ 1000) (hm : ML w) :
    Calls Tryd.prog 40 #[.string (bs s), .string ⟨#[c]⟩, .int .i64 n] w (RetX w (pcs n c s)) := by
  obtain ⟨m, hm⟩ := hm
  have hz : (bs s).size = s.length := bs_size s
  refine (Any.strings_SplitN Tryd.lays147 Tryd.laysM147.i9 (bs s) ⟨#[c]⟩ n m w (by omega) hm (by show 1 ≤ 1; omega) hn (by omega)).mono fun e w' ⟨he, hw⟩ => ?_
  rw [hz, splitB_list] at he hw
  have hl := pcs_len n c s hn
  have hpl : (Lib.splitK [c] 0 (min n (s.length + 1) - 1) s).length = (pcs n c s).length := rfl
  rw [List.length_map] at he
  refine ⟨w.heap.size, _, he, by omega, Nat.le_refl _, ⟨rfl, fun hn0 => ⟨_, 0, rfl, by rw [hw, World.size_alloc]; omega, fun j hj => ?_⟩⟩, by rw [hw]; exact (Below.refl _ _).alloc (Nat.le_refl _) _⟩
  rw [hw, Nat.zero_add]
  refine box_cell _ _ _ _ ?_
  unfold Lib.cellsOf
  rw [List.getElem?_toArray, List.getElem?_append_left (by simpa [hpl] using hj)]
  simp only [List.map_map, List.getElem?_map]
  have hj' : j < (Lib.splitK [c] 0 (min n (s.length + 1) - 1) s).length := hj
  rw [List.getElem?_eq_getElem hj']
  show some _ = some (Value.string (bs (sx (Lib.splitK [c] 0 (min n (s.length + 1) - 1) s) j)))
  simp [sx, List.getD, List.getElem?_eq_getElem hj']

theorem idx_kind (x : List UInt8) : Lib.idxOfS [bs (gwL 0), bs (gwL 1), bs (gwL 2), bs (gwL 3)] (bs x) = kindW x := by
  have h : ∀ y : List UInt8, (bs y = bs x) ↔ (x = y) := fun y => by
    constructor
    · intro h
      have := congrArg (fun z : ByteArray => z.data.toList) h
      simpa [bs] using this.symm
    · intro h; rw [h]
  simp only [Lib.idxOfS, Lib.idxFromS, kindW, h]
  by_cases h0 : x = gwL 0
  · simp [h0]
  · by_cases h1 : x = gwL 1
    · simp [h1, show ¬ gwL 1 = gwL 0 by decide]
    · by_cases h2 : x = gwL 2
      · simp [h2, show ¬ gwL 2 = gwL 0 by decide, show ¬ gwL 2 = gwL 1 by decide]
      · by_cases h3 : x = gwL 3
        · simp [h3, show ¬ gwL 3 = gwL 0 by decide, show ¬ gwL 3 = gwL 1 by decide, show ¬ gwL 3 = gwL 2 by decide]
        · simp [h0, h1, h2, h3]
theorem Index_any (x : List UInt8) (w : World) (hg : GWs w) :
    Calls Tryd.prog 42 #[.slice (some ⟨1, 0, none⟩) 4 4, .string (bs x)] w fun e w' => e = .returned (.int .i64 (kindW x)) ∧ w' = w := by
  have h := Any.slices_Index_string Tryd.lays109 1 0 4 4 [bs (gwL 0), bs (gwL 1), bs (gwL 2), bs (gwL 3)] (bs x) w (by simp) (by omega) (fun j hj => by
    have h : j = 0 ∨ j = 1 ∨ j = 2 ∨ j = 3 := by simp at hj; omega
    rcases h with rfl | rfl | rfl | rfl
    · exact hg.w0
    · exact hg.w1
    · exact hg.w2
    · exact hg.w3)
  rw [List.take_of_length_le (by simp), idx_kind] at h
  exact h

/-- The library's two errors of numbers lie as error values. -/
structure EV (w : World) : Prop where
  syn : ∃ tp p, w.var? Tryd.prog "strconv.ErrSyntax" = some #[.iface tp p]
  rng : ∃ tp p, w.var? Tryd.prog "strconv.ErrRange" = some #[.iface tp p]
  ls : 3 < w.heap.size
  lr : 4 < w.heap.size
theorem syn_global : Tryd.prog.globalNamed "strconv.ErrSyntax" = some 3 := by kernel_rfl
theorem rng_global : Tryd.prog.globalNamed "strconv.ErrRange" = some 4 := by kernel_rfl
theorem EV.below {B : Nat} {w w' : World} (h : EV w) (hb : Below B w w') (hB : w.heap.size ≤ B) : EV w' := by
  obtain ⟨⟨t1, p1, h1⟩, ⟨t2, p2, h2⟩, h3, h4⟩ := h
  exact ⟨⟨t1, p1, var_below hb syn_global (Nat.lt_of_lt_of_le h3 hB) h1⟩, ⟨t2, p2, var_below hb rng_global (Nat.lt_of_lt_of_le h4 hB) h2⟩, Nat.lt_of_lt_of_le h3 hb.size, Nat.lt_of_lt_of_le h4 hb.size⟩
/-- A call returns a number and an error. -/
def RetN (w : World) (n : Int) (e : Ending) (w' : World) : Prop := ∃ er, e = .returned (.tuple #[.int .i64 n, er]) ∧ Below w.heap.size w w'
theorem Atoi_any (s : List UInt8) (w : World) (hs : s.length ≤ 2097152) (he : EV w) : Calls Tryd.prog 76 #[.string (bs s)] w (RetN w (atoiV s)) := by
  have hz : (bs s).size = s.length := bs_size s
  have hd : (bs s).data.toList = s := by simp [bs]
  rcases h : Lib.atoiAll s with v | _ | _
  · have e1 : atoiV s = v := by simp [atoiV, h]
    rw [e1]
    refine (Any.strconv_Atoi_ok Tryd.laysC172 (bs s) (by omega) v (by rw [hd]; exact h) w).mono fun e w' ⟨h1, h2⟩ => ⟨_, h1, ?_⟩
    rcases h2 with rfl | ⟨t, rfl⟩
    · exact Below.refl _ _
    · exact Lib.bytesWorld_below _ _ _
  · have e1 : atoiV s = 0 := by simp [atoiV, h]
    rw [e1]
    obtain ⟨tp, p, hv⟩ := he.syn
    exact (Any.strconv_Atoi_syntax_var Tryd.laysC172 (bs s) (by omega) (by rw [hd]; exact h) tp p w hv).mono fun e w' ⟨N, h1, _, _, h2⟩ => ⟨_, h1, h2⟩
  · have e1 : atoiV s = Lib.atoiSat s := by simp [atoiV, h]
    rw [e1]
    obtain ⟨tp, p, hv⟩ := he.rng
    exact (Any.strconv_Atoi_range_var Tryd.laysC172 (bs s) (by omega) (by rw [hd]; exact h) tp p w hv).mono fun e w' ⟨N, h1, _, _, h2⟩ => ⟨_, by rw [hd] at h1; exact h1, h2⟩

theorem numbersIn_any (A : Option Addr) (n c : Nat) (l : List (List UInt8)) (w : World) (hr : RX w A n l) (hz : ∀ x ∈ l, x.length ≤ 2097152) (hn : n ≤ 1000) (he : EV w) :
    Calls Tryd.prog 41 #[.slice A n c] w (RetI w (l.map atoiV)) := by
  have hl := hr.len
  have hb0 : Below w.heap.size w (w.alloc (.cells #[] 3)) := (Below.refl _ _).alloc (Nat.le_refl _) _
  go_enter Tryd.func41, Tryd.ntmps41
  go_wp2
  go_loopw [3, 11] (fun v b wr => ∃ (i : Nat) (A' : Option Addr) (c' : Nat), i ≤ n ∧ b = .int .i64 i ∧ v = .slice A' i c' ∧ Own wr w.heap.size wr.heap.size (.slice A' i c') i ((l.take i).map atoiV) ∧ Below w.heap.size w wr) (fun _ b _ => n - (intOf b).toNat)
  case atStart => exact ⟨0, _, _, Nat.zero_le _, rfl, rfl, by simpa using Own_new0 w w.heap.size (Nat.le_refl _), hb0⟩
  case round =>
    clear hb0
    obtain ⟨i, A', c', hi, rfl, rfl, hown, hbw⟩ := hrel
    by_cases hlt : i < n
    · obtain ⟨b, o, rfl, hbB, c1⟩ := (hr.below hbw (Nat.le_refl _)).at_ hlt
      have hsn : Hid ((l.take (i + 1)).map atoiV = (l.take i).map atoiV ++ [atoiV (sx l i)]) := Lib.hid (by
        rw [List.take_succ_eq_append_getElem (show i < l.length by omega), List.map_append]
        show _ = _ ++ [atoiV (sx l i)]
        rw [show sx l i = l[i] by simp [sx, List.getD, List.getElem?_eq_getElem (show i < l.length by omega)]]
        rfl)
      have hzs := hz _ (sx_mem (l := l) (j := i) (by omega))
      go_wp2_with fail
      refine (Atoi_any (sx l i) _ hzs (he.below hbw (Nat.le_refl _))).mono ?_
      rintro e w2 ⟨er, rfl, hb2⟩
      have hown2 := (hown.below hb2 (.inl (Nat.le_refl _))).now
      have hbw2 := hbw.trans (hb2.mono hbw.size)
      have hz2 := hbw2.size
      clear hown hbw hb2 c1
      generalize atoiV (sx l i) = z at *
      have hownA := hown2.alloc (.cells #[.int .i64 z] 3)
      have hbA := hbw2.alloc hz2 (.cells #[.int .i64 z] 3)
      go_wp2_with (at_builtin; refine wpList_app _ rfl _ _ rfl rfl hownA rfl (RI_one _ _ _ _ (by simp)) (by omega) (by first | omega | (simp; done) | (simp; omega)) ?_; intro A5 c5 w5 hown5 hg5 hat5)
      have hb5 := below_app hbA hownA hg5 (by simp; omega) (Nat.le_refl _)
      rw [← hsn.out] at hown5
      clear hbA hownA hg5 hat5 hown2 hbw2
      go_wp2
      go_roundw
      case rel => exact ⟨i + 1, _, _, by omega, by go_num, rfl, hown5, hb5⟩
      case measure => simp [intOf]; omega
    · obtain rfl : i = n := by omega
      rw [List.take_of_length_le (by omega)] at hown
      go_wp2
      go_ret
      exact RetI.mk_ (by simp [hl]) rfl hown hbw

end Go.Proofs.YtgpfiefhhlejfaaDoor
