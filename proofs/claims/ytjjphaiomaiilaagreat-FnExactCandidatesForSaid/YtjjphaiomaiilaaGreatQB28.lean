/- Whether lines are a program; the tests of inputs and results. Thirty lines at most, texts below 2^21 bytes. The widths of the lines that a test takes. Thirty lines at most, texts below 2^21 bytes. The language: the widths of inputs and results by lines; numbers that fit widths. No program in sight. Drawn regions, more kinds of operations: a new row of gates; an append onto an empty one; two rows in one value; a store of one row into a box of the region's own. Lengths as the lemmas say. -/
import Derived.Test.YtjjphaiomaiilaaGreatQB27
import Derived.Test.YtjjphaiomaiilaaGreatQB14
import Derived.Test.YtjjphaiomaiilaaGreatQB26
namespace Go.Proofs.YtjjphaiomaiilaaGreat
open Go.RowKit
set_option linter.unusedVariables false
set_option linter.unusedSimpArgs false
theorem IsProgram_any (A : Option Addr) (n c : Nat) (l : List Ln) (w : World) (ha : RLn w A n l) (hn : n ≤ 2097152) (hcap : n ≤ c) (hsh : ∀ x ∈ l, shortL x) :
    Calls Tryz.prog 98 #[.slice A n c] w fun e w' => e = .returned (.bool (decide (goodP l))) ∧ Below w.heap.size w w' := by
  go_enter Tryz.func98, Tryz.ntmps98
  go_wp2_with fail
  refine (widths_any A n c l _ ha hn hcap hsh).mono ?_
  rintro e w1 ⟨A1, n1, c1, rfl, _, hb⟩
  go_wp2
  go_ret
  exact ⟨rfl, hb⟩
theorem InputWidths1_any (x : Ln) (P : Option Addr) (q b : Nat) (p : Int) (w : World) (hc : w.cell? ⟨b, 0, none⟩ = some (.int .i64 p)) :
    Calls Tryz.prog 111 #[lnV x P q, .pointer (some ⟨b, 0, none⟩)] w fun e w' => e = .returned (.bool (decide (x.kind = 1) && decide (x.party = p))) ∧ Below w.heap.size w w' := by
  have hb := World.block_lt_of_cell? w _ hc
  by_cases h : x.kind = 1
  · have t : (x.kind == 1) = true := by simp [h]
    by_cases h2 : x.party = p
    · have HR : Hid ((decide (x.kind = 1) && decide (x.party = p)) = true) := Lib.hid (by simp [h, h2])
      have t2 : (x.party == p) = true := by simp [h2]
      clear h h2
      go_enter Tryz.func111, Tryz.ntmps111
      go_wp2
      go_ret
      exact ⟨by rw [HR.out]; rfl, (Below.refl _ _).alloc (Nat.le_refl _) _⟩
    · have HR : Hid ((decide (x.kind = 1) && decide (x.party = p)) = false) := Lib.hid (by simp [h2])
      have t2 : (x.party == p) = false := by simp [h2]
      clear h h2
      go_enter Tryz.func111, Tryz.ntmps111
      go_wp2
      go_ret
      exact ⟨by rw [HR.out]; rfl, (Below.refl _ _).alloc (Nat.le_refl _) _⟩
  · have t : (x.kind == 1) = false := by simp [h]
    have HR : Hid ((decide (x.kind = 1) && decide (x.party = p)) = false) := Lib.hid (by simp [h])
    clear h
    go_enter Tryz.func111, Tryz.ntmps111
    go_wp2
    go_ret
    exact ⟨by rw [HR.out]; rfl, (Below.refl _ _).alloc (Nat.le_refl _) _⟩
def byK (p : Ln → Bool) (l : List Ln) (ws : List Int) : Nat → List Int
  | 0 => []
  | k + 1 => if p (lx l k) = true then byK p l ws k ++ [gi ws k] else byK p l ws k
theorem byK_len (p : Ln → Bool) (l : List Ln) (ws : List Int) (k : Nat) : (byK p l ws k).length ≤ k := by
  induction k with
  | zero => simp [byK]
  | succ k ih =>
    unfold byK
    split
    · simp; omega
    · omega
def byO (p : Ln → Bool) (l : List Ln) : Option (List Int) := if goodP l then some (byK p l (wids sW l) l.length) else none
set_option maxRecDepth 100000 in
set_option maxHeartbeats 1600000 in
theorem widthsBy_any (f : FuncId) (hcf : ∀ args w, Sem.run Tryz.prog (callFunc f args) w = .ok (.enter f args) w) (cap : Array Value) (p : Ln → Bool) (A : Option Addr) (n c : Nat) (l : List Ln) (w : World) (ha : RLn w A n l) (hn : n ≤ 2097152) (hcap : n ≤ c) (hsh : ∀ x ∈ l, shortL x)
    (hf : Hid (∀ x P q w1, Below w.heap.size w w1 → Calls Tryz.prog f (#[lnV x P q] ++ cap) w1 fun e w' => e = .returned (.bool (p x)) ∧ Below w1.heap.size w1 w')) :
    Calls Tryz.prog 106 #[.slice A n c, .func (.func f) #[] cap] w (RetO w (byO p l)) := by
  have hl := ha.len
  go_enter Tryz.func106, Tryz.ntmps106
  go_wp2_with fail
  refine (widths_any A n c l _ ha hn hcap hsh).mono ?_
  rintro e w1 ⟨A1, n1, c1, rfl, hW, hb1⟩
  by_cases hg : goodP l
  · have HR : Hid (byO p l = some (byK p l (wids sW l) n)) := Lib.hid (by unfold byO; rw [if_pos hg, hl])
    obtain ⟨hn1, hown1⟩ := hW hg
    rw [hl] at hn1
    subst hn1
    rw [decide_eq_true hg]
    have hz1 := hb1.size
    have h30 : n1 ≤ 30 := by have := hg.1; omega
    have hnew := (Own_new0 w1 w1.heap.size (Nat.le_refl _)).now
    have hbn : Below w1.heap.size w1 (w1.alloc (.cells #[] 3)) := (Below.refl _ _).alloc (Nat.le_refl _) _
    have HL := Lib.hid (byK_len p l (wids sW l))
    have HS : Hid (∀ k, byK p l (wids sW l) (k + 1) = if p (lx l k) = true then byK p l (wids sW l) k ++ [gi (wids sW l) k] else byK p l (wids sW l) k) := Lib.hid fun k => rfl
    have H0 : Hid (byK p l (wids sW l) 0 = []) := Lib.hid rfl
    generalize byK p l (wids sW l) = Y at *
    generalize wids sW l = ws at *
    clear hW hg
    go_wp2
    go_loopw [8, 21] (fun r i wr => ∃ (k : Nat) (R : Option Addr) (rn rc : Nat), k ≤ n1 ∧ i = .int .i64 k ∧ r = .slice R rn rc ∧ Own wr w1.heap.size wr.heap.size (.slice R rn rc) rn (Y k) ∧ rn ≤ k ∧ Below w1.heap.size w1 wr) (fun _ i _ => n1 - (intOf i).toNat)
    case atStart => exact ⟨0, _, _, _, Nat.zero_le _, rfl, rfl, by rw [H0.out]; exact hnew, Nat.le_refl _, hbn⟩
    case round =>
      obtain ⟨k, R, rn, rc, hk, rfl, rfl, hown, hrn, hb⟩ := hrel
      clear hnew hbn
      have hzr := hb.size
      by_cases hlt : k < n1
      · have hbw := hb1.trans (hb.mono hz1)
        obtain ⟨b, o, P, q, rfl, hbB, ⟨c0, c1, c2, c3, c4, c5, c6⟩, hx⟩ := (ha.below hbw (Nat.le_refl _)).at_ hlt
        obtain ⟨g, hA, hg1, hg2, hg3⟩ := hown1.some_ (show 0 < n1 by omega)
        subst hA
        have hal := (Below.refl wr.heap.size wr).alloc (Nat.le_refl _) (.cells #[.int .i64 (lx l k).kind, .string (bs (lx l k).name), .string (bs (lx l k).op), .slice P (lx l k).parts.length q, .int .i64 (lx l k).party, .int .i64 (lx l k).width, .int .i64 (lx l k).value] 68)
        have hbA := hbw.trans (hal.mono hbw.size)
        have hS := HS.out k
        clear ha hx
        cases hd : p (lx l k) with
        | true =>
          rw [hd, if_pos rfl] at hS
          have HK := Lib.hid hS
          have HQ := Lib.hid hd; clear hd hS
          go_wp2_with fail
          refine (hf.out (lx l k) P q _ hbA).mono ?_
          rintro e w3 ⟨rfl, hb3⟩
          rw [HQ.out]
          have hB3 := (hb.alloc hzr (.cells #[.int .i64 (lx l k).kind, .string (bs (lx l k).name), .string (bs (lx l k).op), .slice P (lx l k).parts.length q, .int .i64 (lx l k).party, .int .i64 (lx l k).width, .int .i64 (lx l k).value] 68)).trans (hb3.mono (by simp; omega))
          have hown3 := (hown.alloc (.cells #[.int .i64 (lx l k).kind, .string (bs (lx l k).name), .string (bs (lx l k).op), .slice P (lx l k).parts.length q, .int .i64 (lx l k).party, .int .i64 (lx l k).width, .int .i64 (lx l k).value] 68)).below hb3 (.inl (Nat.le_refl _))
          have cF := (hown1.below hB3 (.inl (Nat.le_refl _))).cellAt hlt
          have hz3 := hB3.size
          obtain ⟨u, hu⟩ : ∃ u, Hid (gi ws k = u) := ⟨_, Lib.hid rfl⟩
          rw [hu.out] at cF HK
          have hA3 := hown3.alloc (.cells #[.int .i64 u] 3)
          clear c0 c1 c2 c3 c4 c5 c6
          go_wp2_with (at_builtin; refine wpList_appI _ rfl _ _ rfl rfl hA3 rfl (RI_one _ _ _ _ (by simp)) (by omega) (by first | omega | (simp; done) | (simp; omega)) ?_; intro A5 c5 w5 hown5 hg5 hat5 hk5)
          have hb5 := below_app (hB3.alloc (by omega) (.cells #[.int .i64 u] 3)) hA3 hg5 (by simp; omega) (Nat.le_refl _)
          go_wp2
          go_roundw
          case rel => exact ⟨k + 1, A5, rn + 1, c5, by omega, by go_num, rfl, by rw [HK.out]; exact hown5, by omega, hb5⟩
          case measure => simp [intOf]; omega
        | false =>
          rw [hd, if_neg (by simp)] at hS
          have HK := Lib.hid hS
          have HQ := Lib.hid hd; clear hd hS
          go_wp2_with fail
          refine (hf.out (lx l k) P q _ hbA).mono ?_
          rintro e w3 ⟨rfl, hb3⟩
          rw [HQ.out]
          have hB3 := (hb.alloc hzr (.cells #[.int .i64 (lx l k).kind, .string (bs (lx l k).name), .string (bs (lx l k).op), .slice P (lx l k).parts.length q, .int .i64 (lx l k).party, .int .i64 (lx l k).width, .int .i64 (lx l k).value] 68)).trans (hb3.mono (by simp; omega))
          have hown3 := (hown.alloc (.cells #[.int .i64 (lx l k).kind, .string (bs (lx l k).name), .string (bs (lx l k).op), .slice P (lx l k).parts.length q, .int .i64 (lx l k).party, .int .i64 (lx l k).width, .int .i64 (lx l k).value] 68)).below hb3 (.inl (Nat.le_refl _))
          go_wp2
          go_roundw
          case rel => exact ⟨k + 1, R, rn, rc, by omega, by go_num, rfl, by rw [HK.out]; exact hown3.now, by omega, hB3⟩
          case measure => simp [intOf]; omega
      · obtain rfl : n1 = k := Nat.le_antisymm (Nat.le_of_not_lt hlt) hk
        have hln := hown.len
        go_wp2
        go_ret2
        exact RetO.some_ (hb1.trans (hb.mono hz1)) HR.out hln rfl (hown.lo_ hz1)
  · have HR : Hid (byO p l = none) := Lib.hid (by unfold byO; rw [if_neg hg])
    rw [decide_eq_false hg]
    clear hW hg
    go_wp2
    go_ret2
    exact RetO.none_ hb1 HR.out rfl
def inP (p : Int) (x : Ln) : Bool := decide (x.kind = 1) && decide (x.party = p)
def outP (x : Ln) : Bool := decide (x.kind = 6)
def outsL (l : List Ln) : List Int := byK outP l (wids sW l) l.length
theorem wid_in {l : List Ln} (h : allW l) {k : Nat} (hk : k < l.length) (h1 : (lx l k).kind = 1) : (lx l k).width = gi (wids sW l) k :=
  (step_fit 0 h hk (cS_inv 0 0 h k (by omega))).2.2.2.1 h1
theorem wid_bd {l : List Ln} (h : allW l) {k : Nat} (hk : k < l.length) : 1 ≤ gi (wids sW l) k ∧ gi (wids sW l) k ≤ 10 :=
  (step_fit 0 h hk (cS_inv 0 0 h k (by omega))).2.2.2.2
theorem byK_ins {l : List Ln} (h : allW l) (p : Int) : ∀ k, k ≤ l.length → byK (inP p) l (wids sW l) k = insL (l.take k) p := by
  intro k
  induction k with
  | zero => intro _; rfl
  | succ k ih =>
    intro hk
    rw [take_lx (by omega), insL_snoc, ← ih (by omega)]
    unfold byK
    by_cases h1 : (lx l k).kind = 1 ∧ (lx l k).party = p
    · rw [if_pos (by simp [inP, h1]), if_pos h1, wid_in h (by omega) h1.1]
      cases k <;> rfl
    · rw [if_neg (by simp [inP]; exact fun a b => h1 ⟨a, b⟩), if_neg h1]
      cases k <;> rfl
theorem byK_out_len (l : List Ln) (ws : List Int) : ∀ k, k ≤ l.length → (byK outP l ws k).length = outsC (l.take k) := by
  intro k
  induction k with
  | zero => intro _; simp [byK, outsC]
  | succ k ih =>
    intro hk
    rw [take_lx (by omega), outsC_snoc, ← ih (by omega)]
    show (if outP (lx l k) = true then byK outP l ws k ++ [gi ws k] else byK outP l ws k).length = _
    by_cases h1 : (lx l k).kind = 6
    · rw [if_pos (by simp [outP, h1]), if_pos h1]; simp
    · rw [if_neg (by simp [outP, h1]), if_neg h1]
theorem outsL_len (l : List Ln) : (outsL l).length = outsC l := by
  unfold outsL; rw [byK_out_len l _ _ (Nat.le_refl _), List.take_of_length_le (Nat.le_refl _)]
theorem byK_all {p : Ln → Bool} {l : List Ln} {ws : List Int} {lo hi : Int} (h : ∀ k, k < l.length → lo ≤ gi ws k ∧ gi ws k ≤ hi) : ∀ k, k ≤ l.length → ∀ z ∈ byK p l ws k, lo ≤ z ∧ z ≤ hi := by
  intro k
  induction k with
  | zero => intro _ z hz; simp [byK] at hz
  | succ k ih =>
    intro hk z hz
    unfold byK at hz
    split at hz
    · rcases List.mem_append.1 hz with hz | hz
      · exact ih (by omega) z hz
      · simp at hz; subst hz; exact h k (by omega)
    · exact ih (by omega) z hz
theorem insL_bd {l : List Ln} (h : allW l) (p : Int) : ∀ z ∈ insL l p, 1 ≤ z ∧ z ≤ 10 := by
  have e := byK_ins h p l.length (Nat.le_refl _)
  rw [List.take_of_length_le (Nat.le_refl _)] at e
  rw [← e]
  exact byK_all (fun k hk => wid_bd h hk) _ (Nat.le_refl _)
theorem insL_len (l : List Ln) (p : Int) : (insL l p).length ≤ l.length := by
  unfold insL; rw [List.length_map]; exact List.length_filter_le _ _
theorem byO_in (l : List Ln) (p : Int) : byO (fun x => decide (x.kind = 1) && decide (x.party = p)) l = if goodP l then some (insL l p) else none := by
  unfold byO
  by_cases h : goodP l
  · rw [if_pos h, if_pos h]
    have e := byK_ins h.2.1 p l.length (Nat.le_refl _)
    rw [List.take_of_length_le (Nat.le_refl _)] at e
    rw [← e]; rfl
  · rw [if_neg h, if_neg h]
theorem allW_iff (l : List Ln) : allB 1 10 (wids sW l) = true ↔ allW l := by
  rw [allB_iff]
  constructor
  · intro h z hz; have := h z hz; omega
  · intro h z hz; have := h z hz; have := wids_bd l z hz; omega
theorem sumI_snoc2 {xs : List Int} {k : Nat} (h : k < xs.length) : sumI (xs.take (k + 1)) = sumI (xs.take k) + gi xs k := by
  rw [gi_take_snoc h, sumI_snoc]
theorem sumI_le {xs : List Int} {M : Nat} (h : ∀ z ∈ xs, 0 ≤ z ∧ z ≤ M) : ∀ k, k ≤ xs.length → 0 ≤ sumI (xs.take k) ∧ sumI (xs.take k) ≤ M * k := by
  intro k
  induction k with
  | zero => intro _; simp [sumI]
  | succ k ih =>
    intro hk
    have := ih (by omega)
    have hz := h _ (gi_mem (xs := xs) (j := k) (by omega))
    rw [sumI_snoc2 (by omega)]
    have e : (M : Int) * ((k + 1 : Nat) : Int) = M * k + M := by rw [Int.natCast_add, Int.mul_add]; simp
    rw [e]; omega
theorem postRowG.new0 (w : World) : postRowG w 0 [] (.slice (some ⟨w.heap.size, 0, none⟩) 0 0) (w.alloc (.cells #[] 81)) :=
  ⟨_, _, rfl, (OwnG_new0 w w.heap.size (Nat.le_refl _)).hi_ (by simp), (Below.refl _ _).alloc (Nat.le_refl _) _⟩
theorem postRow.new0 (w : World) : postRow w 0 [] (.slice (some ⟨w.heap.size, 0, none⟩) 0 0) (w.alloc (.cells #[] 3)) := by simpa using postRow.new w [] 0 rfl (by omega)
section
variable {W : World} {own : Nat → Prop} {cs : List (Addr × Value)} {sk : List (Nat × List Nat × List Nat)} {ini fi : List Nat} {rs : List (Nat × Res)} {ops : Array Oper} {L : Act → (Nat → Value) → Prop} {k : Nat} {o : Oper} {rest : List Oper} {a : Act} {ρ : Nat → Value}
def Res.two (lo ng no : Nat) (gs : List G3) (os : List Int) (V : Option Addr → Nat → Option Addr → Nat → Value) : Res :=
  ⟨fun _ v => ∃ A c O d, v = V A c O d, fun _ v w => ∀ A c O d, v = V A c O d → OwnC w lo w.heap.size A ng c O no d gs os,
    fun _ v b => ∃ A c O d, v = V A c O d ∧ ((Value.slice A ng c).ownBlock = some b ∨ (Value.slice O no d).ownBlock = some b), fun _ => ⟨V none 0 none 0, none, 0, none, 0, rfl⟩,
    fun _ v w w' S h k hb A c O d hv => by
      have h1 := h A c O d hv
      exact ⟨(h1.1.alt k fun g hg => (hb g ⟨A, c, O, d, hv, .inl hg⟩).1).now, (h1.2.1.alt k fun g hg => (hb g ⟨A, c, O, d, hv, .inr hg⟩).1).now, h1.2.2⟩⟩
def postTwo (w : World) (ng no : Nat) (gs : List G3) (os : List Int) (V : Option Addr → Nat → Option Addr → Nat → Value) (v : Value) (w' : World) : Prop := ∃ A c O d, v = V A c O d ∧ OwnC w' w.heap.size w'.heap.size A ng c O no d gs os ∧ Below w.heap.size w w'
theorem postTwo.mk_ {w w' : World} {ng no : Nat} {gs : List G3} {os : List Int} {V : Option Addr → Nat → Option Addr → Nat → Value} {v : Value} (A : Option Addr) (c : Nat) (O : Option Addr) (d : Nat) (hv : v = V A c O d) (h : OwnC w' w.heap.size w'.heap.size A ng c O no d gs os) (hb : Below w.heap.size w w') : postTwo w ng no gs os V v w' := ⟨A, c, O, d, hv, h, hb⟩
end
section
variable {P : Program} {W : World} {own : Nat → Prop} {cs : List (Addr × Value)} {sk : List (Nat × List Nat × List Nat)} {ini fi : List Nat} {rs : List (Nat × Res)} {ops : Array Oper} {L : Act → (Nat → Value) → Prop} {k : Nat} {o : Oper} {rest : List Oper} {a : Act} {ρ : Nat → Value}
end
end Go.Proofs.YtjjphaiomaiilaaGreat
