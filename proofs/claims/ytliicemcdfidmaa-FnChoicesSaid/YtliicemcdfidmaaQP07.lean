/- Contracts of gadgets. -/
import Derived.Test.YtliicemcdfidmaaQP06
namespace Go.Proofs.Ytliicemcdfidmaa
open Go.RowKit
set_option linter.unusedVariables false
set_option linter.unusedSimpArgs false
theorem RM.ofOwn {w : World} {lo hi b n c : Nat} {A : Option Addr} {xs : List Int} (h : Own w lo hi (.slice A n c) n xs) (hb : b < lo) : RM w b none A n xs := by
  refine ⟨h.reads, fun hn k o hA => ⟨?_, by simp⟩⟩
  obtain ⟨g, hg, h1, _⟩ := h.some_ hn
  rw [hA] at hg
  simp only [Option.some.injEq, Addr.mk.injEq, and_true] at hg
  omega
theorem Own.far1 {w : World} {lo hi n : Nat} {v : Value} {xs : List Int} (h : Own w lo hi v n xs) (p : Addr) (u : Value) (hp : v.ownBlock ≠ some p.block) : Own (w.setCell p u) lo hi v n xs := by
  refine ⟨⟨h.1.1, ?_⟩, h.2⟩
  rcases h.1.2 with h1 | ⟨g, cap, cur, rfl, hlo, hg, r⟩
  · exact .inl h1
  · refine .inr ⟨g, cap, cur, rfl, hlo, ?_, r⟩
    have hne : g ≠ p.block := fun hc => hp (by simp [Value.ownBlock, hc])
    rw [Below.heap_setCell w p u g hne]; exact hg
def Fz (w : World) (b : Nat) : Prop := ∀ q, w.frozen? ⟨b, q, none⟩ = false
theorem Fz.new (w : World) (c : Array Value) (t : TypeId) : Fz (w.alloc (.cells c t)) w.heap.size := fun q => World.frozen?_alloc_at _ _ _ _ rfl
theorem Fz.below {w w' : World} {b B : Nat} (h : Fz w b) (k : Below B w w') (hb : b < B) : Fz w' b := fun q => (k.frozen (p := ⟨b, q, none⟩) hb).trans (h q)
theorem Fz.mv {w w' : World} {b c : Nat} {G G' : Option Nat} (h : Fz w b) (k : Mv c G G' w w') (hb : b < w.heap.size) (hf : OffB c G b) : Fz w' b := fun q => (World.frozen?_of_block (w := w) (a := ⟨b, q, none⟩) (k.block b hb (And.left hf) (And.right hf))).trans (h q)
theorem Fz.set {w : World} {b : Nat} (h : Fz w b) (p : Addr) (v : Value) : Fz (w.setCell p v) b := fun q => (World.frozen?_setCell _ _ _ _).trans (h q)
theorem Mk.circuit {w : World} {lo lo2 b m oc : Nat} {x y : Int} {gs : List G3} {os : List Int} {G : Option Nat} {O : Option Addr} (hm : Mk w lo b x y gs G) (ho : OM w b G lo2 (.slice O m oc) m os) (hl : lo ≤ lo2) :
    ∃ Ag cg, BxC w b x y Ag gs.length cg none 0 0 ∧ BxC (w.setCell ⟨b, 3, none⟩ (.slice O m oc)) b x y Ag gs.length cg O m oc ∧ OwnC (w.setCell ⟨b, 3, none⟩ (.slice O m oc)) lo w.heap.size Ag gs.length cg O m oc gs os ∧ w.frozen? ⟨b, 3, none⟩ = false := by
  obtain ⟨h1, h2, hf, Ag, cg, hx, hg, rfl⟩ := hm
  have hne : (Value.slice O m oc).ownBlock ≠ some b := fun hc => (ho.2 b hc).1 rfl
  exact ⟨Ag, cg, hx, hx.setO O m oc, ⟨hg.far1 _ _ h2, (ho.1.lo_ hl).far1 _ _ hne, fun g hg ho' => (ho.2 g ho').2 hg⟩, hf 3⟩
theorem Mk.size {w : World} {lo b : Nat} {x y : Int} {gs : List G3} {G : Option Nat} (hm : Mk w lo b x y gs G) : b < w.heap.size := hm.1
def RetCi (w : World) (x y : Int) (gs : List G3) (os : List Int) (e : Ending) (w' : World) : Prop :=
  ∃ Ag cg Ao co, e = .returned (.agg #[.int .i64 x, .int .i64 y, .slice Ag gs.length cg, .slice Ao os.length co]) ∧ OwnC w' w.heap.size w'.heap.size Ag gs.length cg Ao os.length co gs os ∧ Below w.heap.size w w'
theorem RetCi.mk_ {w : World} {x y : Int} {gs : List G3} {os : List Int} {e : Ending} {w' : World} {Ag Ao : Option Addr} {cg m co : Nat} (hm : os.length = m) (he : e = .returned (.agg #[.int .i64 x, .int .i64 y, .slice Ag gs.length cg, .slice Ao m co])) (hw : OwnC w' w.heap.size w'.heap.size Ag gs.length cg Ao m co gs os) (hb : Below w.heap.size w w') : RetCi w x y gs os e w' := by
  subst hm; exact ⟨Ag, cg, Ao, co, he, hw, hb⟩
def RIn (w : World) (lo hi : Nat) (A : Option Addr) (n : Nat) (xs : List Int) : Prop := RI w A n xs ∧ (0 < n → ∀ k o, A = some ⟨k, o, none⟩ → lo ≤ k ∧ k < hi)
def OwnCr (w : World) (lo hi : Nat) (Ag : Option Addr) (ng cg : Nat) (Ao : Option Addr) (no co : Nat) (gs : List G3) (os : List Int) : Prop :=
  OwnG w lo hi (.slice Ag ng cg) ng gs ∧ RIn w lo hi Ao no os
section
variable {w w' : World} {lo hi : Nat} {Ag : Option Addr} {ng cg : Nat} {Ao : Option Addr} {no co : Nat} {gs : List G3} {os : List Int}
theorem RIn.below {B : Nat} (h : RIn w lo hi Ao no os) (hb : Below B w w') (hB : w.heap.size ≤ B ∨ hi ≤ B) : RIn w' lo hi Ao no os := by
  refine ⟨⟨h.1.1, fun hn => ?_⟩, h.2⟩
  obtain ⟨b, o, hA, hlt, hc⟩ := h.1.2 hn
  have hk := h.2 hn b o hA
  exact ⟨b, o, hA, Nat.lt_of_lt_of_le hlt hb.size, fun j hj => (hb.cell (p := ⟨b, o + j, none⟩) (by show b < B; omega)).trans (hc j hj)⟩
theorem RIn.chg {lo' hi' : Nat} (h : RIn w lo hi Ao no os) (k : Chg lo' hi' w w') (hd : hi ≤ lo' ∨ hi' ≤ lo) : RIn w' lo hi Ao no os := by
  refine ⟨⟨h.1.1, fun hn => ?_⟩, h.2⟩
  obtain ⟨b, o, hA, hlt, hc⟩ := h.1.2 hn
  have hk := h.2 hn b o hA
  exact ⟨b, o, hA, Nat.lt_of_lt_of_le hlt k.size, fun j hj => cell_chg (hc j hj) k (by show b < lo' ∨ hi' ≤ b; omega)⟩
theorem OwnCr.below {B : Nat} (h : OwnCr w lo hi Ag ng cg Ao no co gs os) (hb : Below B w w') (hB : w.heap.size ≤ B ∨ hi ≤ B) : OwnCr w' lo hi Ag ng cg Ao no co gs os := ⟨h.1.below hb hB, h.2.below hb hB⟩
theorem OwnCr.chg {lo' hi' : Nat} (h : OwnCr w lo hi Ag ng cg Ao no co gs os) (k : Chg lo' hi' w w') (hd : hi ≤ lo' ∨ hi' ≤ lo) : OwnCr w' lo hi Ag ng cg Ao no co gs os := ⟨h.1.chg k hd, h.2.chg k hd⟩
theorem OwnCr.reads (h : OwnCr w lo hi Ag ng cg Ao no co gs os) : RG w Ag ng gs ∧ RI w Ao no os := ⟨h.1.reads, h.2.1⟩
theorem OwnCr.lo_ {lo' : Nat} (h : OwnCr w lo hi Ag ng cg Ao no co gs os) (hl : lo' ≤ lo) : OwnCr w lo' hi Ag ng cg Ao no co gs os := ⟨h.1.lo_ hl, h.2.1, fun hn k o hA => ⟨Nat.le_trans hl (h.2.2 hn k o hA).1, (h.2.2 hn k o hA).2⟩⟩
theorem OwnC.toR (h : OwnC w lo hi Ag ng cg Ao no co gs os) : OwnCr w lo hi Ag ng cg Ao no co gs os := by
  refine ⟨h.1, h.2.1.reads, fun hn k o hA => ?_⟩
  obtain ⟨g, hg, h1, h2, _⟩ := h.2.1.some_ hn
  rw [hA] at hg
  simp only [Option.some.injEq, Addr.mk.injEq, and_true] at hg
  omega
end
theorem isOperand_any (a : Int) (w : World) : Calls Try.prog 31 #[.int .i64 a] w fun e w' => e = .returned (.bool (inB 1 8 a)) ∧ w = w' := by
  go_enter Try.func31, Try.ntmps31
  go_wp2_with fail
  refine (within_any a 1 8 _ rfl _).mono ?_
  rintro e w1 ⟨rfl, rfl⟩
  go_wp2
  go_ret
  exact ⟨rfl, rfl⟩
theorem gdWidth_any (a : Int) (w : World) : Calls Try.prog 57 #[.int .i64 a] w fun e w' => e = .returned (.bool (inB 1 8 a)) ∧ w = w' := by
  go_enter Try.func57, Try.ntmps57
  go_wp2_with fail
  refine (l1In_any a 1 8 _ rfl _).mono ?_
  rintro e w1 ⟨rfl, rfl⟩
  go_wp2
  go_ret
  exact ⟨rfl, rfl⟩
theorem ciNew_any (x y : Int) (w : World) : Calls Try.prog 45 #[.int .i64 x, .int .i64 y] w fun e w' => e = .returned (.pointer (some ⟨w.heap.size, 0, none⟩)) ∧ w.alloc (.cells #[.int .i64 x, .int .i64 y, .slice none 0 0, .slice none 0 0] 69) = w' := by
  go_enter Try.func45, Try.ntmps45
  go_wp2
  go_ret
  exact ⟨rfl, rfl⟩
set_option maxRecDepth 100000 in
set_option maxHeartbeats 4000000 in
theorem gadget_any (f : FuncId) (hcf : ∀ args w, Sem.run Try.prog (callFunc f args) w = .ok (.enter f args) w) (F : Nat → Go2) (a : Int) (w : World)
    (hok : ∀ n : Nat, 1 ≤ n → n ≤ 8 → circB (n : Nat) (n : Nat) (F n).g (F n).o = true)
    (hf : Hid (∀ (n lo b : Nat) (A B : Option Addr) (c d : Nat) (w1 : World), 1 ≤ n → n ≤ 8 → lo ≤ w1.heap.size → Mk w1 lo b n n [] none → RM w1 b none A n (spn 0 n) → RM w1 b none B n (spn n n) →
      Calls Try.prog f #[.pointer (some ⟨b, 0, none⟩), .slice A n c, .slice B n d] w1 (RetRow lo b n n (F n).g (F n).o none w1))) :
    Calls Try.prog 23 #[.int .i64 a, .func (.func f) #[] #[]] w (RetC w (gadF F 8 a)) := by
  have hB : Below w.heap.size w (w.alloc (.cells #[.int .i64 0, .int .i64 0, .slice none 0 0, .slice none 0 0] 28)) := (Below.refl _ _).alloc (Nat.le_refl _) _
  have hx0 : BxC (w.alloc (.cells #[.int .i64 0, .int .i64 0, .slice none 0 0, .slice none 0 0] 28)) w.heap.size 0 0 none 0 0 none 0 0 := BxC.new w _
  cases h0 : inB 1 8 a with
  | false =>
    have HR : Hid (gadF F 8 a = none) := Lib.hid (by simp [gadF, h0])
    have H0 := Lib.hid h0; clear h0
    go_enter Try.func23, Try.ntmps23
    go_wp2_with fail
    refine (isOperand_any a _).mono ?_
    rintro e w1 ⟨rfl, rfl⟩
    rw [H0.out]
    go_wp2
    have hq9 := BxC.set4 (hx0) 0 0 none 0 0 none 0 0
    obtain ⟨q0, q1, q2, q3⟩ := hq9
    refine bodyPost_ret (v := .tuple #[.agg #[.int .i64 0, .int .i64 0, .slice none 0 0, .slice none 0 0], .bool false]) (by simp [results, Try.results23, go_sem, q0, q1, q2, q3]) rfl ?_
    exact RetC.none_ hB HR.out rfl
  | true =>
    have hab := inB_iff.1 h0
    obtain ⟨n, rfl⟩ : ∃ n : Nat, a = n := ⟨a.toNat, by omega⟩
    have h1 : 1 ≤ n := by omega
    have h8 : n ≤ 8 := by omega
    have HR : Hid (gadF F 8 (n : Int) = some ⟨n, n, (F n).g, (F n).o⟩) := Lib.hid (by simp [gadF, h0])
    have H0 := Lib.hid h0; clear h0 hab
    have HOK := Lib.hid (hok n h1 h8)
    have HF := Lib.hid (fun lo b A B c d w1 => hf.out n lo b A B c d w1 h1 h8)
    have hl3 := spn_len 0 n
    have hl4 := spn_len n n
    clear hf hok
    have hl : (F n).g.length ≤ 300 ∧ (F n).o.length ≤ 40 := by have := circB_bd HOK.out; omega
    generalize F n = T at *
    obtain ⟨gs, os⟩ := T
    dsimp only at hl
    obtain ⟨m, hm⟩ : ∃ m, Hid (os.length = m) := ⟨_, Lib.hid rfl⟩
    have hm0 := Mk.new (w.alloc (.cells #[.int .i64 0, .int .i64 0, .slice none 0 0, .slice none 0 0] 28)) (w.heap.size + 1) (n : Int) (n : Int) 48
    have hB2 := hB.alloc hB.size (.cells #[.int .i64 n, .int .i64 n, .slice none 0 0, .slice none 0 0] 48)
    have hx2 := hx0.below ((Below.refl _ _).alloc (Nat.le_refl _) (.cells #[.int .i64 n, .int .i64 n, .slice none 0 0, .slice none 0 0] 48))
    simp only [World.size_alloc] at hm0
    go_enter Try.func23, Try.ntmps23
    go_wp2_with fail
    refine (isOperand_any n _).mono ?_
    rintro e w1 ⟨rfl, rfl⟩
    rw [H0.out]
    go_wp2_with fail
    refine (span_any 0 n _ (by omega) (by omega)).mono ?_
    rintro e w3 hT
    obtain ⟨A3, c3, rfl, hown3, hb3⟩ := hT.open_ hl3
    have hx3 := hx2.below hb3
    have hm3 := hm0.below_ hb3 (Nat.le_refl _)
    have hB3 := hB2.trans (hb3.mono hB2.size)
    go_wp2_with fail
    refine (span_any n n _ (by omega) (by omega)).mono ?_
    rintro e w4 hT
    obtain ⟨A4, c4, rfl, hown4, hb4⟩ := hT.open_ hl4
    have hx4 := hx3.below hb4
    have hm4 := hm3.below_ hb4 (Nat.le_refl _)
    have hB4 := hB3.trans (hb4.mono hB3.size)
    have hr3 := RM.ofOwn (b := w.heap.size + 1) (hown3.below hb4 (.inl (Nat.le_refl _))) (by simp)
    have hz3 := hb3.size
    simp only [World.size_alloc] at hz3
    have hr4 := RM.ofOwn (b := w.heap.size + 1) hown4 (by omega)
    have hz4 := hB4.size
    have hz4' := hb4.size
    clear hx0 hx2 hx3 hm0 hm3 hB hB2 hB3 hown3 hown4
    go_wp2_with fail
    refine (HF.out (w.heap.size + 1) (w.heap.size + 1) A3 A4 c3 c4 w4 (by omega) hm4 hr3 hr4).mono ?_
    rintro e w5 hT
    obtain ⟨G5, O5, oc5, rfl, hm5, hv5, ho5⟩ := hT.open_ hm.out
    have hx5 : BxC w5 w.heap.size 0 0 none 0 0 none 0 0 := ⟨hv5.cellF hx4.1 ⟨by simp, by simp⟩, hv5.cellF hx4.2.1 ⟨by simp, by simp⟩, hv5.cellF hx4.2.2.1 ⟨by simp, by simp⟩, hv5.cellF hx4.2.2.2 ⟨by simp, by simp⟩⟩
    have hB5 := hv5.toBelow hB4 (by omega) (by simp) hz4
    obtain ⟨Ag, cg, hx6, hx7, hw7, hfz⟩ := hm5.circuit ho5 (by omega)
    have hB7 := hB5.setCell (p := ⟨w.heap.size + 1, 3, none⟩) (by show w.heap.size ≤ w.heap.size + 1; omega) (.slice O5 m oc5)
    have hx8 : BxC (w5.setCell ⟨w.heap.size + 1, 3, none⟩ (.slice O5 m oc5)) w.heap.size 0 0 none 0 0 none 0 0 := ⟨(World.cell?_setCell_other _ _ _ _ (by simp)).trans hx5.1, (World.cell?_setCell_other _ _ _ _ (by simp)).trans hx5.2.1, (World.cell?_setCell_other _ _ _ _ (by simp)).trans hx5.2.2.1, (World.cell?_setCell_other _ _ _ _ (by simp)).trans hx5.2.2.2⟩
    obtain ⟨i0, i1, i2, i3⟩ := hx7
    obtain ⟨j0, j1, j2, j3⟩ := hx6
    clear hm5 ho5 hx5 hx4 hm4 hr3 hr4
    have hmo := hm.out
    go_wp2_with fail
    refine (valid_t n n Ag gs.length cg O5 m oc5 gs os _ hw7.reads.1 hw7.reads.2 (by omega) (by omega) HOK.out).mono ?_
    rintro e w8 ⟨rfl, hb8⟩
    have hB8 := hB7.trans (hb8.mono hB7.size)
    have f8 : Fz w8 w.heap.size := ((((((Fz.new w _ _).below ((Below.refl _ _).alloc (Nat.le_refl _) (.cells #[.int .i64 n, .int .i64 n, .slice none 0 0, .slice none 0 0] 48)) (by simp)).below hb3 (by simp; omega)).below hb4 (by omega)).mv hv5 (by omega) ⟨by simp, by simp⟩).set _ _).below hb8 (by simp; have := hv5.size; omega)
    have g0 := f8 0; have g1 := f8 1; have g2 := f8 2; have g3 := f8 3
    have hx9 := hx8.below hb8
    have hy9 := hx9; obtain ⟨l0, l1, l2, l3⟩ := hy9
    have hw8 := (hw7.below hb8 (.inl (Nat.le_refl _))).hi_ (show w5.heap.size ≤ w8.heap.size by simpa using hb8.size)
    go_wp2
    have hq9 := BxC.set4 (hx9) (n : Int) (n : Int) Ag gs.length cg O5 m oc5
    obtain ⟨q0, q1, q2, q3⟩ := hq9
    refine bodyPost_ret (v := .tuple #[.agg #[.int .i64 (n : Int), .int .i64 (n : Int), .slice Ag gs.length cg, .slice O5 m oc5], .bool true]) (by simp [results, Try.results23, go_sem, q0, q1, q2, q3]) rfl ?_
    exact RetC.some_ (below_set4 hB8 (Nat.le_refl _) _ _ _ _ _ _ _ _) HR.out rfl hm.out rfl (by rw [set4_size]; exact ((hw8.set4 (.inl (by omega)) _ _ _ _ _ _ _ _).lo_ (by omega)))
theorem RIn.far {w : World} {lo hi no : Nat} {Ao : Option Addr} {os : List Int} (h : RIn w lo hi Ao no os) (p : Addr) (u : Value) (hp : p.block < lo ∨ hi ≤ p.block) : RIn (w.setCell p u) lo hi Ao no os := by
  refine ⟨⟨h.1.1, fun hn => ?_⟩, h.2⟩
  obtain ⟨b, o, hA, hlt, hc⟩ := h.1.2 hn
  have hk := h.2 hn b o hA
  exact ⟨b, o, hA, by simpa using hlt, fun j hj => (World.cell?_setCell_other _ _ _ _ (fun he => by have := congrArg Addr.block he; simp at this; omega)).trans (hc j hj)⟩
theorem OwnCr.far {w : World} {lo hi : Nat} {Ag : Option Addr} {ng cg : Nat} {Ao : Option Addr} {no co : Nat} {gs : List G3} {os : List Int} (h : OwnCr w lo hi Ag ng cg Ao no co gs os) (p : Addr) (u : Value) (hp : p.block < lo ∨ hi ≤ p.block) : OwnCr (w.setCell p u) lo hi Ag ng cg Ao no co gs os := ⟨h.1.far p u hp, h.2.far p u hp⟩
theorem OwnCr.hi_ {w : World} {lo hi hi' : Nat} {Ag : Option Addr} {ng cg : Nat} {Ao : Option Addr} {no co : Nat} {gs : List G3} {os : List Int} (h : OwnCr w lo hi Ag ng cg Ao no co gs os) (hl : hi ≤ hi') : OwnCr w lo hi' Ag ng cg Ao no co gs os := ⟨h.1.hi_ hl, h.2.1, fun hn k o hA => ⟨(h.2.2 hn k o hA).1, Nat.lt_of_lt_of_le (h.2.2 hn k o hA).2 hl⟩⟩
theorem OwnCr.set4 {w : World} {b lo hi : Nat} {A1 : Option Addr} {n1 c1 : Nat} {A2 : Option Addr} {n2 c2 : Nat} {gs : List G3} {os : List Int} (h : OwnCr w lo hi A1 n1 c1 A2 n2 c2 gs os) (hb : b < lo ∨ hi ≤ b) (x y : Int) (Ag : Option Addr) (ng cg : Nat) (Ao : Option Addr) (no co : Nat) :
    OwnCr ((((w.setCell ⟨b, 0, none⟩ (.int .i64 x)).setCell ⟨b, 1, none⟩ (.int .i64 y)).setCell ⟨b, 2, none⟩ (.slice Ag ng cg)).setCell ⟨b, 3, none⟩ (.slice Ao no co)) lo hi A1 n1 c1 A2 n2 c2 gs os :=
  (((h.far ⟨b, 0, none⟩ _ hb).far ⟨b, 1, none⟩ _ hb).far ⟨b, 2, none⟩ _ hb).far ⟨b, 3, none⟩ _ hb
def RetCir (w : World) (x y : Int) (gs : List G3) (os : List Int) (e : Ending) (w' : World) : Prop :=
  ∃ Ag cg Ao co, e = .returned (.agg #[.int .i64 x, .int .i64 y, .slice Ag gs.length cg, .slice Ao os.length co]) ∧ OwnCr w' w.heap.size w'.heap.size Ag gs.length cg Ao os.length co gs os ∧ Below w.heap.size w w'
theorem RetCir.mk_ {w : World} {x y : Int} {gs : List G3} {os : List Int} {e : Ending} {w' : World} {Ag Ao : Option Addr} {cg m co : Nat} (hm : os.length = m) (he : e = .returned (.agg #[.int .i64 x, .int .i64 y, .slice Ag gs.length cg, .slice Ao m co])) (hw : OwnCr w' w.heap.size w'.heap.size Ag gs.length cg Ao m co gs os) (hb : Below w.heap.size w w') : RetCir w x y gs os e w' := by
  subst hm; exact ⟨Ag, cg, Ao, co, he, hw, hb⟩
def RetCr (w : World) (o : Option Ci) (e : Ending) (w' : World) : Prop :=
  ∃ Ag cg Ao co, e = .returned (.tuple #[.agg #[.int .i64 (o.getD ⟨0, 0, [], []⟩).i0, .int .i64 (o.getD ⟨0, 0, [], []⟩).i1, .slice Ag (o.getD ⟨0, 0, [], []⟩).gs.length cg, .slice Ao (o.getD ⟨0, 0, [], []⟩).os.length co], .bool o.isSome]) ∧
    OwnCr w' w.heap.size w'.heap.size Ag (o.getD ⟨0, 0, [], []⟩).gs.length cg Ao (o.getD ⟨0, 0, [], []⟩).os.length co (o.getD ⟨0, 0, [], []⟩).gs (o.getD ⟨0, 0, [], []⟩).os ∧ Below w.heap.size w w'
theorem RetCr.none_ {w : World} {o : Option Ci} {e : Ending} {w' : World} (hb : Below w.heap.size w w') (ho : o = none) (he : e = .returned (.tuple #[.agg #[.int .i64 0, .int .i64 0, .slice none 0 0, .slice none 0 0], .bool false])) : RetCr w o e w' := by
  subst ho; exact ⟨none, 0, none, 0, he, (OwnC.none_ _ _ _).toR, hb⟩
theorem RetCr.some_ {w : World} {o : Option Ci} {x y : Int} {gs : List G3} {os : List Int} {ng cg no co : Nat} {Ag Ao : Option Addr} {e : Ending} {w' : World} (hb : Below w.heap.size w w') (ho : o = some ⟨x, y, gs, os⟩) (hng : gs.length = ng) (hno : os.length = no)
    (he : e = .returned (.tuple #[.agg #[.int .i64 x, .int .i64 y, .slice Ag ng cg, .slice Ao no co], .bool true])) (hw : OwnCr w' w.heap.size w'.heap.size Ag ng cg Ao no co gs os) : RetCr w o e w' := by
  subst ho; subst hng; subst hno; exact ⟨Ag, cg, Ao, co, he, hw, hb⟩
theorem RetC.of {w : World} {o : Option Ci} {x y : Int} {gs : List G3} {os : List Int} {t : Bool} {cg co : Nat} {Ag Ao : Option Addr} {e : Ending} {w' : World} (hQ : o.getD ⟨0, 0, [], []⟩ = ⟨x, y, gs, os⟩) (ht : o.isSome = t) (he : e = .returned (.tuple #[.agg #[.int .i64 x, .int .i64 y, .slice Ag gs.length cg, .slice Ao os.length co], .bool t])) (hw : OwnC w' w.heap.size w'.heap.size Ag gs.length cg Ao os.length co gs os) (hb : Below w.heap.size w w') : RetC w o e w' := by
  refine ⟨Ag, cg, Ao, co, ?_⟩; rw [hQ, ht]; exact ⟨he, hw, hb⟩
theorem RetCr.of {w : World} {o : Option Ci} {x y : Int} {gs : List G3} {os : List Int} {t : Bool} {cg co : Nat} {Ag Ao : Option Addr} {e : Ending} {w' : World} (hQ : o.getD ⟨0, 0, [], []⟩ = ⟨x, y, gs, os⟩) (ht : o.isSome = t) (he : e = .returned (.tuple #[.agg #[.int .i64 x, .int .i64 y, .slice Ag gs.length cg, .slice Ao os.length co], .bool t])) (hw : OwnCr w' w.heap.size w'.heap.size Ag gs.length cg Ao os.length co gs os) (hb : Below w.heap.size w w') : RetCr w o e w' := by
  refine ⟨Ag, cg, Ao, co, ?_⟩; rw [hQ, ht]; exact ⟨he, hw, hb⟩
theorem RetC.to {w : World} {o : Option Ci} {x y : Int} {gs : List G3} {os : List Int} {t : Bool} {e : Ending} {w' : World} (h : RetC w o e w') (hQ : o.getD ⟨0, 0, [], []⟩ = ⟨x, y, gs, os⟩) (ht : o.isSome = t) :
    ∃ Ag cg Ao co, e = .returned (.tuple #[.agg #[.int .i64 x, .int .i64 y, .slice Ag gs.length cg, .slice Ao os.length co], .bool t]) ∧ OwnC w' w.heap.size w'.heap.size Ag gs.length cg Ao os.length co gs os ∧ Below w.heap.size w w' := by
  obtain ⟨Ag, cg, Ao, co, h⟩ := h; rw [hQ, ht] at h; exact ⟨Ag, cg, Ao, co, h⟩
theorem RetCr.to {w : World} {o : Option Ci} {x y : Int} {gs : List G3} {os : List Int} {t : Bool} {e : Ending} {w' : World} (h : RetCr w o e w') (hQ : o.getD ⟨0, 0, [], []⟩ = ⟨x, y, gs, os⟩) (ht : o.isSome = t) :
    ∃ Ag cg Ao co, e = .returned (.tuple #[.agg #[.int .i64 x, .int .i64 y, .slice Ag gs.length cg, .slice Ao os.length co], .bool t]) ∧ OwnCr w' w.heap.size w'.heap.size Ag gs.length cg Ao os.length co gs os ∧ Below w.heap.size w w' := by
  obtain ⟨Ag, cg, Ao, co, h⟩ := h; rw [hQ, ht] at h; exact ⟨Ag, cg, Ao, co, h⟩
set_option maxRecDepth 100000 in
set_option maxHeartbeats 1600000 in
theorem Adder_1_any (n lo b : Nat) (A B : Option Addr) (c d : Nat) (w : World) (h1 : 1 ≤ n) (h8 : n ≤ 8) (hlo : lo ≤ w.heap.size) (hm : Mk w lo b n n [] none) (ha : RM w b none A n (spn 0 n)) (hb : RM w b none B n (spn n n)) :
    Calls Try.prog 71 #[.pointer (some ⟨b, 0, none⟩), .slice A n c, .slice B n d] w (RetRow lo b n n (adderG n).g (adderG n).o none w) := by
  have hx : 0 ≤ (n : Int) ∧ (n : Int) ≤ 20 := by omega
  obtain ⟨T, hT⟩ : ∃ T, Hid (addS (n + n) [] (spn 0 n) (spn n n) n = T) := ⟨_, Lib.hid rfl⟩
  have hE : Hid (adderG n = ⟨T.g, T.o ++ [T.c]⟩) := Lib.hid (by rw [← hT.out]; rfl)
  have hL : Hid (T.o.length = n) := Lib.hid (by rw [← hT.out]; exact addS_o _ _ _ _ _)
  have hK : T.g.length ≤ 6 * n := by rw [← hT.out]; have := addS_g (n + n) [] (spn 0 n) (spn n n) n; simp at this; omega
  rw [hE.out]
  obtain ⟨Tg, To, Tc⟩ := T
  dsimp only at hK hL
  dsimp only
  go_enter Try.func71, Try.ntmps71
  go_wp2_with fail
  have q9 := maker_add_any lo b n n [] none A B n c d _ _ w hm ha hb hx hx (by simp) (by omega) hlo
  rw [hT.out] at q9
  refine q9.mono ?_
  clear q9
  rintro e w2 ⟨G2, O2, oc2, rfl, hm2, hv2, ho2⟩
  have hz2 := hv2.size
  have hoA := ho2.alloc_ (.cells #[.int .i64 Tc] 3); have hmA := hm2.alloc_ (.cells #[.int .i64 Tc] 3); have hvA := hv2.alloc_ (.cells #[.int .i64 Tc] 3)
  go_wp2_with (at_builtin; refine wpList_appI _ rfl _ _ rfl rfl hoA.1 rfl (RI_one _ _ _ _ (by simp)) (by omega) (by first | omega | (simp; done) | (simp; omega)) ?_; intro A5 c5 w5 hown5 hg5 hat5 hk5)
  have ho5 := hoA.app hmA hown5 hat5; have hm5 := hmA.app hoA hg5; have hv5 := hvA.app hoA hg5
  have hl5 : Hid ((To ++ [Tc]).length = n + 1) := Lib.hid (by simp [hL.out])
  clear hoA hmA hvA hown5 hg5 hat5 hk5 hm2 ho2 hv2
  go_wp2
  go_ret
  exact RetRow.mk_ hl5.out rfl hm5 hv5 ho5
set_option maxRecDepth 100000 in
set_option maxHeartbeats 1600000 in
theorem Subtract_1_any (n lo b : Nat) (A B : Option Addr) (c d : Nat) (w : World) (h1 : 1 ≤ n) (h8 : n ≤ 8) (hlo : lo ≤ w.heap.size) (hm : Mk w lo b n n [] none) (ha : RM w b none A n (spn 0 n)) (hb : RM w b none B n (spn n n)) :
    Calls Try.prog 73 #[.pointer (some ⟨b, 0, none⟩), .slice A n c, .slice B n d] w (RetRow lo b n n (subG n).g (subG n).o none w) := by
  have hx : 0 ≤ (n : Int) ∧ (n : Int) ≤ 20 := by omega
  obtain ⟨T, hT⟩ : ∃ T, Hid (subS (n + n) [] (spn 0 n) (spn n n) n = T) := ⟨_, Lib.hid rfl⟩
  have hE : Hid (subG n = ⟨T.g, T.o ++ [T.c]⟩) := Lib.hid (by rw [← hT.out]; rfl)
  have hL : Hid (T.o.length = n) := Lib.hid (by rw [← hT.out]; exact subS_o _ _ _ _ _)
  have hK : T.g.length ≤ 6 * n := by rw [← hT.out]; have := subS_g (n + n) [] (spn 0 n) (spn n n) n; simp at this; omega
  rw [hE.out]
  obtain ⟨Tg, To, Tc⟩ := T
  dsimp only at hK hL
  dsimp only
  go_enter Try.func73, Try.ntmps73
  go_wp2_with fail
  have q9 := maker_subtract_any lo b n n [] none A B n c d _ _ w hm ha hb hx hx (by simp) (by omega) hlo
  rw [hT.out] at q9
  refine q9.mono ?_
  clear q9
  rintro e w2 ⟨G2, O2, oc2, rfl, hm2, hv2, ho2⟩
  have hz2 := hv2.size
  have hoA := ho2.alloc_ (.cells #[.int .i64 Tc] 3); have hmA := hm2.alloc_ (.cells #[.int .i64 Tc] 3); have hvA := hv2.alloc_ (.cells #[.int .i64 Tc] 3)
  go_wp2_with (at_builtin; refine wpList_appI _ rfl _ _ rfl rfl hoA.1 rfl (RI_one _ _ _ _ (by simp)) (by omega) (by first | omega | (simp; done) | (simp; omega)) ?_; intro A5 c5 w5 hown5 hg5 hat5 hk5)
  have ho5 := hoA.app hmA hown5 hat5; have hm5 := hmA.app hoA hg5; have hv5 := hvA.app hoA hg5
  have hl5 : Hid ((To ++ [Tc]).length = n + 1) := Lib.hid (by simp [hL.out])
  clear hoA hmA hvA hown5 hg5 hat5 hk5 hm2 ho2 hv2
  go_wp2
  go_ret
  exact RetRow.mk_ hl5.out rfl hm5 hv5 ho5
set_option maxRecDepth 100000 in
set_option maxHeartbeats 1600000 in
theorem Less_1_any (n lo b : Nat) (A B : Option Addr) (c d : Nat) (w : World) (h1 : 1 ≤ n) (h8 : n ≤ 8) (hlo : lo ≤ w.heap.size) (hm : Mk w lo b n n [] none) (ha : RM w b none A n (spn 0 n)) (hb : RM w b none B n (spn n n)) :
    Calls Try.prog 28 #[.pointer (some ⟨b, 0, none⟩), .slice A n c, .slice B n d] w (RetRow lo b n n (lessG n).g (lessG n).o none w) := by
  have hx : 0 ≤ (n : Int) ∧ (n : Int) ≤ 20 := by omega
  obtain ⟨T, hT⟩ : ∃ T, Hid (subS (n + n) [] (spn 0 n) (spn n n) n = T) := ⟨_, Lib.hid rfl⟩
  have hE : Hid (lessG n = ⟨T.g, [T.c]⟩) := Lib.hid (by rw [← hT.out]; rfl)
  have hL : Hid (T.o.length = n) := Lib.hid (by rw [← hT.out]; exact subS_o _ _ _ _ _)
  have hK : T.g.length ≤ 6 * n := by rw [← hT.out]; have := subS_g (n + n) [] (spn 0 n) (spn n n) n; simp at this; omega
  rw [hE.out]
  obtain ⟨Tg, To, Tc⟩ := T
  dsimp only at hK hL
  dsimp only
  go_enter Try.func28, Try.ntmps28
  go_wp2_with fail
  have q9 := maker_subtract_any lo b n n [] none A B n c d _ _ w hm ha hb hx hx (by simp) (by omega) hlo
  rw [hT.out] at q9
  refine q9.mono ?_
  clear q9
  rintro e w2 ⟨G2, O2, oc2, rfl, hm2, hv2, ho2⟩
  have hz2 := hv2.size
  go_wp2
  go_ret
  exact RetRow.mk_ rfl rfl (hm2.alloc_ _) (hv2.alloc_ _) (OM.new1 hm2 Tc hz2)
set_option maxRecDepth 100000 in
set_option maxHeartbeats 1600000 in
theorem Greatest_1_any (n lo b : Nat) (A B : Option Addr) (c d : Nat) (w : World) (h1 : 1 ≤ n) (h8 : n ≤ 8) (hlo : lo ≤ w.heap.size) (hm : Mk w lo b n n [] none) (ha : RM w b none A n (spn 0 n)) (hb : RM w b none B n (spn n n)) :
    Calls Try.prog 24 #[.pointer (some ⟨b, 0, none⟩), .slice A n c, .slice B n d] w (RetRow lo b n n (greatestG n).g (greatestG n).o none w) := by
  have hx : 0 ≤ (n : Int) ∧ (n : Int) ≤ 20 := by omega
  obtain ⟨T, hT⟩ : ∃ T, Hid (subS (n + n) [] (spn 0 n) (spn n n) n = T) := ⟨_, Lib.hid rfl⟩
  have hE : Hid (greatestG n = chs (n + n) T.g T.c (spn n n) (spn 0 n) n) := Lib.hid (by rw [← hT.out]; rfl)
  have hL : Hid (T.o.length = n) := Lib.hid (by rw [← hT.out]; exact subS_o _ _ _ _ _)
  have hK : T.g.length ≤ 6 * n := by rw [← hT.out]; have := subS_g (n + n) [] (spn 0 n) (spn n n) n; simp at this; omega
  rw [hE.out]
  obtain ⟨Tg, To, Tc⟩ := T
  dsimp only at hK hL
  dsimp only
  go_enter Try.func24, Try.ntmps24
  go_wp2_with fail
  have q9 := maker_subtract_any lo b n n [] none A B n c d _ _ w hm ha hb hx hx (by simp) (by omega) hlo
  rw [hT.out] at q9
  refine q9.mono ?_
  clear q9
  rintro e w2 ⟨G2, O2, oc2, rfl, hm2, hv2, ho2⟩
  have hz2 := hv2.size
  have hlk := chs_o (n + n) Tg Tc (spn n n) (spn 0 n) n
  go_wp2_with fail
  refine (maker_choose_any lo b n n Tg G2 B A n d c Tc _ _ _ hm2 (hb.mv hv2) (ha.mv hv2) hx hx (by omega) (by omega) (by omega)).mono ?_
  rintro e w3 hT3
  obtain ⟨G3, O3, oc3, rfl, hm3, hv3, ho3⟩ := hT3.open_ hlk
  go_wp2
  go_ret
  exact RetRow.mk_ hlk rfl hm3 (hv2.trans_ hv3) (ho3.lo_ hz2)
set_option maxRecDepth 100000 in
set_option maxHeartbeats 1600000 in
theorem Equal_1_any (n lo b : Nat) (A B : Option Addr) (c d : Nat) (w : World) (h1 : 1 ≤ n) (h8 : n ≤ 8) (hlo : lo ≤ w.heap.size) (hm : Mk w lo b n n [] none) (ha : RM w b none A n (spn 0 n)) (hb : RM w b none B n (spn n n)) :
    Calls Try.prog 29 #[.pointer (some ⟨b, 0, none⟩), .slice A n c, .slice B n d] w (RetRow lo b n n (equalG n).g (equalG n).o none w) := by
  have hx : 0 ≤ (n : Int) ∧ (n : Int) ≤ 20 := by omega
  obtain ⟨T, hT⟩ : ∃ T, Hid (ands (n + n) (eqs (n + n) [] (spn 0 n) (spn n n) n).o (eqs (n + n) [] (spn 0 n) (spn n n) n).g (n - 1) = T) := ⟨_, Lib.hid rfl⟩
  have hE : Hid (equalG n = ⟨T.1, [T.2]⟩) := Lib.hid (by rw [← hT.out]; rfl)
  rw [hE.out]
  obtain ⟨Tg, Tc⟩ := T
  dsimp only
  go_enter Try.func29, Try.ntmps29
  go_wp2_with fail
  have q9 := maker_equal_any lo b n n [] none A B n c d _ _ w hm ha hb hx hx (by simp) (by omega) hlo h1
  rw [hT.out] at q9
  refine q9.mono ?_
  clear q9
  rintro e w2 ⟨G2, rfl, hm2, hv2⟩
  have hz2 := hv2.size
  go_wp2
  go_ret
  exact RetRow.mk_ rfl rfl (hm2.alloc_ _) (hv2.alloc_ _) (OM.new1 hm2 Tc hz2)
set_option maxHeartbeats 1600000 in
theorem AdderCircuit_any (a : Int) (w : World) : Calls Try.prog 49 #[.int .i64 a] w (RetC w (gadF adderG 8 a)) := by
  have hB : Below w.heap.size w (w.alloc (.cells #[.int .i64 0, .int .i64 0, .slice none 0 0, .slice none 0 0] 28)) := (Below.refl _ _).alloc (Nat.le_refl _) _
  have hx0 : BxC (w.alloc (.cells #[.int .i64 0, .int .i64 0, .slice none 0 0, .slice none 0 0] 28)) w.heap.size 0 0 none 0 0 none 0 0 := BxC.new w _
  obtain ⟨R, hR⟩ : ∃ R, Hid (gadF adderG 8 a = R) := ⟨_, Lib.hid rfl⟩
  rw [hR.out]
  obtain ⟨x, y, gs, os, hQ⟩ : ∃ x y gs os, Hid (R.getD ⟨0, 0, [], []⟩ = ⟨x, y, gs, os⟩) := ⟨_, _, _, _, Lib.hid rfl⟩
  obtain ⟨t, ht⟩ : ∃ t, Hid (R.isSome = t) := ⟨_, Lib.hid rfl⟩
  go_enter Try.func49, Try.ntmps49
  go_wp2_with fail
  refine (gadget_any 71 Try.call71 adderG a _ adderG_ok (Lib.hid fun n lo b A B c d w1 h1 h8 hlo hm ha hb => Adder_1_any n lo b A B c d w1 h1 h8 hlo hm ha hb)).mono ?_
  rintro e w1 hT
  rw [hR.out] at hT
  obtain ⟨Ag, cg, Ao, co, rfl, hw1, hb1⟩ := hT.to hQ.out ht.out
  have hx1 := hx0.below hb1
  have f1 : Fz w1 w.heap.size := (Fz.new w _ _).below hb1 (by simp)
  have g0 := f1 0; have g1 := f1 1; have g2 := f1 2; have g3 := f1 3
  have hy1 := hx1; obtain ⟨l0, l1, l2, l3⟩ := hy1
  have hB1 := hB.trans (hb1.mono hB.size)
  simp only [World.size_alloc] at hw1
  go_wp2
  have hq9 := BxC.set4 (hx1) x y Ag gs.length cg Ao os.length co
  obtain ⟨q0, q1, q2, q3⟩ := hq9
  refine bodyPost_ret (v := .tuple #[.agg #[.int .i64 x, .int .i64 y, .slice Ag gs.length cg, .slice Ao os.length co], .bool t]) (by simp [results, Try.results49, go_sem, q0, q1, q2, q3]) rfl ?_
  exact RetC.of hQ.out ht.out rfl (by rw [set4_size]; exact ((hw1.set4 (.inl (by omega)) _ _ _ _ _ _ _ _).lo_ (by omega))) (below_set4 hB1 (Nat.le_refl _) _ _ _ _ _ _ _ _)
set_option maxHeartbeats 1600000 in
theorem SubtractCircuit_any (a : Int) (w : World) : Calls Try.prog 50 #[.int .i64 a] w (RetC w (gadF subG 8 a)) := by
  have hB : Below w.heap.size w (w.alloc (.cells #[.int .i64 0, .int .i64 0, .slice none 0 0, .slice none 0 0] 28)) := (Below.refl _ _).alloc (Nat.le_refl _) _
  have hx0 : BxC (w.alloc (.cells #[.int .i64 0, .int .i64 0, .slice none 0 0, .slice none 0 0] 28)) w.heap.size 0 0 none 0 0 none 0 0 := BxC.new w _
  obtain ⟨R, hR⟩ : ∃ R, Hid (gadF subG 8 a = R) := ⟨_, Lib.hid rfl⟩
  rw [hR.out]
  obtain ⟨x, y, gs, os, hQ⟩ : ∃ x y gs os, Hid (R.getD ⟨0, 0, [], []⟩ = ⟨x, y, gs, os⟩) := ⟨_, _, _, _, Lib.hid rfl⟩
  obtain ⟨t, ht⟩ : ∃ t, Hid (R.isSome = t) := ⟨_, Lib.hid rfl⟩
  go_enter Try.func50, Try.ntmps50
  go_wp2_with fail
  refine (gadget_any 73 Try.call73 subG a _ subG_ok (Lib.hid fun n lo b A B c d w1 h1 h8 hlo hm ha hb => Subtract_1_any n lo b A B c d w1 h1 h8 hlo hm ha hb)).mono ?_
  rintro e w1 hT
  rw [hR.out] at hT
  obtain ⟨Ag, cg, Ao, co, rfl, hw1, hb1⟩ := hT.to hQ.out ht.out
  have hx1 := hx0.below hb1
  have f1 : Fz w1 w.heap.size := (Fz.new w _ _).below hb1 (by simp)
  have g0 := f1 0; have g1 := f1 1; have g2 := f1 2; have g3 := f1 3
  have hy1 := hx1; obtain ⟨l0, l1, l2, l3⟩ := hy1
  have hB1 := hB.trans (hb1.mono hB.size)
  simp only [World.size_alloc] at hw1
  go_wp2
  have hq9 := BxC.set4 (hx1) x y Ag gs.length cg Ao os.length co
  obtain ⟨q0, q1, q2, q3⟩ := hq9
  refine bodyPost_ret (v := .tuple #[.agg #[.int .i64 x, .int .i64 y, .slice Ag gs.length cg, .slice Ao os.length co], .bool t]) (by simp [results, Try.results50, go_sem, q0, q1, q2, q3]) rfl ?_
  exact RetC.of hQ.out ht.out rfl (by rw [set4_size]; exact ((hw1.set4 (.inl (by omega)) _ _ _ _ _ _ _ _).lo_ (by omega))) (below_set4 hB1 (Nat.le_refl _) _ _ _ _ _ _ _ _)
set_option maxHeartbeats 1600000 in
theorem LessCircuit_any (a : Int) (w : World) : Calls Try.prog 8 #[.int .i64 a] w (RetC w (gadF lessG 8 a)) := by
  have hB : Below w.heap.size w (w.alloc (.cells #[.int .i64 0, .int .i64 0, .slice none 0 0, .slice none 0 0] 28)) := (Below.refl _ _).alloc (Nat.le_refl _) _
  have hx0 : BxC (w.alloc (.cells #[.int .i64 0, .int .i64 0, .slice none 0 0, .slice none 0 0] 28)) w.heap.size 0 0 none 0 0 none 0 0 := BxC.new w _
  obtain ⟨R, hR⟩ : ∃ R, Hid (gadF lessG 8 a = R) := ⟨_, Lib.hid rfl⟩
  rw [hR.out]
  obtain ⟨x, y, gs, os, hQ⟩ : ∃ x y gs os, Hid (R.getD ⟨0, 0, [], []⟩ = ⟨x, y, gs, os⟩) := ⟨_, _, _, _, Lib.hid rfl⟩
  obtain ⟨t, ht⟩ : ∃ t, Hid (R.isSome = t) := ⟨_, Lib.hid rfl⟩
  go_enter Try.func8, Try.ntmps8
  go_wp2_with fail
  refine (gadget_any 28 Try.call28 lessG a _ lessG_ok (Lib.hid fun n lo b A B c d w1 h1 h8 hlo hm ha hb => Less_1_any n lo b A B c d w1 h1 h8 hlo hm ha hb)).mono ?_
  rintro e w1 hT
  rw [hR.out] at hT
  obtain ⟨Ag, cg, Ao, co, rfl, hw1, hb1⟩ := hT.to hQ.out ht.out
  have hx1 := hx0.below hb1
  have f1 : Fz w1 w.heap.size := (Fz.new w _ _).below hb1 (by simp)
  have g0 := f1 0; have g1 := f1 1; have g2 := f1 2; have g3 := f1 3
  have hy1 := hx1; obtain ⟨l0, l1, l2, l3⟩ := hy1
  have hB1 := hB.trans (hb1.mono hB.size)
  simp only [World.size_alloc] at hw1
  go_wp2
  have hq9 := BxC.set4 (hx1) x y Ag gs.length cg Ao os.length co
  obtain ⟨q0, q1, q2, q3⟩ := hq9
  refine bodyPost_ret (v := .tuple #[.agg #[.int .i64 x, .int .i64 y, .slice Ag gs.length cg, .slice Ao os.length co], .bool t]) (by simp [results, Try.results8, go_sem, q0, q1, q2, q3]) rfl ?_
  exact RetC.of hQ.out ht.out rfl (by rw [set4_size]; exact ((hw1.set4 (.inl (by omega)) _ _ _ _ _ _ _ _).lo_ (by omega))) (below_set4 hB1 (Nat.le_refl _) _ _ _ _ _ _ _ _)
set_option maxHeartbeats 1600000 in
theorem EqualCircuit_any (a : Int) (w : World) : Calls Try.prog 10 #[.int .i64 a] w (RetC w (gadF equalG 8 a)) := by
  have hB : Below w.heap.size w (w.alloc (.cells #[.int .i64 0, .int .i64 0, .slice none 0 0, .slice none 0 0] 28)) := (Below.refl _ _).alloc (Nat.le_refl _) _
  have hx0 : BxC (w.alloc (.cells #[.int .i64 0, .int .i64 0, .slice none 0 0, .slice none 0 0] 28)) w.heap.size 0 0 none 0 0 none 0 0 := BxC.new w _
  obtain ⟨R, hR⟩ : ∃ R, Hid (gadF equalG 8 a = R) := ⟨_, Lib.hid rfl⟩
  rw [hR.out]
  obtain ⟨x, y, gs, os, hQ⟩ : ∃ x y gs os, Hid (R.getD ⟨0, 0, [], []⟩ = ⟨x, y, gs, os⟩) := ⟨_, _, _, _, Lib.hid rfl⟩
  obtain ⟨t, ht⟩ : ∃ t, Hid (R.isSome = t) := ⟨_, Lib.hid rfl⟩
  go_enter Try.func10, Try.ntmps10
  go_wp2_with fail
  refine (gadget_any 29 Try.call29 equalG a _ equalG_ok (Lib.hid fun n lo b A B c d w1 h1 h8 hlo hm ha hb => Equal_1_any n lo b A B c d w1 h1 h8 hlo hm ha hb)).mono ?_
  rintro e w1 hT
  rw [hR.out] at hT
  obtain ⟨Ag, cg, Ao, co, rfl, hw1, hb1⟩ := hT.to hQ.out ht.out
  have hx1 := hx0.below hb1
  have f1 : Fz w1 w.heap.size := (Fz.new w _ _).below hb1 (by simp)
  have g0 := f1 0; have g1 := f1 1; have g2 := f1 2; have g3 := f1 3
  have hy1 := hx1; obtain ⟨l0, l1, l2, l3⟩ := hy1
  have hB1 := hB.trans (hb1.mono hB.size)
  simp only [World.size_alloc] at hw1
  go_wp2
  have hq9 := BxC.set4 (hx1) x y Ag gs.length cg Ao os.length co
  obtain ⟨q0, q1, q2, q3⟩ := hq9
  refine bodyPost_ret (v := .tuple #[.agg #[.int .i64 x, .int .i64 y, .slice Ag gs.length cg, .slice Ao os.length co], .bool t]) (by simp [results, Try.results10, go_sem, q0, q1, q2, q3]) rfl ?_
  exact RetC.of hQ.out ht.out rfl (by rw [set4_size]; exact ((hw1.set4 (.inl (by omega)) _ _ _ _ _ _ _ _).lo_ (by omega))) (below_set4 hB1 (Nat.le_refl _) _ _ _ _ _ _ _ _)
set_option maxHeartbeats 1600000 in
theorem GreatestCircuit_any (a : Int) (w : World) : Calls Try.prog 6 #[.int .i64 a] w (RetC w (gadF greatestG 8 a)) := by
  have hB : Below w.heap.size w (w.alloc (.cells #[.int .i64 0, .int .i64 0, .slice none 0 0, .slice none 0 0] 28)) := (Below.refl _ _).alloc (Nat.le_refl _) _
  have hx0 : BxC (w.alloc (.cells #[.int .i64 0, .int .i64 0, .slice none 0 0, .slice none 0 0] 28)) w.heap.size 0 0 none 0 0 none 0 0 := BxC.new w _
  obtain ⟨R, hR⟩ : ∃ R, Hid (gadF greatestG 8 a = R) := ⟨_, Lib.hid rfl⟩
  rw [hR.out]
  obtain ⟨x, y, gs, os, hQ⟩ : ∃ x y gs os, Hid (R.getD ⟨0, 0, [], []⟩ = ⟨x, y, gs, os⟩) := ⟨_, _, _, _, Lib.hid rfl⟩
  obtain ⟨t, ht⟩ : ∃ t, Hid (R.isSome = t) := ⟨_, Lib.hid rfl⟩
  go_enter Try.func6, Try.ntmps6
  go_wp2_with fail
  refine (gadget_any 24 Try.call24 greatestG a _ greatestG_ok (Lib.hid fun n lo b A B c d w1 h1 h8 hlo hm ha hb => Greatest_1_any n lo b A B c d w1 h1 h8 hlo hm ha hb)).mono ?_
  rintro e w1 hT
  rw [hR.out] at hT
  obtain ⟨Ag, cg, Ao, co, rfl, hw1, hb1⟩ := hT.to hQ.out ht.out
  have hx1 := hx0.below hb1
  have f1 : Fz w1 w.heap.size := (Fz.new w _ _).below hb1 (by simp)
  have g0 := f1 0; have g1 := f1 1; have g2 := f1 2; have g3 := f1 3
  have hy1 := hx1; obtain ⟨l0, l1, l2, l3⟩ := hy1
  have hB1 := hB.trans (hb1.mono hB.size)
  simp only [World.size_alloc] at hw1
  go_wp2
  have hq9 := BxC.set4 (hx1) x y Ag gs.length cg Ao os.length co
  obtain ⟨q0, q1, q2, q3⟩ := hq9
  refine bodyPost_ret (v := .tuple #[.agg #[.int .i64 x, .int .i64 y, .slice Ag gs.length cg, .slice Ao os.length co], .bool t]) (by simp [results, Try.results6, go_sem, q0, q1, q2, q3]) rfl ?_
  exact RetC.of hQ.out ht.out rfl (by rw [set4_size]; exact ((hw1.set4 (.inl (by omega)) _ _ _ _ _ _ _ _).lo_ (by omega))) (below_set4 hB1 (Nat.le_refl _) _ _ _ _ _ _ _ _)
set_option maxRecDepth 100000 in
set_option maxHeartbeats 4000000 in
theorem ChooseCircuit_any (a : Int) (w : World) : Calls Try.prog 12 #[.int .i64 a] w (RetC w (chooseF a)) := by
  have hB : Below w.heap.size w (w.alloc (.cells #[.int .i64 0, .int .i64 0, .slice none 0 0, .slice none 0 0] 28)) := (Below.refl _ _).alloc (Nat.le_refl _) _
  have hx0 : BxC (w.alloc (.cells #[.int .i64 0, .int .i64 0, .slice none 0 0, .slice none 0 0] 28)) w.heap.size 0 0 none 0 0 none 0 0 := BxC.new w _
  cases h0 : inB 1 8 a with
  | false =>
    have HR : Hid (chooseF a = none) := Lib.hid (by simp [chooseF, h0])
    have H0 := Lib.hid h0; clear h0
    go_enter Try.func12, Try.ntmps12
    go_wp2_with fail
    refine (isOperand_any a _).mono ?_
    rintro e w1 ⟨rfl, rfl⟩
    rw [H0.out]
    go_wp2
    have hq9 := BxC.set4 (hx0) 0 0 none 0 0 none 0 0
    obtain ⟨q0, q1, q2, q3⟩ := hq9
    refine bodyPost_ret (v := .tuple #[.agg #[.int .i64 0, .int .i64 0, .slice none 0 0, .slice none 0 0], .bool false]) (by simp [results, Try.results12, go_sem, q0, q1, q2, q3]) rfl ?_
    exact RetC.none_ hB HR.out rfl
  | true =>
    have hab := inB_iff.1 h0
    obtain ⟨n, rfl⟩ : ∃ n : Nat, a = n := ⟨a.toNat, by omega⟩
    have h1 : 1 ≤ n := by omega
    have h8 : n ≤ 8 := by omega
    have HR : Hid (chooseF (n : Int) = some ⟨2 * n, 1, (chooseG n).g, (chooseG n).o⟩) := Lib.hid (by simp [chooseF, h0])
    have H0 := Lib.hid h0; clear h0 hab
    have HOK : Hid (circB (2 * (n : Int)) 1 (chooseG n).g (chooseG n).o = true) := Lib.hid (chooseG_ok n h1 h8)
    have HF : ∀ (lo b : Nat) (A B : Option Addr) (c d : Nat) (w1 : World), lo ≤ w1.heap.size → Mk w1 lo b (2 * (n : Int)) 1 [] none → RM w1 b none A n (spn 0 n) → RM w1 b none B n (spn n n) →
        Calls Try.prog 26 #[.pointer (some ⟨b, 0, none⟩), .int .i64 (2 * (n : Int)), .slice A n c, .slice B n d] w1 (RetRow lo b (2 * (n : Int)) 1 (chooseG n).g (chooseG n).o none w1) :=
      fun lo b A B c d w1 hlo hm ha hb => maker_choose_any lo b (2 * (n : Int)) 1 [] none A B n c d _ _ _ _ hm ha hb (by omega) (by omega) (by simp) (by omega) hlo
    have HF := Lib.hid HF
    have hl : (chooseG n).g.length ≤ 300 ∧ (chooseG n).o.length ≤ 40 := by have := circB_bd HOK.out; omega
    generalize chooseG n = T at *
    have hl3 := spn_len 0 n
    have hl4 := spn_len n n
    obtain ⟨gs, os⟩ := T
    dsimp only at hl
    obtain ⟨m, hm⟩ : ∃ m, Hid (os.length = m) := ⟨_, Lib.hid rfl⟩
    have hm0 := Mk.new (w.alloc (.cells #[.int .i64 0, .int .i64 0, .slice none 0 0, .slice none 0 0] 28)) (w.heap.size + 1) (2 * (n : Int)) 1 48
    have hB2 := hB.alloc hB.size (.cells #[.int .i64 (2 * (n : Int)), .int .i64 1, .slice none 0 0, .slice none 0 0] 48)
    have hx2 := hx0.below ((Below.refl _ _).alloc (Nat.le_refl _) (.cells #[.int .i64 (2 * (n : Int)), .int .i64 1, .slice none 0 0, .slice none 0 0] 48))
    simp only [World.size_alloc] at hm0
    go_enter Try.func12, Try.ntmps12
    go_wp2_with fail
    refine (isOperand_any n _).mono ?_
    rintro e w1 ⟨rfl, rfl⟩
    rw [H0.out]
    go_wp2_with fail
    refine (span_any 0 n _ (by omega) (by omega)).mono ?_
    rintro e w3 hT
    obtain ⟨A3, c3, rfl, hown3, hb3⟩ := hT.open_ hl3
    have hx3 := hx2.below hb3
    have hm3 := hm0.below_ hb3 (Nat.le_refl _)
    have hB3 := hB2.trans (hb3.mono hB2.size)
    go_wp2_with fail
    refine (span_any n n _ (by omega) (by omega)).mono ?_
    rintro e w4 hT
    obtain ⟨A4, c4, rfl, hown4, hb4⟩ := hT.open_ hl4
    have hx4 := hx3.below hb4
    have hm4 := hm3.below_ hb4 (Nat.le_refl _)
    have hB4 := hB3.trans (hb4.mono hB3.size)
    have hr3 := RM.ofOwn (b := w.heap.size + 1) (hown3.below hb4 (.inl (Nat.le_refl _))) (by simp)
    have hz3 := hb3.size
    simp only [World.size_alloc] at hz3
    have hr4 := RM.ofOwn (b := w.heap.size + 1) hown4 (by omega)
    have hz4 := hB4.size
    have hz4' := hb4.size
    clear hx0 hx2 hx3 hm0 hm3 hB hB2 hB3 hown3 hown4
    go_wp2_with fail
    refine (HF.out (w.heap.size + 1) (w.heap.size + 1) A3 A4 c3 c4 w4 (by omega) hm4 hr3 hr4).mono ?_
    rintro e w5 hT
    obtain ⟨G5, O5, oc5, rfl, hm5, hv5, ho5⟩ := hT.open_ hm.out
    have hx5 : BxC w5 w.heap.size 0 0 none 0 0 none 0 0 := ⟨hv5.cellF hx4.1 ⟨by simp, by simp⟩, hv5.cellF hx4.2.1 ⟨by simp, by simp⟩, hv5.cellF hx4.2.2.1 ⟨by simp, by simp⟩, hv5.cellF hx4.2.2.2 ⟨by simp, by simp⟩⟩
    have hB5 := hv5.toBelow hB4 (by omega) (by simp) hz4
    obtain ⟨Ag, cg, hx6, hx7, hw7, hfz⟩ := hm5.circuit ho5 (by omega)
    have hB7 := hB5.setCell (p := ⟨w.heap.size + 1, 3, none⟩) (by show w.heap.size ≤ w.heap.size + 1; omega) (.slice O5 m oc5)
    have hx8 : BxC (w5.setCell ⟨w.heap.size + 1, 3, none⟩ (.slice O5 m oc5)) w.heap.size 0 0 none 0 0 none 0 0 := ⟨(World.cell?_setCell_other _ _ _ _ (by simp)).trans hx5.1, (World.cell?_setCell_other _ _ _ _ (by simp)).trans hx5.2.1, (World.cell?_setCell_other _ _ _ _ (by simp)).trans hx5.2.2.1, (World.cell?_setCell_other _ _ _ _ (by simp)).trans hx5.2.2.2⟩
    obtain ⟨i0, i1, i2, i3⟩ := hx7
    obtain ⟨j0, j1, j2, j3⟩ := hx6
    clear hm5 ho5 hx5 hx4 hm4 hr3 hr4
    have hmo := hm.out
    go_wp2_with fail
    refine (valid_t (2 * (n : Int)) 1 Ag gs.length cg O5 m oc5 gs os _ hw7.reads.1 hw7.reads.2 (by omega) (by omega) HOK.out).mono ?_
    rintro e w8 ⟨rfl, hb8⟩
    have hB8 := hB7.trans (hb8.mono hB7.size)
    have f8 : Fz w8 w.heap.size := ((((((Fz.new w _ _).below ((Below.refl _ _).alloc (Nat.le_refl _) (.cells #[.int .i64 (2 * (n : Int)), .int .i64 1, .slice none 0 0, .slice none 0 0] 48)) (by simp)).below hb3 (by simp; omega)).below hb4 (by omega)).mv hv5 (by omega) ⟨by simp, by simp⟩).set _ _).below hb8 (by simp; have := hv5.size; omega)
    have g0 := f8 0; have g1 := f8 1; have g2 := f8 2; have g3 := f8 3
    have hx9 := hx8.below hb8
    have hy9 := hx9; obtain ⟨l0, l1, l2, l3⟩ := hy9
    have hw8 := (hw7.below hb8 (.inl (Nat.le_refl _))).hi_ (show w5.heap.size ≤ w8.heap.size by simpa using hb8.size)
    go_wp2
    have hq9 := BxC.set4 (hx9) (2*(n:Int)) 1 Ag gs.length cg O5 m oc5
    obtain ⟨q0, q1, q2, q3⟩ := hq9
    refine bodyPost_ret (v := .tuple #[.agg #[.int .i64 (2*(n:Int)), .int .i64 1, .slice Ag gs.length cg, .slice O5 m oc5], .bool true]) (by simp [results, Try.results12, go_sem, q0, q1, q2, q3]) rfl ?_
    exact RetC.some_ (below_set4 hB8 (Nat.le_refl _) _ _ _ _ _ _ _ _) HR.out rfl hm.out rfl (by rw [set4_size]; exact ((hw8.set4 (.inl (by omega)) _ _ _ _ _ _ _ _).lo_ (by omega)))
end Go.Proofs.Ytliicemcdfidmaa
