/- Contracts of gadgets. Contracts of the values of an arithmetic circuit's wires, and of the elements of a list at places. Contracts of ArithValues and EvalArith, of the program and of the reference. Contracts: an arithmetic circuit of one's own; AddOut. -/
import Derived.Test.YtimmjppkaadggaaQP07
import Derived.Test.YtimmjppkaadggaaQP05
namespace Go.Proofs.Ytimmjppkaadggaa
open Go.RowKit
set_option linter.unusedVariables false
set_option linter.unusedSimpArgs false
theorem RM.ofOwn {w : World} {lo hi b n c : Nat} {A : Option Addr} {xs : List Int} (h : Own w lo hi (.slice A n c) n xs) (hb : b < lo) : RM w b none A n xs := by
  refine ⟨h.reads, fun hn k o hA => ⟨?_, by simp⟩⟩
  obtain ⟨g, hg, h1, _⟩ := h.some_ hn
  rw [hA] at hg
  simp only [Option.some.injEq, Addr.mk.injEq, and_true] at hg
  omega
theorem Own.far1 {w : World} {lo hi n : Nat} {v : Value} {xs : List Int} (h : Own w lo hi v n xs) (p : Addr) (u : Value) (hp : v.ownBlock ≠ some p.block) : Own (w.setCell p u) lo hi v n xs := by
  refine ⟨⟨h.1.1, ?_⟩, h.2⟩
  rcases h.1.2 with h1 | ⟨g, cap, cur, rfl, hlo, hg, r⟩
  · exact .inl h1
  · refine .inr ⟨g, cap, cur, rfl, hlo, ?_, r⟩
    have hne : g ≠ p.block := fun hc => hp (by simp [Value.ownBlock, hc])
    rw [Below.heap_setCell w p u g hne]; exact hg
def Fz (w : World) (b : Nat) : Prop := ∀ q, w.frozen? ⟨b, q, none⟩ = false
theorem Fz.new (w : World) (c : Array Value) (t : TypeId) : Fz (w.alloc (.cells c t)) w.heap.size := fun q => World.frozen?_alloc_at _ _ _ _ rfl
theorem Fz.below {w w' : World} {b B : Nat} (h : Fz w b) (k : Below B w w') (hb : b < B) : Fz w' b := fun q => (k.frozen (p := ⟨b, q, none⟩) hb).trans (h q)
theorem Fz.mv {w w' : World} {b c : Nat} {G G' : Option Nat} (h : Fz w b) (k : Mv c G G' w w') (hb : b < w.heap.size) (hf : OffB c G b) : Fz w' b := fun q => (World.frozen?_of_block (w := w) (a := ⟨b, q, none⟩) (k.block b hb (And.left hf) (And.right hf))).trans (h q)
theorem Fz.set {w : World} {b : Nat} (h : Fz w b) (p : Addr) (v : Value) : Fz (w.setCell p v) b := fun q => (World.frozen?_setCell _ _ _ _).trans (h q)
theorem Mk.circuit {w : World} {lo lo2 b m oc : Nat} {x y : Int} {gs : List G3} {os : List Int} {G : Option Nat} {O : Option Addr} (hm : Mk w lo b x y gs G) (ho : OM w b G lo2 (.slice O m oc) m os) (hl : lo ≤ lo2) :
    ∃ Ag cg, BxC w b x y Ag gs.length cg none 0 0 ∧ BxC (w.setCell ⟨b, 3, none⟩ (.slice O m oc)) b x y Ag gs.length cg O m oc ∧ OwnC (w.setCell ⟨b, 3, none⟩ (.slice O m oc)) lo w.heap.size Ag gs.length cg O m oc gs os ∧ w.frozen? ⟨b, 3, none⟩ = false := by
  obtain ⟨h1, h2, hf, Ag, cg, hx, hg, rfl⟩ := hm
  have hne : (Value.slice O m oc).ownBlock ≠ some b := fun hc => (ho.2 b hc).1 rfl
  exact ⟨Ag, cg, hx, hx.setO O m oc, ⟨hg.far1 _ _ h2, (ho.1.lo_ hl).far1 _ _ hne, fun g hg ho' => (ho.2 g ho').2 hg⟩, hf 3⟩
theorem Mk.size {w : World} {lo b : Nat} {x y : Int} {gs : List G3} {G : Option Nat} (hm : Mk w lo b x y gs G) : b < w.heap.size := hm.1
def RetCi (w : World) (x y : Int) (gs : List G3) (os : List Int) (e : Ending) (w' : World) : Prop :=
  ∃ Ag cg Ao co, e = .returned (.agg #[.int .i64 x, .int .i64 y, .slice Ag gs.length cg, .slice Ao os.length co]) ∧ OwnC w' w.heap.size w'.heap.size Ag gs.length cg Ao os.length co gs os ∧ Below w.heap.size w w'
theorem RetCi.mk_ {w : World} {x y : Int} {gs : List G3} {os : List Int} {e : Ending} {w' : World} {Ag Ao : Option Addr} {cg m co : Nat} (hm : os.length = m) (he : e = .returned (.agg #[.int .i64 x, .int .i64 y, .slice Ag gs.length cg, .slice Ao m co])) (hw : OwnC w' w.heap.size w'.heap.size Ag gs.length cg Ao m co gs os) (hb : Below w.heap.size w w') : RetCi w x y gs os e w' := by
  subst hm; exact ⟨Ag, cg, Ao, co, he, hw, hb⟩
def RIn (w : World) (lo hi : Nat) (A : Option Addr) (n : Nat) (xs : List Int) : Prop := RI w A n xs ∧ (0 < n → ∀ k o, A = some ⟨k, o, none⟩ → lo ≤ k ∧ k < hi)
def OwnCr (w : World) (lo hi : Nat) (Ag : Option Addr) (ng cg : Nat) (Ao : Option Addr) (no co : Nat) (gs : List G3) (os : List Int) : Prop :=
  OwnG w lo hi (.slice Ag ng cg) ng gs ∧ RIn w lo hi Ao no os
section
variable {w w' : World} {lo hi : Nat} {Ag : Option Addr} {ng cg : Nat} {Ao : Option Addr} {no co : Nat} {gs : List G3} {os : List Int}
theorem RIn.below {B : Nat} (h : RIn w lo hi Ao no os) (hb : Below B w w') (hB : w.heap.size ≤ B ∨ hi ≤ B) : RIn w' lo hi Ao no os := by
  refine ⟨⟨h.1.1, fun hn => ?_⟩, h.2⟩
  obtain ⟨b, o, hA, hlt, hc⟩ := h.1.2 hn
  have hk := h.2 hn b o hA
  exact ⟨b, o, hA, Nat.lt_of_lt_of_le hlt hb.size, fun j hj => (hb.cell (p := ⟨b, o + j, none⟩) (by show b < B; omega)).trans (hc j hj)⟩
theorem RIn.chg {lo' hi' : Nat} (h : RIn w lo hi Ao no os) (k : Chg lo' hi' w w') (hd : hi ≤ lo' ∨ hi' ≤ lo) : RIn w' lo hi Ao no os := by
  refine ⟨⟨h.1.1, fun hn => ?_⟩, h.2⟩
  obtain ⟨b, o, hA, hlt, hc⟩ := h.1.2 hn
  have hk := h.2 hn b o hA
  exact ⟨b, o, hA, Nat.lt_of_lt_of_le hlt k.size, fun j hj => cell_chg (hc j hj) k (by show b < lo' ∨ hi' ≤ b; omega)⟩
theorem OwnCr.below {B : Nat} (h : OwnCr w lo hi Ag ng cg Ao no co gs os) (hb : Below B w w') (hB : w.heap.size ≤ B ∨ hi ≤ B) : OwnCr w' lo hi Ag ng cg Ao no co gs os := ⟨h.1.below hb hB, h.2.below hb hB⟩
theorem OwnCr.chg {lo' hi' : Nat} (h : OwnCr w lo hi Ag ng cg Ao no co gs os) (k : Chg lo' hi' w w') (hd : hi ≤ lo' ∨ hi' ≤ lo) : OwnCr w' lo hi Ag ng cg Ao no co gs os := ⟨h.1.chg k hd, h.2.chg k hd⟩
theorem OwnCr.reads (h : OwnCr w lo hi Ag ng cg Ao no co gs os) : RG w Ag ng gs ∧ RI w Ao no os := ⟨h.1.reads, h.2.1⟩
theorem OwnCr.lo_ {lo' : Nat} (h : OwnCr w lo hi Ag ng cg Ao no co gs os) (hl : lo' ≤ lo) : OwnCr w lo' hi Ag ng cg Ao no co gs os := ⟨h.1.lo_ hl, h.2.1, fun hn k o hA => ⟨Nat.le_trans hl (h.2.2 hn k o hA).1, (h.2.2 hn k o hA).2⟩⟩
theorem OwnC.toR (h : OwnC w lo hi Ag ng cg Ao no co gs os) : OwnCr w lo hi Ag ng cg Ao no co gs os := by
  refine ⟨h.1, h.2.1.reads, fun hn k o hA => ?_⟩
  obtain ⟨g, hg, h1, h2, _⟩ := h.2.1.some_ hn
  rw [hA] at hg
  simp only [Option.some.injEq, Addr.mk.injEq, and_true] at hg
  omega
end
theorem isOperand_any (a : Int) (w : World) : Calls Try.prog 72 #[.int .i64 a] w fun e w' => e = .returned (.bool (inB 1 8 a)) ∧ w = w' := by
  go_enter Try.func72, Try.ntmps72
  go_wp2_with fail
  refine (within_any a 1 8 _ rfl _).mono ?_
  rintro e w1 ⟨rfl, rfl⟩
  go_wp2
  go_ret
  exact ⟨rfl, rfl⟩
theorem gdWidth_any (a : Int) (w : World) : Calls Try.prog 58 #[.int .i64 a] w fun e w' => e = .returned (.bool (inB 1 8 a)) ∧ w = w' := by
  go_enter Try.func58, Try.ntmps58
  go_wp2_with fail
  refine (l1In_any a 1 8 _ rfl _).mono ?_
  rintro e w1 ⟨rfl, rfl⟩
  go_wp2
  go_ret
  exact ⟨rfl, rfl⟩
theorem ciNew_any (x y : Int) (w : World) : Calls Try.prog 51 #[.int .i64 x, .int .i64 y] w fun e w' => e = .returned (.pointer (some ⟨w.heap.size, 0, none⟩)) ∧ w.alloc (.cells #[.int .i64 x, .int .i64 y, .slice none 0 0, .slice none 0 0] 72) = w' := by
  go_enter Try.func51, Try.ntmps51
  go_wp2
  go_ret
  exact ⟨rfl, rfl⟩
set_option maxRecDepth 100000 in
set_option maxHeartbeats 4000000 in
theorem gadget_any (f : FuncId) (hcf : ∀ args w, Sem.run Try.prog (callFunc f args) w = .ok (.enter f args) w) (F : Nat → Go2) (a : Int) (w : World)
    (hok : ∀ n : Nat, 1 ≤ n → n ≤ 8 → circB (n : Nat) (n : Nat) (F n).g (F n).o = true)
    (hf : Hid (∀ (n lo b : Nat) (A B : Option Addr) (c d : Nat) (w1 : World), 1 ≤ n → n ≤ 8 → lo ≤ w1.heap.size → Mk w1 lo b n n [] none → RM w1 b none A n (spn 0 n) → RM w1 b none B n (spn n n) →
      Calls Try.prog f #[.pointer (some ⟨b, 0, none⟩), .slice A n c, .slice B n d] w1 (RetRow lo b n n (F n).g (F n).o none w1))) :
    Calls Try.prog 39 #[.int .i64 a, .func (.func f) #[] #[]] w (RetC w (gadF F 8 a)) := by
  have hB : Below w.heap.size w (w.alloc (.cells #[.int .i64 0, .int .i64 0, .slice none 0 0, .slice none 0 0] 27)) := (Below.refl _ _).alloc (Nat.le_refl _) _
  have hx0 : BxC (w.alloc (.cells #[.int .i64 0, .int .i64 0, .slice none 0 0, .slice none 0 0] 27)) w.heap.size 0 0 none 0 0 none 0 0 := BxC.new w _
  cases h0 : inB 1 8 a with
  | false =>
    have HR : Hid (gadF F 8 a = none) := Lib.hid (by simp [gadF, h0])
    have H0 := Lib.hid h0; clear h0
    go_enter Try.func39, Try.ntmps39
    go_wp2_with fail
    refine (isOperand_any a _).mono ?_
    rintro e w1 ⟨rfl, rfl⟩
    rw [H0.out]
    go_wp2
    have hq9 := BxC.set4 (hx0) 0 0 none 0 0 none 0 0
    obtain ⟨q0, q1, q2, q3⟩ := hq9
    refine bodyPost_ret (v := .tuple #[.agg #[.int .i64 0, .int .i64 0, .slice none 0 0, .slice none 0 0], .bool false]) (by simp [results, Try.results39, go_sem, q0, q1, q2, q3]) rfl ?_
    exact RetC.none_ hB HR.out rfl
  | true =>
    have hab := inB_iff.1 h0
    obtain ⟨n, rfl⟩ : ∃ n : Nat, a = n := ⟨a.toNat, by omega⟩
    have h1 : 1 ≤ n := by omega
    have h8 : n ≤ 8 := by omega
    have HR : Hid (gadF F 8 (n : Int) = some ⟨n, n, (F n).g, (F n).o⟩) := Lib.hid (by simp [gadF, h0])
    have H0 := Lib.hid h0; clear h0 hab
    have HOK := Lib.hid (hok n h1 h8)
    have HF := Lib.hid (fun lo b A B c d w1 => hf.out n lo b A B c d w1 h1 h8)
    have hl3 := spn_len 0 n
    have hl4 := spn_len n n
    clear hf hok
    have hl : (F n).g.length ≤ 300 ∧ (F n).o.length ≤ 40 := by have := circB_bd HOK.out; omega
    generalize F n = T at *
    obtain ⟨gs, os⟩ := T
    dsimp only at hl
    obtain ⟨m, hm⟩ : ∃ m, Hid (os.length = m) := ⟨_, Lib.hid rfl⟩
    have hm0 := Mk.new (w.alloc (.cells #[.int .i64 0, .int .i64 0, .slice none 0 0, .slice none 0 0] 27)) (w.heap.size + 1) (n : Int) (n : Int) 66
    have hB2 := hB.alloc hB.size (.cells #[.int .i64 n, .int .i64 n, .slice none 0 0, .slice none 0 0] 66)
    have hx2 := hx0.below ((Below.refl _ _).alloc (Nat.le_refl _) (.cells #[.int .i64 n, .int .i64 n, .slice none 0 0, .slice none 0 0] 66))
    simp only [World.size_alloc] at hm0
    go_enter Try.func39, Try.ntmps39
    go_wp2_with fail
    refine (isOperand_any n _).mono ?_
    rintro e w1 ⟨rfl, rfl⟩
    rw [H0.out]
    go_wp2_with fail
    refine (span_any 0 n _ (by omega) (by omega)).mono ?_
    rintro e w3 hT
    obtain ⟨A3, c3, rfl, hown3, hb3⟩ := hT.open_ hl3
    have hx3 := hx2.below hb3
    have hm3 := hm0.below_ hb3 (Nat.le_refl _)
    have hB3 := hB2.trans (hb3.mono hB2.size)
    go_wp2_with fail
    refine (span_any n n _ (by omega) (by omega)).mono ?_
    rintro e w4 hT
    obtain ⟨A4, c4, rfl, hown4, hb4⟩ := hT.open_ hl4
    have hx4 := hx3.below hb4
    have hm4 := hm3.below_ hb4 (Nat.le_refl _)
    have hB4 := hB3.trans (hb4.mono hB3.size)
    have hr3 := RM.ofOwn (b := w.heap.size + 1) (hown3.below hb4 (.inl (Nat.le_refl _))) (by simp)
    have hz3 := hb3.size
    simp only [World.size_alloc] at hz3
    have hr4 := RM.ofOwn (b := w.heap.size + 1) hown4 (by omega)
    have hz4 := hB4.size
    have hz4' := hb4.size
    clear hx0 hx2 hx3 hm0 hm3 hB hB2 hB3 hown3 hown4
    go_wp2_with fail
    refine (HF.out (w.heap.size + 1) (w.heap.size + 1) A3 A4 c3 c4 w4 (by omega) hm4 hr3 hr4).mono ?_
    rintro e w5 hT
    obtain ⟨G5, O5, oc5, rfl, hm5, hv5, ho5⟩ := hT.open_ hm.out
    have hx5 : BxC w5 w.heap.size 0 0 none 0 0 none 0 0 := ⟨hv5.cellF hx4.1 ⟨by simp, by simp⟩, hv5.cellF hx4.2.1 ⟨by simp, by simp⟩, hv5.cellF hx4.2.2.1 ⟨by simp, by simp⟩, hv5.cellF hx4.2.2.2 ⟨by simp, by simp⟩⟩
    have hB5 := hv5.toBelow hB4 (by omega) (by simp) hz4
    obtain ⟨Ag, cg, hx6, hx7, hw7, hfz⟩ := hm5.circuit ho5 (by omega)
    have hB7 := hB5.setCell (p := ⟨w.heap.size + 1, 3, none⟩) (by show w.heap.size ≤ w.heap.size + 1; omega) (.slice O5 m oc5)
    have hx8 : BxC (w5.setCell ⟨w.heap.size + 1, 3, none⟩ (.slice O5 m oc5)) w.heap.size 0 0 none 0 0 none 0 0 := ⟨(World.cell?_setCell_other _ _ _ _ (by simp)).trans hx5.1, (World.cell?_setCell_other _ _ _ _ (by simp)).trans hx5.2.1, (World.cell?_setCell_other _ _ _ _ (by simp)).trans hx5.2.2.1, (World.cell?_setCell_other _ _ _ _ (by simp)).trans hx5.2.2.2⟩
    obtain ⟨i0, i1, i2, i3⟩ := hx7
    obtain ⟨j0, j1, j2, j3⟩ := hx6
    clear hm5 ho5 hx5 hx4 hm4 hr3 hr4
    have hmo := hm.out
    go_wp2_with fail
    refine (valid_t n n Ag gs.length cg O5 m oc5 gs os _ hw7.reads.1 hw7.reads.2 (by omega) (by omega) HOK.out).mono ?_
    rintro e w8 ⟨rfl, hb8⟩
    have hB8 := hB7.trans (hb8.mono hB7.size)
    have f8 : Fz w8 w.heap.size := ((((((Fz.new w _ _).below ((Below.refl _ _).alloc (Nat.le_refl _) (.cells #[.int .i64 n, .int .i64 n, .slice none 0 0, .slice none 0 0] 66)) (by simp)).below hb3 (by simp; omega)).below hb4 (by omega)).mv hv5 (by omega) ⟨by simp, by simp⟩).set _ _).below hb8 (by simp; have := hv5.size; omega)
    have g0 := f8 0; have g1 := f8 1; have g2 := f8 2; have g3 := f8 3
    have hx9 := hx8.below hb8
    have hy9 := hx9; obtain ⟨l0, l1, l2, l3⟩ := hy9
    have hw8 := (hw7.below hb8 (.inl (Nat.le_refl _))).hi_ (show w5.heap.size ≤ w8.heap.size by simpa using hb8.size)
    go_wp2
    have hq9 := BxC.set4 (hx9) (n : Int) (n : Int) Ag gs.length cg O5 m oc5
    obtain ⟨q0, q1, q2, q3⟩ := hq9
    refine bodyPost_ret (v := .tuple #[.agg #[.int .i64 (n : Int), .int .i64 (n : Int), .slice Ag gs.length cg, .slice O5 m oc5], .bool true]) (by simp [results, Try.results39, go_sem, q0, q1, q2, q3]) rfl ?_
    exact RetC.some_ (below_set4 hB8 (Nat.le_refl _) _ _ _ _ _ _ _ _) HR.out rfl hm.out rfl (by rw [set4_size]; exact ((hw8.set4 (.inl (by omega)) _ _ _ _ _ _ _ _).lo_ (by omega)))
theorem RIn.far {w : World} {lo hi no : Nat} {Ao : Option Addr} {os : List Int} (h : RIn w lo hi Ao no os) (p : Addr) (u : Value) (hp : p.block < lo ∨ hi ≤ p.block) : RIn (w.setCell p u) lo hi Ao no os := by
  refine ⟨⟨h.1.1, fun hn => ?_⟩, h.2⟩
  obtain ⟨b, o, hA, hlt, hc⟩ := h.1.2 hn
  have hk := h.2 hn b o hA
  exact ⟨b, o, hA, by simpa using hlt, fun j hj => (World.cell?_setCell_other _ _ _ _ (fun he => by have := congrArg Addr.block he; simp at this; omega)).trans (hc j hj)⟩
theorem OwnCr.far {w : World} {lo hi : Nat} {Ag : Option Addr} {ng cg : Nat} {Ao : Option Addr} {no co : Nat} {gs : List G3} {os : List Int} (h : OwnCr w lo hi Ag ng cg Ao no co gs os) (p : Addr) (u : Value) (hp : p.block < lo ∨ hi ≤ p.block) : OwnCr (w.setCell p u) lo hi Ag ng cg Ao no co gs os := ⟨h.1.far p u hp, h.2.far p u hp⟩
theorem OwnCr.hi_ {w : World} {lo hi hi' : Nat} {Ag : Option Addr} {ng cg : Nat} {Ao : Option Addr} {no co : Nat} {gs : List G3} {os : List Int} (h : OwnCr w lo hi Ag ng cg Ao no co gs os) (hl : hi ≤ hi') : OwnCr w lo hi' Ag ng cg Ao no co gs os := ⟨h.1.hi_ hl, h.2.1, fun hn k o hA => ⟨(h.2.2 hn k o hA).1, Nat.lt_of_lt_of_le (h.2.2 hn k o hA).2 hl⟩⟩
theorem OwnCr.set4 {w : World} {b lo hi : Nat} {A1 : Option Addr} {n1 c1 : Nat} {A2 : Option Addr} {n2 c2 : Nat} {gs : List G3} {os : List Int} (h : OwnCr w lo hi A1 n1 c1 A2 n2 c2 gs os) (hb : b < lo ∨ hi ≤ b) (x y : Int) (Ag : Option Addr) (ng cg : Nat) (Ao : Option Addr) (no co : Nat) :
    OwnCr ((((w.setCell ⟨b, 0, none⟩ (.int .i64 x)).setCell ⟨b, 1, none⟩ (.int .i64 y)).setCell ⟨b, 2, none⟩ (.slice Ag ng cg)).setCell ⟨b, 3, none⟩ (.slice Ao no co)) lo hi A1 n1 c1 A2 n2 c2 gs os :=
  (((h.far ⟨b, 0, none⟩ _ hb).far ⟨b, 1, none⟩ _ hb).far ⟨b, 2, none⟩ _ hb).far ⟨b, 3, none⟩ _ hb
def RetCir (w : World) (x y : Int) (gs : List G3) (os : List Int) (e : Ending) (w' : World) : Prop :=
  ∃ Ag cg Ao co, e = .returned (.agg #[.int .i64 x, .int .i64 y, .slice Ag gs.length cg, .slice Ao os.length co]) ∧ OwnCr w' w.heap.size w'.heap.size Ag gs.length cg Ao os.length co gs os ∧ Below w.heap.size w w'
theorem RetCir.mk_ {w : World} {x y : Int} {gs : List G3} {os : List Int} {e : Ending} {w' : World} {Ag Ao : Option Addr} {cg m co : Nat} (hm : os.length = m) (he : e = .returned (.agg #[.int .i64 x, .int .i64 y, .slice Ag gs.length cg, .slice Ao m co])) (hw : OwnCr w' w.heap.size w'.heap.size Ag gs.length cg Ao m co gs os) (hb : Below w.heap.size w w') : RetCir w x y gs os e w' := by
  subst hm; exact ⟨Ag, cg, Ao, co, he, hw, hb⟩
def RetCr (w : World) (o : Option Ci) (e : Ending) (w' : World) : Prop :=
  ∃ Ag cg Ao co, e = .returned (.tuple #[.agg #[.int .i64 (o.getD ⟨0, 0, [], []⟩).i0, .int .i64 (o.getD ⟨0, 0, [], []⟩).i1, .slice Ag (o.getD ⟨0, 0, [], []⟩).gs.length cg, .slice Ao (o.getD ⟨0, 0, [], []⟩).os.length co], .bool o.isSome]) ∧
    OwnCr w' w.heap.size w'.heap.size Ag (o.getD ⟨0, 0, [], []⟩).gs.length cg Ao (o.getD ⟨0, 0, [], []⟩).os.length co (o.getD ⟨0, 0, [], []⟩).gs (o.getD ⟨0, 0, [], []⟩).os ∧ Below w.heap.size w w'
theorem RetCr.none_ {w : World} {o : Option Ci} {e : Ending} {w' : World} (hb : Below w.heap.size w w') (ho : o = none) (he : e = .returned (.tuple #[.agg #[.int .i64 0, .int .i64 0, .slice none 0 0, .slice none 0 0], .bool false])) : RetCr w o e w' := by
  subst ho; exact ⟨none, 0, none, 0, he, (OwnC.none_ _ _ _).toR, hb⟩
theorem RetCr.some_ {w : World} {o : Option Ci} {x y : Int} {gs : List G3} {os : List Int} {ng cg no co : Nat} {Ag Ao : Option Addr} {e : Ending} {w' : World} (hb : Below w.heap.size w w') (ho : o = some ⟨x, y, gs, os⟩) (hng : gs.length = ng) (hno : os.length = no)
    (he : e = .returned (.tuple #[.agg #[.int .i64 x, .int .i64 y, .slice Ag ng cg, .slice Ao no co], .bool true])) (hw : OwnCr w' w.heap.size w'.heap.size Ag ng cg Ao no co gs os) : RetCr w o e w' := by
  subst ho; subst hng; subst hno; exact ⟨Ag, cg, Ao, co, he, hw, hb⟩
theorem RetC.of {w : World} {o : Option Ci} {x y : Int} {gs : List G3} {os : List Int} {t : Bool} {cg co : Nat} {Ag Ao : Option Addr} {e : Ending} {w' : World} (hQ : o.getD ⟨0, 0, [], []⟩ = ⟨x, y, gs, os⟩) (ht : o.isSome = t) (he : e = .returned (.tuple #[.agg #[.int .i64 x, .int .i64 y, .slice Ag gs.length cg, .slice Ao os.length co], .bool t])) (hw : OwnC w' w.heap.size w'.heap.size Ag gs.length cg Ao os.length co gs os) (hb : Below w.heap.size w w') : RetC w o e w' := by
  refine ⟨Ag, cg, Ao, co, ?_⟩; rw [hQ, ht]; exact ⟨he, hw, hb⟩
theorem RetCr.of {w : World} {o : Option Ci} {x y : Int} {gs : List G3} {os : List Int} {t : Bool} {cg co : Nat} {Ag Ao : Option Addr} {e : Ending} {w' : World} (hQ : o.getD ⟨0, 0, [], []⟩ = ⟨x, y, gs, os⟩) (ht : o.isSome = t) (he : e = .returned (.tuple #[.agg #[.int .i64 x, .int .i64 y, .slice Ag gs.length cg, .slice Ao os.length co], .bool t])) (hw : OwnCr w' w.heap.size w'.heap.size Ag gs.length cg Ao os.length co gs os) (hb : Below w.heap.size w w') : RetCr w o e w' := by
  refine ⟨Ag, cg, Ao, co, ?_⟩; rw [hQ, ht]; exact ⟨he, hw, hb⟩
theorem RetC.to {w : World} {o : Option Ci} {x y : Int} {gs : List G3} {os : List Int} {t : Bool} {e : Ending} {w' : World} (h : RetC w o e w') (hQ : o.getD ⟨0, 0, [], []⟩ = ⟨x, y, gs, os⟩) (ht : o.isSome = t) :
    ∃ Ag cg Ao co, e = .returned (.tuple #[.agg #[.int .i64 x, .int .i64 y, .slice Ag gs.length cg, .slice Ao os.length co], .bool t]) ∧ OwnC w' w.heap.size w'.heap.size Ag gs.length cg Ao os.length co gs os ∧ Below w.heap.size w w' := by
  obtain ⟨Ag, cg, Ao, co, h⟩ := h; rw [hQ, ht] at h; exact ⟨Ag, cg, Ao, co, h⟩
theorem RetCr.to {w : World} {o : Option Ci} {x y : Int} {gs : List G3} {os : List Int} {t : Bool} {e : Ending} {w' : World} (h : RetCr w o e w') (hQ : o.getD ⟨0, 0, [], []⟩ = ⟨x, y, gs, os⟩) (ht : o.isSome = t) :
    ∃ Ag cg Ao co, e = .returned (.tuple #[.agg #[.int .i64 x, .int .i64 y, .slice Ag gs.length cg, .slice Ao os.length co], .bool t]) ∧ OwnCr w' w.heap.size w'.heap.size Ag gs.length cg Ao os.length co gs os ∧ Below w.heap.size w w' := by
  obtain ⟨Ag, cg, Ao, co, h⟩ := h; rw [hQ, ht] at h; exact ⟨Ag, cg, Ao, co, h⟩
set_option maxRecDepth 100000 in
set_option maxHeartbeats 1600000 in
theorem Adder_1_any (n lo b : Nat) (A B : Option Addr) (c d : Nat) (w : World) (h1 : 1 ≤ n) (h8 : n ≤ 8) (hlo : lo ≤ w.heap.size) (hm : Mk w lo b n n [] none) (ha : RM w b none A n (spn 0 n)) (hb : RM w b none B n (spn n n)) :
    Calls Try.prog 40 #[.pointer (some ⟨b, 0, none⟩), .slice A n c, .slice B n d] w (RetRow lo b n n (adderG n).g (adderG n).o none w) := by
  have hx : 0 ≤ (n : Int) ∧ (n : Int) ≤ 20 := by omega
  obtain ⟨T, hT⟩ : ∃ T, Hid (addS (n + n) [] (spn 0 n) (spn n n) n = T) := ⟨_, Lib.hid rfl⟩
  have hE : Hid (adderG n = ⟨T.g, T.o ++ [T.c]⟩) := Lib.hid (by rw [← hT.out]; rfl)
  have hL : Hid (T.o.length = n) := Lib.hid (by rw [← hT.out]; exact addS_o _ _ _ _ _)
  have hK : T.g.length ≤ 6 * n := by rw [← hT.out]; have := addS_g (n + n) [] (spn 0 n) (spn n n) n; simp at this; omega
  rw [hE.out]
  obtain ⟨Tg, To, Tc⟩ := T
  dsimp only at hK hL
  dsimp only
  go_enter Try.func40, Try.ntmps40
  go_wp2_with fail
  have q9 := maker_add_any lo b n n [] none A B n c d _ _ w hm ha hb hx hx (by simp) (by omega) hlo
  rw [hT.out] at q9
  refine q9.mono ?_
  clear q9
  rintro e w2 ⟨G2, O2, oc2, rfl, hm2, hv2, ho2⟩
  have hz2 := hv2.size
  have hoA := ho2.alloc_ (.cells #[.int .i64 Tc] 3); have hmA := hm2.alloc_ (.cells #[.int .i64 Tc] 3); have hvA := hv2.alloc_ (.cells #[.int .i64 Tc] 3)
  go_wp2_with (at_builtin; refine wpList_appI _ rfl _ _ rfl rfl hoA.1 rfl (RI_one _ _ _ _ (by simp)) (by omega) (by first | omega | (simp; done) | (simp; omega)) ?_; intro A5 c5 w5 hown5 hg5 hat5 hk5)
  have ho5 := hoA.app hmA hown5 hat5; have hm5 := hmA.app hoA hg5; have hv5 := hvA.app hoA hg5
  have hl5 : Hid ((To ++ [Tc]).length = n + 1) := Lib.hid (by simp [hL.out])
  clear hoA hmA hvA hown5 hg5 hat5 hk5 hm2 ho2 hv2
  go_wp2
  go_ret
  exact RetRow.mk_ hl5.out rfl hm5 hv5 ho5
set_option maxRecDepth 100000 in
set_option maxHeartbeats 1600000 in
theorem Subtract_1_any (n lo b : Nat) (A B : Option Addr) (c d : Nat) (w : World) (h1 : 1 ≤ n) (h8 : n ≤ 8) (hlo : lo ≤ w.heap.size) (hm : Mk w lo b n n [] none) (ha : RM w b none A n (spn 0 n)) (hb : RM w b none B n (spn n n)) :
    Calls Try.prog 43 #[.pointer (some ⟨b, 0, none⟩), .slice A n c, .slice B n d] w (RetRow lo b n n (subG n).g (subG n).o none w) := by
  have hx : 0 ≤ (n : Int) ∧ (n : Int) ≤ 20 := by omega
  obtain ⟨T, hT⟩ : ∃ T, Hid (subS (n + n) [] (spn 0 n) (spn n n) n = T) := ⟨_, Lib.hid rfl⟩
  have hE : Hid (subG n = ⟨T.g, T.o ++ [T.c]⟩) := Lib.hid (by rw [← hT.out]; rfl)
  have hL : Hid (T.o.length = n) := Lib.hid (by rw [← hT.out]; exact subS_o _ _ _ _ _)
  have hK : T.g.length ≤ 6 * n := by rw [← hT.out]; have := subS_g (n + n) [] (spn 0 n) (spn n n) n; simp at this; omega
  rw [hE.out]
  obtain ⟨Tg, To, Tc⟩ := T
  dsimp only at hK hL
  dsimp only
  go_enter Try.func43, Try.ntmps43
  go_wp2_with fail
  have q9 := maker_subtract_any lo b n n [] none A B n c d _ _ w hm ha hb hx hx (by simp) (by omega) hlo
  rw [hT.out] at q9
  refine q9.mono ?_
  clear q9
  rintro e w2 ⟨G2, O2, oc2, rfl, hm2, hv2, ho2⟩
  have hz2 := hv2.size
  have hoA := ho2.alloc_ (.cells #[.int .i64 Tc] 3); have hmA := hm2.alloc_ (.cells #[.int .i64 Tc] 3); have hvA := hv2.alloc_ (.cells #[.int .i64 Tc] 3)
  go_wp2_with (at_builtin; refine wpList_appI _ rfl _ _ rfl rfl hoA.1 rfl (RI_one _ _ _ _ (by simp)) (by omega) (by first | omega | (simp; done) | (simp; omega)) ?_; intro A5 c5 w5 hown5 hg5 hat5 hk5)
  have ho5 := hoA.app hmA hown5 hat5; have hm5 := hmA.app hoA hg5; have hv5 := hvA.app hoA hg5
  have hl5 : Hid ((To ++ [Tc]).length = n + 1) := Lib.hid (by simp [hL.out])
  clear hoA hmA hvA hown5 hg5 hat5 hk5 hm2 ho2 hv2
  go_wp2
  go_ret
  exact RetRow.mk_ hl5.out rfl hm5 hv5 ho5
set_option maxHeartbeats 1600000 in
theorem AdderCircuit_any (a : Int) (w : World) : Calls Try.prog 9 #[.int .i64 a] w (RetC w (gadF adderG 8 a)) := by
  have hB : Below w.heap.size w (w.alloc (.cells #[.int .i64 0, .int .i64 0, .slice none 0 0, .slice none 0 0] 27)) := (Below.refl _ _).alloc (Nat.le_refl _) _
  have hx0 : BxC (w.alloc (.cells #[.int .i64 0, .int .i64 0, .slice none 0 0, .slice none 0 0] 27)) w.heap.size 0 0 none 0 0 none 0 0 := BxC.new w _
  obtain ⟨R, hR⟩ : ∃ R, Hid (gadF adderG 8 a = R) := ⟨_, Lib.hid rfl⟩
  rw [hR.out]
  obtain ⟨x, y, gs, os, hQ⟩ : ∃ x y gs os, Hid (R.getD ⟨0, 0, [], []⟩ = ⟨x, y, gs, os⟩) := ⟨_, _, _, _, Lib.hid rfl⟩
  obtain ⟨t, ht⟩ : ∃ t, Hid (R.isSome = t) := ⟨_, Lib.hid rfl⟩
  go_enter Try.func9, Try.ntmps9
  go_wp2_with fail
  refine (gadget_any 40 Try.call40 adderG a _ adderG_ok (Lib.hid fun n lo b A B c d w1 h1 h8 hlo hm ha hb => Adder_1_any n lo b A B c d w1 h1 h8 hlo hm ha hb)).mono ?_
  rintro e w1 hT
  rw [hR.out] at hT
  obtain ⟨Ag, cg, Ao, co, rfl, hw1, hb1⟩ := hT.to hQ.out ht.out
  have hx1 := hx0.below hb1
  have f1 : Fz w1 w.heap.size := (Fz.new w _ _).below hb1 (by simp)
  have g0 := f1 0; have g1 := f1 1; have g2 := f1 2; have g3 := f1 3
  have hy1 := hx1; obtain ⟨l0, l1, l2, l3⟩ := hy1
  have hB1 := hB.trans (hb1.mono hB.size)
  simp only [World.size_alloc] at hw1
  go_wp2
  have hq9 := BxC.set4 (hx1) x y Ag gs.length cg Ao os.length co
  obtain ⟨q0, q1, q2, q3⟩ := hq9
  refine bodyPost_ret (v := .tuple #[.agg #[.int .i64 x, .int .i64 y, .slice Ag gs.length cg, .slice Ao os.length co], .bool t]) (by simp [results, Try.results9, go_sem, q0, q1, q2, q3]) rfl ?_
  exact RetC.of hQ.out ht.out rfl (by rw [set4_size]; exact ((hw1.set4 (.inl (by omega)) _ _ _ _ _ _ _ _).lo_ (by omega))) (below_set4 hB1 (Nat.le_refl _) _ _ _ _ _ _ _ _)
set_option maxHeartbeats 1600000 in
theorem SubtractCircuit_any (a : Int) (w : World) : Calls Try.prog 12 #[.int .i64 a] w (RetC w (gadF subG 8 a)) := by
  have hB : Below w.heap.size w (w.alloc (.cells #[.int .i64 0, .int .i64 0, .slice none 0 0, .slice none 0 0] 27)) := (Below.refl _ _).alloc (Nat.le_refl _) _
  have hx0 : BxC (w.alloc (.cells #[.int .i64 0, .int .i64 0, .slice none 0 0, .slice none 0 0] 27)) w.heap.size 0 0 none 0 0 none 0 0 := BxC.new w _
  obtain ⟨R, hR⟩ : ∃ R, Hid (gadF subG 8 a = R) := ⟨_, Lib.hid rfl⟩
  rw [hR.out]
  obtain ⟨x, y, gs, os, hQ⟩ : ∃ x y gs os, Hid (R.getD ⟨0, 0, [], []⟩ = ⟨x, y, gs, os⟩) := ⟨_, _, _, _, Lib.hid rfl⟩
  obtain ⟨t, ht⟩ : ∃ t, Hid (R.isSome = t) := ⟨_, Lib.hid rfl⟩
  go_enter Try.func12, Try.ntmps12
  go_wp2_with fail
  refine (gadget_any 43 Try.call43 subG a _ subG_ok (Lib.hid fun n lo b A B c d w1 h1 h8 hlo hm ha hb => Subtract_1_any n lo b A B c d w1 h1 h8 hlo hm ha hb)).mono ?_
  rintro e w1 hT
  rw [hR.out] at hT
  obtain ⟨Ag, cg, Ao, co, rfl, hw1, hb1⟩ := hT.to hQ.out ht.out
  have hx1 := hx0.below hb1
  have f1 : Fz w1 w.heap.size := (Fz.new w _ _).below hb1 (by simp)
  have g0 := f1 0; have g1 := f1 1; have g2 := f1 2; have g3 := f1 3
  have hy1 := hx1; obtain ⟨l0, l1, l2, l3⟩ := hy1
  have hB1 := hB.trans (hb1.mono hB.size)
  simp only [World.size_alloc] at hw1
  go_wp2
  have hq9 := BxC.set4 (hx1) x y Ag gs.length cg Ao os.length co
  obtain ⟨q0, q1, q2, q3⟩ := hq9
  refine bodyPost_ret (v := .tuple #[.agg #[.int .i64 x, .int .i64 y, .slice Ag gs.length cg, .slice Ao os.length co], .bool t]) (by simp [results, Try.results12, go_sem, q0, q1, q2, q3]) rfl ?_
  exact RetC.of hQ.out ht.out rfl (by rw [set4_size]; exact ((hw1.set4 (.inl (by omega)) _ _ _ _ _ _ _ _).lo_ (by omega))) (below_set4 hB1 (Nat.le_refl _) _ _ _ _ _ _ _ _)
set_option maxRecDepth 100000 in
set_option maxHeartbeats 800000 in
theorem ciPick_any (A B : Option Addr) (n c m d : Nat) (l os : List Int) (w : World) (ha : RI w A n l) (hb : RI w B m os) (hn : n ≤ 2097152) (hm : m ≤ 2097152) (hos : allB 0 ((n : Int) - 1) os = true) :
    Calls Try.prog 69 #[.slice A n c, .slice B m d] w (RetI w (pick l os)) := by
  have hl := ha.len
  have hlo := hb.len
  have HP := Lib.hid (pick_tab (l := l) hlo)
  go_enter Try.func69, Try.ntmps69
  go_wp2
  go_loopw [5, 10] (fun v i wr => ∃ (k : Nat) (A' : Option Addr) (c' : Nat), k ≤ m ∧ i = .int .i64 k ∧ v = .slice A' k c' ∧ Own wr w.heap.size wr.heap.size (.slice A' k c') k (tab k fun i => gi l (gi os i).toNat) ∧ Below w.heap.size w wr) (fun _ i _ => m - (intOf i).toNat)
  case atStart => first | exact ⟨0, _, _, Nat.zero_le _, rfl, rfl, Own.none_ _ _ _, Below.refl _ _⟩ | exact ⟨0, _, _, Nat.zero_le _, rfl, rfl, by simpa [tab_zero] using Own_new0 w w.heap.size (Nat.le_refl _), (Below.refl _ _).alloc (Nat.le_refl _) _⟩
  case round =>
    obtain ⟨k, A', c', hk, rfl, rfl, hown, hbw⟩ := hrel
    by_cases hlt : k < m
    · have hsn : Hid (tab (k + 1) (fun i => gi l (gi os i).toNat) = tab k (fun i => gi l (gi os i).toNat) ++ [gi l (gi os k).toNat]) := Lib.hid (tab_snoc k _)
      obtain ⟨h0, h1⟩ := allB_gi hos (j := k) (by omega)
      obtain ⟨b, o, rfl, hbB, c1⟩ := hb.at_ hlt
      have e1 := (hbw.cell (p := ⟨b, o + k, none⟩) hbB).trans c1
      have hz := hbw.size
      generalize gi os k = X at *
      obtain ⟨a, rfl⟩ := Int.eq_ofNat_of_zero_le h0
      obtain ⟨b', o', rfl, hbB', c2⟩ := ha.at_ (k := a) (by omega)
      have e2 := (hbw.cell (p := ⟨b', o' + a, none⟩) hbB').trans c2
      have hlt2 : (a : Int) < n := by omega
      have hst : ((a : Int).toNat) = a := rfl
      rw [hst] at hsn
      clear ha hb c1 c2 hst
      generalize gi l a = Y at *
      have hownA := hown.alloc (.cells #[.int .i64 Y] 3)
      have hbA := hbw.alloc hz (.cells #[.int .i64 Y] 3)
      clear hown hbw
      go_wp2_with (at_builtin; refine wpList_app _ rfl _ _ rfl rfl hownA rfl (RI_one _ _ _ _ (by simp)) (by omega) (by first | omega | (simp; done) | (simp; omega)) ?_; intro A5 c5 w5 hown5 hg5 hat5)
      have hb5 := below_app hbA hownA hg5 (by simp; omega) (Nat.le_refl _)
      rw [← hsn.out] at hown5
      clear hbA hownA hg5 hat5
      go_wp2
      go_roundw
      case rel => exact ⟨k + 1, _, _, by omega, by go_num, rfl, hown5, hb5⟩
      case measure => simp [intOf]; omega
    · obtain rfl : k = m := by omega
      rw [← HP.out] at hown
      go_wp2
      go_ret
      exact RetI.mk_ (by rw [pick_len]; exact hlo) rfl hown hbw
set_option maxRecDepth 100000 in
set_option maxHeartbeats 800000 in
theorem at_any (A B : Option Addr) (n c m d : Nat) (l os : List Int) (w : World) (ha : RI w A n l) (hb : RI w B m os) (hn : n ≤ 2097152) (hm : m ≤ 2097152) (hos : allB 0 ((n : Int) - 1) os = true) :
    Calls Try.prog 29 #[.slice A n c, .slice B m d] w (RetI w (pick l os)) := by
  have hl := ha.len
  have hlo := hb.len
  have HP := Lib.hid (pick_tab (l := l) hlo)
  go_enter Try.func29, Try.ntmps29
  go_wp2
  go_loopw [5, 11] (fun v i wr => ∃ (k : Nat) (A' : Option Addr) (c' : Nat), k ≤ m ∧ i = .int .i64 k ∧ v = .slice A' k c' ∧ Own wr w.heap.size wr.heap.size (.slice A' k c') k (tab k fun i => gi l (gi os i).toNat) ∧ Below w.heap.size w wr) (fun _ i _ => m - (intOf i).toNat)
  case atStart => first | exact ⟨0, _, _, Nat.zero_le _, rfl, rfl, Own.none_ _ _ _, Below.refl _ _⟩ | exact ⟨0, _, _, Nat.zero_le _, rfl, rfl, by simpa [tab_zero] using Own_new0 w w.heap.size (Nat.le_refl _), (Below.refl _ _).alloc (Nat.le_refl _) _⟩
  case round =>
    obtain ⟨k, A', c', hk, rfl, rfl, hown, hbw⟩ := hrel
    by_cases hlt : k < m
    · have hsn : Hid (tab (k + 1) (fun i => gi l (gi os i).toNat) = tab k (fun i => gi l (gi os i).toNat) ++ [gi l (gi os k).toNat]) := Lib.hid (tab_snoc k _)
      obtain ⟨h0, h1⟩ := allB_gi hos (j := k) (by omega)
      obtain ⟨b, o, rfl, hbB, c1⟩ := hb.at_ hlt
      have e1 := (hbw.cell (p := ⟨b, o + k, none⟩) hbB).trans c1
      have hz := hbw.size
      generalize gi os k = X at *
      obtain ⟨a, rfl⟩ := Int.eq_ofNat_of_zero_le h0
      obtain ⟨b', o', rfl, hbB', c2⟩ := ha.at_ (k := a) (by omega)
      have e2 := (hbw.cell (p := ⟨b', o' + a, none⟩) hbB').trans c2
      have hlt2 : (a : Int) < n := by omega
      have hst : ((a : Int).toNat) = a := rfl
      rw [hst] at hsn
      clear ha hb c1 c2 hst
      generalize gi l a = Y at *
      have hownA := hown.alloc (.cells #[.int .i64 Y] 3)
      have hbA := hbw.alloc hz (.cells #[.int .i64 Y] 3)
      clear hown hbw
      go_wp2_with (at_builtin; refine wpList_app _ rfl _ _ rfl rfl hownA rfl (RI_one _ _ _ _ (by simp)) (by omega) (by first | omega | (simp; done) | (simp; omega)) ?_; intro A5 c5 w5 hown5 hg5 hat5)
      have hb5 := below_app hbA hownA hg5 (by simp; omega) (Nat.le_refl _)
      rw [← hsn.out] at hown5
      clear hbA hownA hg5 hat5
      go_wp2
      go_roundw
      case rel => exact ⟨k + 1, _, _, by omega, by go_num, rfl, hown5, hb5⟩
      case measure => simp [intOf]; omega
    · obtain rfl : k = m := by omega
      rw [← HP.out] at hown
      go_wp2
      go_ret
      exact RetI.mk_ (by rw [pick_len]; exact hlo) rfl hown hbw
theorem ciJoin_any (A B : Option Addr) (n c m d : Nat) (xs ys : List Int) (w : World) (ha : RI w A n xs) (hb : RI w B m ys) (hn : n ≤ 2097152) (hm : m ≤ 2097152) :
    Calls Try.prog 36 #[.slice A n c, .slice B m d] w fun e w' => ∃ A' c', e = .returned (.slice A' (n + m) c') ∧ Own w' w.heap.size w'.heap.size (.slice A' (n + m) c') (n + m) (xs ++ ys) ∧ Below w.heap.size w w' := by
  have hl := ha.len
  go_enter Try.func36, Try.ntmps36
  go_wp2_with fail
  refine (l1Own_any A n c xs _ ha hn).mono ?_
  rintro e w1 ⟨A1, c1, rfl, hown1, hb1⟩
  have hr := hb.below hb1 (Nat.le_refl _)
  have hz := hb1.size
  go_wp2_with (at_builtin; refine wpList_app _ rfl _ _ rfl rfl hown1 rfl hr (by omega) (by first | omega | (simp; done) | (simp; omega)) ?_; intro A5 c5 w5 hown5 hg5 hat5)
  have hb5 := below_app hb1 hown1 hg5 hz (Nat.le_refl _)
  clear hown1 hb1 hr hg5 hat5
  go_wp2
  go_ret
  exact ⟨_, _, rfl, hown5, hb5⟩
section
variable {w w' : World} {b : Nat} {p x y : Int} {Ag A' : Option Addr} {ng cg n' c' : Nat} {Ao : Option Addr} {no co : Nat}
theorem BxA.setG (h : BxA w b p x y Ag ng cg Ao no co) (A' : Option Addr) (n' c' : Nat) : BxA (w.setCell ⟨b, 3, none⟩ (.slice A' n' c')) b p x y A' n' c' Ao no co :=
  ⟨(World.cell?_setCell_other _ _ _ _ (by simp)).trans h.1, (World.cell?_setCell_other _ _ _ _ (by simp)).trans h.2.1, (World.cell?_setCell_other _ _ _ _ (by simp)).trans h.2.2.1, World.cell?_setCell_same _ _ _ h.2.2.2.1, (World.cell?_setCell_other _ _ _ _ (by simp)).trans h.2.2.2.2⟩
theorem BxA.setO (h : BxA w b p x y Ag ng cg Ao no co) (A' : Option Addr) (n' c' : Nat) : BxA (w.setCell ⟨b, 4, none⟩ (.slice A' n' c')) b p x y Ag ng cg A' n' c' :=
  ⟨(World.cell?_setCell_other _ _ _ _ (by simp)).trans h.1, (World.cell?_setCell_other _ _ _ _ (by simp)).trans h.2.1, (World.cell?_setCell_other _ _ _ _ (by simp)).trans h.2.2.1, (World.cell?_setCell_other _ _ _ _ (by simp)).trans h.2.2.2.1, World.cell?_setCell_same _ _ _ h.2.2.2.2⟩
theorem BxA.far (h : BxA w b p x y Ag ng cg Ao no co) (q : Addr) (v : Value) (hq : q.block ≠ b) : BxA (w.setCell q v) b p x y Ag ng cg Ao no co := by
  have hc : ∀ {r : Nat} {u : Value}, w.cell? ⟨b, r, none⟩ = some u → (w.setCell q v).cell? ⟨b, r, none⟩ = some u := fun {r u} hu => (World.cell?_setCell_other _ _ _ _ (fun he => hq (by rw [he]))).trans hu
  exact ⟨hc h.1, hc h.2.1, hc h.2.2.1, hc h.2.2.2.1, hc h.2.2.2.2⟩
end
theorem OwnG_new0 (w : World) (lo : Nat) (hl : lo ≤ w.heap.size) : OwnG (w.alloc (.cells #[] 64)) lo (w.heap.size + 1) (.slice (some ⟨w.heap.size, 0, none⟩) 0 0) 0 [] := by
  refine ⟨?_, fun g hg => by simp [Value.ownBlock] at hg; omega⟩
  have h := World.ownsRow_lit (base := lo) (e := 64) (size := 3) w #[] 0 hl (by unfold maxLen; omega) (by simp)
  simpa [gcells] using h
def RetAi (w : World) (p x y : Int) (gs : List G3) (os : List Int) (e : Ending) (w' : World) : Prop :=
  ∃ Ag cg Ao co, e = .returned (.agg #[.int .i64 p, .int .i64 x, .int .i64 y, .slice Ag gs.length cg, .slice Ao os.length co]) ∧ OwnC w' w.heap.size w'.heap.size Ag gs.length cg Ao os.length co gs os ∧ Below w.heap.size w w'
theorem RetAi.mk_ {w : World} {p x y : Int} {gs : List G3} {os : List Int} {e : Ending} {w' : World} {Ag Ao : Option Addr} {ng cg no co : Nat} (hng : gs.length = ng) (hno : os.length = no) (he : e = .returned (.agg #[.int .i64 p, .int .i64 x, .int .i64 y, .slice Ag ng cg, .slice Ao no co])) (hw : OwnC w' w.heap.size w'.heap.size Ag ng cg Ao no co gs os) (hb : Below w.heap.size w w') : RetAi w p x y gs os e w' := by
  subst hng; subst hno; exact ⟨Ag, cg, Ao, co, he, hw, hb⟩
theorem RetAi.open_ {w : World} {p x y : Int} {gs : List G3} {os : List Int} {e : Ending} {w' : World} {ng no : Nat} (h : RetAi w p x y gs os e w') (hng : gs.length = ng) (hno : os.length = no) : ∃ Ag cg Ao co, e = .returned (.agg #[.int .i64 p, .int .i64 x, .int .i64 y, .slice Ag ng cg, .slice Ao no co]) ∧ OwnC w' w.heap.size w'.heap.size Ag ng cg Ao no co gs os ∧ Below w.heap.size w w' := by
  subst hng; subst hno; exact h
def OwnX (w : World) (lo b : Nat) (Ag : Option Addr) (ng cg : Nat) (Ao : Option Addr) (no co : Nat) (gs : List G3) (os : List Int) : Prop :=
  OwnC w lo w.heap.size Ag ng cg Ao no co gs os ∧ (Value.slice Ag ng cg).ownBlock ≠ some b ∧ (Value.slice Ao no co).ownBlock ≠ some b
section
variable {w w' : World} {lo b : Nat} {Ag Ag' : Option Addr} {ng cg ng' cg' : Nat} {Ao Ao' : Option Addr} {no co no' co' : Nat} {gs gs' : List G3} {os os' : List Int}
theorem OwnX.below_ {B : Nat} (h : OwnX w lo b Ag ng cg Ao no co gs os) (k : Below B w w') (hB : w.heap.size ≤ B) : OwnX w' lo b Ag ng cg Ao no co gs os :=
  ⟨(h.1.below k (.inl hB)).now, h.2⟩
theorem OwnX.store (h : OwnX w lo b Ag ng cg Ao no co gs os) (q : Nat) (u : Value) : OwnX (w.setCell ⟨b, q, none⟩ u) lo b Ag ng cg Ao no co gs os :=
  ⟨⟨by simpa using (h.1.1.far1 ⟨b, q, none⟩ u h.2.1), by simpa using (h.1.2.1.far1 ⟨b, q, none⟩ u h.2.2), h.1.2.2⟩, h.2⟩
theorem OwnX.of {hi : Nat} (h : OwnC w lo hi Ag ng cg Ao no co gs os) (hb : hi ≤ b) : OwnX w lo b Ag ng cg Ao no co gs os :=
  ⟨h.now, fun hc => by have := h.1.lt b hc; omega, fun hc => by have := h.2.1.lt b hc; omega⟩
theorem BxA.grown {p x y : Int} {r : Option Nat} (h : BxA w b p x y Ag ng cg Ao no co) (k : w.grownBy w' r) (hr : r ≠ some b) : BxA w' b p x y Ag ng cg Ao no co := by
  have hc : ∀ {q : Nat} {v : Value}, w.cell? ⟨b, q, none⟩ = some v → w'.cell? ⟨b, q, none⟩ = some v := fun {q v} hv => (World.cell?_of_block (w := w) (k.block b (World.block_lt_of_cell? w _ hv) (fun e => hr e.symm))).trans hv
  exact ⟨hc h.1, hc h.2.1, hc h.2.2.1, hc h.2.2.2.1, hc h.2.2.2.2⟩
theorem Fz.grown {r : Option Nat} (h : Fz w b) (k : w.grownBy w' r) (hb : b < w.heap.size) (hr : r ≠ some b) : Fz w' b := fun q => (World.frozen?_of_block (w := w) (a := ⟨b, q, none⟩) (k.block b hb (fun e => hr e.symm))).trans (h q)
end
end Go.Proofs.Ytimmjppkaadggaa
