/- Contracts: an arithmetic circuit of one's own; AddOut. -/
import Derived.Test.YtgenehiiakdadaaQGd
import Derived.Test.YtgenehiiakdadaaQAV
namespace Go.Proofs.Ytgenehiiakdadaa
open Go.RowKit
set_option linter.unusedVariables false
set_option linter.unusedSimpArgs false

section
variable {w w' : World} {b : Nat} {p x y : Int} {Ag A' : Option Addr} {ng cg n' c' : Nat} {Ao : Option Addr} {no co : Nat}
theorem BxA.setG (h : BxA w b p x y Ag ng cg Ao no co) (A' : Option Addr) (n' c' : Nat) : BxA (w.setCell ⟨b, 3, none⟩ (.slice A' n' c')) b p x y A' n' c' Ao no co :=
  ⟨(World.cell?_setCell_other _ _ _ _ (by simp)).trans h.1, (World.cell?_setCell_other _ _ _ _ (by simp)).trans h.2.1, (World.cell?_setCell_other _ _ _ _ (by simp)).trans h.2.2.1, World.cell?_setCell_same _ _ _ h.2.2.2.1, (World.cell?_setCell_other _ _ _ _ (by simp)).trans h.2.2.2.2⟩
theorem BxA.setO (h : BxA w b p x y Ag ng cg Ao no co) (A' : Option Addr) (n' c' : Nat) : BxA (w.setCell ⟨b, 4, none⟩ (.slice A' n' c')) b p x y Ag ng cg A' n' c' :=
  ⟨(World.cell?_setCell_other _ _ _ _ (by simp)).trans h.1, (World.cell?_setCell_other _ _ _ _ (by simp)).trans h.2.1, (World.cell?_setCell_other _ _ _ _ (by simp)).trans h.2.2.1, (World.cell?_setCell_other _ _ _ _ (by simp)).trans h.2.2.2.1, World.cell?_setCell_same _ _ _ h.2.2.2.2⟩
theorem BxA.far (h : BxA w b p x y Ag ng cg Ao no co) (q : Addr) (v : Value) (hq : q.block ≠ b) : BxA (w.setCell q v) b p x y Ag ng cg Ao no co := by
  have hc : ∀ {r : Nat} {u : Value}, w.cell? ⟨b, r, none⟩ = some u → (w.setCell q v).cell? ⟨b, r, none⟩ = some u := fun {r u} hu => (World.cell?_setCell_other _ _ _ _ (fun he => hq (by rw [he]))).trans hu
  exact ⟨hc h.1, hc h.2.1, hc h.2.2.1, hc h.2.2.2.1, hc h.2.2.2.2⟩
theorem BxA.set5 {p0 x0 y0 : Int} {Ag0 : Option Addr} {ng0 cg0 : Nat} {Ao0 : Option Addr} {no0 co0 : Nat} (h : BxA w b p0 x0 y0 Ag0 ng0 cg0 Ao0 no0 co0) (p x y : Int) (Ag : Option Addr) (ng cg : Nat) (Ao : Option Addr) (no co : Nat) :
    BxA (((((w.setCell ⟨b, 0, none⟩ (.int .i64 p)).setCell ⟨b, 1, none⟩ (.int .i64 x)).setCell ⟨b, 2, none⟩ (.int .i64 y)).setCell ⟨b, 3, none⟩ (.slice Ag ng cg)).setCell ⟨b, 4, none⟩ (.slice Ao no co)) b p x y Ag ng cg Ao no co := by
  have h1 : BxA (w.setCell ⟨b, 0, none⟩ (.int .i64 p)) b p x0 y0 Ag0 ng0 cg0 Ao0 no0 co0 := ⟨World.cell?_setCell_same _ _ _ h.1, (World.cell?_setCell_other _ _ _ _ (by simp)).trans h.2.1, (World.cell?_setCell_other _ _ _ _ (by simp)).trans h.2.2.1, (World.cell?_setCell_other _ _ _ _ (by simp)).trans h.2.2.2.1, (World.cell?_setCell_other _ _ _ _ (by simp)).trans h.2.2.2.2⟩
  have h2 : BxA ((w.setCell ⟨b, 0, none⟩ (.int .i64 p)).setCell ⟨b, 1, none⟩ (.int .i64 x)) b p x y0 Ag0 ng0 cg0 Ao0 no0 co0 := ⟨(World.cell?_setCell_other _ _ _ _ (by simp)).trans h1.1, World.cell?_setCell_same _ _ _ h1.2.1, (World.cell?_setCell_other _ _ _ _ (by simp)).trans h1.2.2.1, (World.cell?_setCell_other _ _ _ _ (by simp)).trans h1.2.2.2.1, (World.cell?_setCell_other _ _ _ _ (by simp)).trans h1.2.2.2.2⟩
  have h3 : BxA (((w.setCell ⟨b, 0, none⟩ (.int .i64 p)).setCell ⟨b, 1, none⟩ (.int .i64 x)).setCell ⟨b, 2, none⟩ (.int .i64 y)) b p x y Ag0 ng0 cg0 Ao0 no0 co0 := ⟨(World.cell?_setCell_other _ _ _ _ (by simp)).trans h2.1, (World.cell?_setCell_other _ _ _ _ (by simp)).trans h2.2.1, World.cell?_setCell_same _ _ _ h2.2.2.1, (World.cell?_setCell_other _ _ _ _ (by simp)).trans h2.2.2.2.1, (World.cell?_setCell_other _ _ _ _ (by simp)).trans h2.2.2.2.2⟩
  exact (h3.setG Ag ng cg).setO Ao no co
theorem below_set5 {B : Nat} {a : World} (h : Below B a w) (hB : B ≤ b) (p x y : Int) (Ag : Option Addr) (ng cg : Nat) (Ao : Option Addr) (no co : Nat) :
    Below B a (((((w.setCell ⟨b, 0, none⟩ (.int .i64 p)).setCell ⟨b, 1, none⟩ (.int .i64 x)).setCell ⟨b, 2, none⟩ (.int .i64 y)).setCell ⟨b, 3, none⟩ (.slice Ag ng cg)).setCell ⟨b, 4, none⟩ (.slice Ao no co)) :=
  ((((h.setCell (p := ⟨b, 0, none⟩) hB _).setCell (p := ⟨b, 1, none⟩) hB _).setCell (p := ⟨b, 2, none⟩) hB _).setCell (p := ⟨b, 3, none⟩) hB _).setCell (p := ⟨b, 4, none⟩) hB _
theorem OwnC.set5 {lo hi : Nat} {A1 : Option Addr} {n1 c1 : Nat} {A2 : Option Addr} {n2 c2 : Nat} {gs : List G3} {os : List Int} (h : OwnC w lo hi A1 n1 c1 A2 n2 c2 gs os) (hb : b < lo ∨ hi ≤ b) (p x y : Int) (Ag : Option Addr) (ng cg : Nat) (Ao : Option Addr) (no co : Nat) :
    OwnC (((((w.setCell ⟨b, 0, none⟩ (.int .i64 p)).setCell ⟨b, 1, none⟩ (.int .i64 x)).setCell ⟨b, 2, none⟩ (.int .i64 y)).setCell ⟨b, 3, none⟩ (.slice Ag ng cg)).setCell ⟨b, 4, none⟩ (.slice Ao no co)) lo hi A1 n1 c1 A2 n2 c2 gs os :=
  ((((h.far ⟨b, 0, none⟩ _ hb).far ⟨b, 1, none⟩ _ hb).far ⟨b, 2, none⟩ _ hb).far ⟨b, 3, none⟩ _ hb).far ⟨b, 4, none⟩ _ hb
theorem set5_size (p x y : Int) (Ag : Option Addr) (ng cg : Nat) (Ao : Option Addr) (no co : Nat) :
    (((((w.setCell ⟨b, 0, none⟩ (.int .i64 p)).setCell ⟨b, 1, none⟩ (.int .i64 x)).setCell ⟨b, 2, none⟩ (.int .i64 y)).setCell ⟨b, 3, none⟩ (.slice Ag ng cg)).setCell ⟨b, 4, none⟩ (.slice Ao no co)).heap.size = w.heap.size := by simp
end
theorem OwnG_new0 (w : World) (lo : Nat) (hl : lo ≤ w.heap.size) : OwnG (w.alloc (.cells #[] 58)) lo (w.heap.size + 1) (.slice (some ⟨w.heap.size, 0, none⟩) 0 0) 0 [] := by
  refine ⟨?_, fun g hg => by simp [Value.ownBlock] at hg; omega⟩
  have h := World.ownsRow_lit (base := lo) (e := 58) (size := 3) w #[] 0 hl (by unfold maxLen; omega) (by simp)
  simpa [gcells] using h
theorem step_appG (w : World) {ops : Array Oper} {o : Oper} {a : Act} {K : Act → World → Prop} {Q : Exit → Act → World → Prop} {E : Prop} (hgd : o.guard = none) (s x : Operand)
    (ho : o.op = .call { callee := .builtin .append, args := #[s, x], argTypes := #[24, 24] })
    {lo hi n c0 m c : Nat} {A0 A : Option Addr} {xs ys : List G3} (hs : a.eval s = .slice A0 n c0) (hown : OwnG w lo hi (.slice A0 n c0) n xs) (hx : a.eval x = .slice A m c) (hr : RG w A m ys)
    (hlen : n + m ≤ 8388608) (hlo : lo ≤ w.heap.size)
    (h : ∀ A' c' w', OwnG w' lo w'.heap.size (.slice A' (n + m) c') (n + m) (xs ++ ys) → w.grownBy w' (Value.slice A0 n c0).ownBlock → ((Value.slice A' (n + m) c').ownBlock = (Value.slice A0 n c0).ownBlock ∨ (Value.slice A' (n + m) c').ownBlock = some w.heap.size) → StayA A0 (n * 3) w w' → K (a.put o.dst (.slice A' (n + m) c')) w') :
    if Region.wanted o (yielded ops a.tmps) = true then Oper.wp Try.prog o a w K Q else E := by
  have hw : Region.wanted o (yielded ops a.tmps) = true := by simp [Region.wanted, hgd]
  rw [if_pos hw]
  exact wp_appG w s x ho hs hown hx hr hlen hlo h
/-- A call that began at w returns a new arithmetic circuit. -/
def RetAi (w : World) (p x y : Int) (gs : List G3) (os : List Int) (e : Ending) (w' : World) : Prop :=
  ∃ Ag cg Ao co, e = .returned (.agg #[.int .i64 p, .int .i64 x, .int .i64 y, .slice Ag gs.length cg, .slice Ao os.length co]) ∧ OwnC w' w.heap.size w'.heap.size Ag gs.length cg Ao os.length co gs os ∧ Below w.heap.size w w'

theorem RetAi.mk_ {w : World} {p x y : Int} {gs : List G3} {os : List Int} {e : Ending} {w' : World} {Ag Ao : Option Addr} {ng cg no co : Nat} (hng : gs.length = ng) (hno : os.length = no) (he : e = .returned (.agg #[.int .i64 p, .int .i64 x, .int .i64 y, .slice Ag ng cg, .slice Ao no co])) (hw : OwnC w' w.heap.size w'.heap.size Ag ng cg Ao no co gs os) (hb : Below w.heap.size w w') : RetAi w p x y gs os e w' := by
  subst hng; subst hno; exact ⟨Ag, cg, Ao, co, he, hw, hb⟩
theorem RetAi.open_ {w : World} {p x y : Int} {gs : List G3} {os : List Int} {e : Ending} {w' : World} {ng no : Nat} (h : RetAi w p x y gs os e w') (hng : gs.length = ng) (hno : os.length = no) : ∃ Ag cg Ao co, e = .returned (.agg #[.int .i64 p, .int .i64 x, .int .i64 y, .slice Ag ng cg, .slice Ao no co]) ∧ OwnC w' w.heap.size w'.heap.size Ag ng cg Ao no co gs os ∧ Below w.heap.size w w' := by
  subst hng; subst hno; exact h

/-- The two rows of a circuit that is in the making in box b: neither lies in it. -/
def OwnX (w : World) (lo b : Nat) (Ag : Option Addr) (ng cg : Nat) (Ao : Option Addr) (no co : Nat) (gs : List G3) (os : List Int) : Prop :=
  OwnC w lo w.heap.size Ag ng cg Ao no co gs os ∧ (Value.slice Ag ng cg).ownBlock ≠ some b ∧ (Value.slice Ao no co).ownBlock ≠ some b
section
variable {w w' : World} {lo b : Nat} {Ag Ag' : Option Addr} {ng cg ng' cg' : Nat} {Ao Ao' : Option Addr} {no co no' co' : Nat} {gs gs' : List G3} {os os' : List Int}
theorem OwnX.below_ {B : Nat} (h : OwnX w lo b Ag ng cg Ao no co gs os) (k : Below B w w') (hB : w.heap.size ≤ B) : OwnX w' lo b Ag ng cg Ao no co gs os :=
  ⟨(h.1.below k (.inl hB)).now, h.2⟩
theorem OwnX.store (h : OwnX w lo b Ag ng cg Ao no co gs os) (q : Nat) (u : Value) : OwnX (w.setCell ⟨b, q, none⟩ u) lo b Ag ng cg Ao no co gs os :=
  ⟨⟨by simpa using (h.1.1.far1 ⟨b, q, none⟩ u h.2.1), by simpa using (h.1.2.1.far1 ⟨b, q, none⟩ u h.2.2), h.1.2.2⟩, h.2⟩
theorem OwnX.appG (h : OwnX w lo b Ag ng cg Ao no co gs os) (hb : b < w.heap.size) (ho : OwnG w' lo w'.heap.size (.slice Ag' ng' cg') ng' gs') (hg : w.grownBy w' (Value.slice Ag ng cg).ownBlock)
    (hat : (Value.slice Ag' ng' cg').ownBlock = (Value.slice Ag ng cg).ownBlock ∨ (Value.slice Ag' ng' cg').ownBlock = some w.heap.size) : OwnX w' lo b Ag' ng' cg' Ao no co gs' os := by
  have ha := h.1.2.2
  refine ⟨⟨ho, ⟨(h.1.2.1.1.kept hg ?_), fun g hg' => Nat.lt_of_lt_of_le (h.1.2.1.lt g hg').2.2 hg.size⟩, fun g h1 h2 => ?_⟩, ?_, h.2.2⟩
  · cases hv : (Value.slice Ao no co).ownBlock with
    | none => exact .inl rfl
    | some g => exact .inr (fun he => ha g he.symm hv)
  · rcases hat with h3 | h3
    · exact ha g (h3 ▸ h1) h2
    · rw [h3] at h1; injection h1 with h1; have := h.1.2.1.lt g h2; omega
  · rcases hat with h3 | h3
    · rw [h3]; exact h.2.1
    · rw [h3]; intro hc; injection hc with hc; omega
theorem OwnX.appI (h : OwnX w lo b Ag ng cg Ao no co gs os) (hb : b < w.heap.size) (ho : Own w' lo w'.heap.size (.slice Ao' no' co') no' os') (hg : w.grownBy w' (Value.slice Ao no co).ownBlock)
    (hat : (Value.slice Ao' no' co').ownBlock = (Value.slice Ao no co).ownBlock ∨ (Value.slice Ao' no' co').ownBlock = some w.heap.size) : OwnX w' lo b Ag ng cg Ao' no' co' gs os' := by
  have ha := h.1.2.2
  refine ⟨⟨⟨(h.1.1.1.kept hg ?_), fun g hg' => Nat.lt_of_lt_of_le (h.1.1.lt g hg').2.2 hg.size⟩, ho, fun g h1 h2 => ?_⟩, h.2.1, ?_⟩
  · cases hv : (Value.slice Ag ng cg).ownBlock with
    | none => exact .inl rfl
    | some g => exact .inr (fun he => ha g hv he.symm)
  · rcases hat with h3 | h3
    · exact ha g h1 (h3 ▸ h2)
    · rw [h3] at h2; injection h2 with h2; have := h.1.1.lt g h1; omega
  · rcases hat with h3 | h3
    · rw [h3]; exact h.2.2
    · rw [h3]; intro hc; injection hc with hc; omega
theorem OwnX.of {hi : Nat} (h : OwnC w lo hi Ag ng cg Ao no co gs os) (hb : hi ≤ b) : OwnX w lo b Ag ng cg Ao no co gs os :=
  ⟨h.now, fun hc => by have := h.1.lt b hc; omega, fun hc => by have := h.2.1.lt b hc; omega⟩
theorem BxA.grown {p x y : Int} {r : Option Nat} (h : BxA w b p x y Ag ng cg Ao no co) (k : w.grownBy w' r) (hr : r ≠ some b) : BxA w' b p x y Ag ng cg Ao no co := by
  have hc : ∀ {q : Nat} {v : Value}, w.cell? ⟨b, q, none⟩ = some v → w'.cell? ⟨b, q, none⟩ = some v := fun {q v} hv => (World.cell?_of_block (w := w) (k.block b (World.block_lt_of_cell? w _ hv) (fun e => hr e.symm))).trans hv
  exact ⟨hc h.1, hc h.2.1, hc h.2.2.1, hc h.2.2.2.1, hc h.2.2.2.2⟩
theorem Fz.grown {r : Option Nat} (h : Fz w b) (k : w.grownBy w' r) (hb : b < w.heap.size) (hr : r ≠ some b) : Fz w' b := fun q => (World.frozen?_of_block (w := w) (a := ⟨b, q, none⟩) (k.block b hb (fun e => hr e.symm))).trans (h q)
end
theorem RG_new2 (w : World) (k a b k' a' b' : Int) (t : TypeId) : RG (w.alloc (.cells #[.int .i64 k, .int .i64 a, .int .i64 b, .int .i64 k', .int .i64 a', .int .i64 b'] t)) (some ⟨w.heap.size, 0, none⟩) 2 [⟨k, a, b⟩, ⟨k', a', b'⟩] := by
  refine ⟨rfl, fun _ => ⟨w.heap.size, 0, rfl, by simp, fun j hj => ?_⟩⟩
  rcases (show j = 0 ∨ j = 1 by omega) with rfl | rfl
  · exact ⟨box_cell w _ 0 _ rfl, box_cell w _ 1 _ rfl, box_cell w _ 2 _ rfl⟩
  · exact ⟨box_cell w _ 3 _ rfl, box_cell w _ 4 _ rfl, box_cell w _ 5 _ rfl⟩
/-- The sum and the product of two outs, added. -/
def addGs (gs : List G3) (os : List Int) (i k : Nat) : List G3 := gs ++ [⟨0, gi os i, gi os k⟩, ⟨1, gi os i, gi os k⟩]
def addOs (x y : Int) (gs : List G3) (os : List Int) : List Int := os ++ [x + y + gs.length, x + y + gs.length + 1]
def addOutF (p x y : Int) (gs : List G3) (os : List Int) (i k : Int) : Option Ai :=
  if arB p x y gs os && (inB 0 (os.length - 1) i && (inB 0 (os.length - 1) k && arB p x y (addGs gs os i.toNat k.toNat) (addOs x y gs os))) then some ⟨p, x, y, addGs gs os i.toNat k.toNat, addOs x y gs os⟩ else none
theorem addOutF_len (p x y : Int) (gs : List G3) (os : List Int) (i k : Int) : ((addOutF p x y gs os i k).getD ⟨0, 0, 0, [], []⟩).gs.length ≤ 300 ∧ ((addOutF p x y gs os i k).getD ⟨0, 0, 0, [], []⟩).os.length ≤ 40 := by
  unfold addOutF
  split
  · rename_i h
    simp only [Bool.and_eq_true] at h
    have := arB_bd h.2.2.2
    simp only [Option.getD_some]; omega
  · simp

end Go.Proofs.Ytgenehiiakdadaa
