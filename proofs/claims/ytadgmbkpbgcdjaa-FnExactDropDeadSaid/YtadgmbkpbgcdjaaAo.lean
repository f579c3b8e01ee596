/- Contracts: an arithmetic circuit of one's own; AddOut. -/
import Derived.Test.YtadgmbkpbgcdjaaGd
import Derived.Test.YtadgmbkpbgcdjaaAV
namespace Go.Proofs.Ytadgmbkpbgcdjaa
open Go.RowKit
set_option linter.unusedVariables false
set_option linter.unusedSimpArgs false

section
variable {w w' : World} {b : Nat} {p x y : Int} {Ag A' : Option Addr} {ng cg n' c' : Nat} {Ao : Option Addr} {no co : Nat}
theorem BxA.setG (h : BxA w b p x y Ag ng cg Ao no co) (A' : Option Addr) (n' c' : Nat) : BxA (w.setCell ⟨b, 3, none⟩ (.slice A' n' c')) b p x y A' n' c' Ao no co :=
  ⟨(World.cell?_setCell_other _ _ _ _ (by simp)).trans h.1, (World.cell?_setCell_other _ _ _ _ (by simp)).trans h.2.1, (World.cell?_setCell_other _ _ _ _ (by simp)).trans h.2.2.1, World.cell?_setCell_same _ _ _ h.2.2.2.1, (World.cell?_setCell_other _ _ _ _ (by simp)).trans h.2.2.2.2⟩
theorem BxA.setO (h : BxA w b p x y Ag ng cg Ao no co) (A' : Option Addr) (n' c' : Nat) : BxA (w.setCell ⟨b, 4, none⟩ (.slice A' n' c')) b p x y Ag ng cg A' n' c' :=
  ⟨(World.cell?_setCell_other _ _ _ _ (by simp)).trans h.1, (World.cell?_setCell_other _ _ _ _ (by simp)).trans h.2.1, (World.cell?_setCell_other _ _ _ _ (by simp)).trans h.2.2.1, (World.cell?_setCell_other _ _ _ _ (by simp)).trans h.2.2.2.1, World.cell?_setCell_same _ _ _ h.2.2.2.2⟩
theorem BxA.far (h : BxA w b p x y Ag ng cg Ao no co) (q : Addr) (v : Value) (hq : q.block ≠ b) : BxA (w.setCell q v) b p x y Ag ng cg Ao no co := by
  have hc : ∀ {r : Nat} {u : Value}, w.cell? ⟨b, r, none⟩ = some u → (w.setCell q v).cell? ⟨b, r, none⟩ = some u := fun {r u} hu => (World.cell?_setCell_other _ _ _ _ (fun he => hq (by rw [he]))).trans hu
  exact ⟨hc h.1, hc h.2.1, hc h.2.2.1, hc h.2.2.2.1, hc h.2.2.2.2⟩
theorem BxA.set5 {p0 x0 y0 : Int} {Ag0 : Option Addr} {ng0 cg0 : Nat} {Ao0 : Option Addr} {no0 co0 : Nat} (h : BxA w b p0 x0 y0 Ag0 ng0 cg0 Ao0 no0 co0) (p x y : Int) (Ag : Option Addr) (ng cg : Nat) (Ao : Option Addr) (no co : Nat) :
    BxA (((((w.setCell ⟨b, 0, none⟩ (.int .i64 p)).setCell ⟨b, 1, none⟩ (.int .i64 x)).setCell ⟨b, 2, none⟩ (.int .i64 y)).setCell ⟨b, 3, none⟩ (.slice Ag ng cg)).setCell ⟨b, 4, none⟩ (.slice Ao no co)) b p x y Ag ng cg Ao no co := by
  have h1 : BxA (w.setCell ⟨b, 0, none⟩ (.int .i64 p)) b p x0 y0 Ag0 ng0 cg0 Ao0 no0 co0 := ⟨World.cell?_setCell_same _ _ _ h.1, (World.cell?_setCell_other _ _ _ _ (by simp)).trans h.2.1, (World.cell?_setCell_other _ _ _ _ (by simp)).trans h.2.2.1, (World.cell?_setCell_other _ _ _ _ (by simp)).trans h.2.2.2.1, (World.cell?_setCell_other _ _ _ _ (by simp)).trans h.2.2.2.2⟩
  have h2 : BxA ((w.setCell ⟨b, 0, none⟩ (.int .i64 p)).setCell ⟨b, 1, none⟩ (.int .i64 x)) b p x y0 Ag0 ng0 cg0 Ao0 no0 co0 := ⟨(World.cell?_setCell_other _ _ _ _ (by simp)).trans h1.1, World.cell?_setCell_same _ _ _ h1.2.1, (World.cell?_setCell_other _ _ _ _ (by simp)).trans h1.2.2.1, (World.cell?_setCell_other _ _ _ _ (by simp)).trans h1.2.2.2.1, (World.cell?_setCell_other _ _ _ _ (by simp)).trans h1.2.2.2.2⟩
  have h3 : BxA (((w.setCell ⟨b, 0, none⟩ (.int .i64 p)).setCell ⟨b, 1, none⟩ (.int .i64 x)).setCell ⟨b, 2, none⟩ (.int .i64 y)) b p x y Ag0 ng0 cg0 Ao0 no0 co0 := ⟨(World.cell?_setCell_other _ _ _ _ (by simp)).trans h2.1, (World.cell?_setCell_other _ _ _ _ (by simp)).trans h2.2.1, World.cell?_setCell_same _ _ _ h2.2.2.1, (World.cell?_setCell_other _ _ _ _ (by simp)).trans h2.2.2.2.1, (World.cell?_setCell_other _ _ _ _ (by simp)).trans h2.2.2.2.2⟩
  exact (h3.setG Ag ng cg).setO Ao no co
theorem below_set5 {B : Nat} {a : World} (h : Below B a w) (hB : B ≤ b) (p x y : Int) (Ag : Option Addr) (ng cg : Nat) (Ao : Option Addr) (no co : Nat) :
    Below B a (((((w.setCell ⟨b, 0, none⟩ (.int .i64 p)).setCell ⟨b, 1, none⟩ (.int .i64 x)).setCell ⟨b, 2, none⟩ (.int .i64 y)).setCell ⟨b, 3, none⟩ (.slice Ag ng cg)).setCell ⟨b, 4, none⟩ (.slice Ao no co)) :=
  ((((h.setCell (p := ⟨b, 0, none⟩) hB _).setCell (p := ⟨b, 1, none⟩) hB _).setCell (p := ⟨b, 2, none⟩) hB _).setCell (p := ⟨b, 3, none⟩) hB _).setCell (p := ⟨b, 4, none⟩) hB _
theorem OwnC.set5 {lo hi : Nat} {A1 : Option Addr} {n1 c1 : Nat} {A2 : Option Addr} {n2 c2 : Nat} {gs : List G3} {os : List Int} (h : OwnC w lo hi A1 n1 c1 A2 n2 c2 gs os) (hb : b < lo ∨ hi ≤ b) (p x y : Int) (Ag : Option Addr) (ng cg : Nat) (Ao : Option Addr) (no co : Nat) :
    OwnC (((((w.setCell ⟨b, 0, none⟩ (.int .i64 p)).setCell ⟨b, 1, none⟩ (.int .i64 x)).setCell ⟨b, 2, none⟩ (.int .i64 y)).setCell ⟨b, 3, none⟩ (.slice Ag ng cg)).setCell ⟨b, 4, none⟩ (.slice Ao no co)) lo hi A1 n1 c1 A2 n2 c2 gs os :=
  ((((h.far ⟨b, 0, none⟩ _ hb).far ⟨b, 1, none⟩ _ hb).far ⟨b, 2, none⟩ _ hb).far ⟨b, 3, none⟩ _ hb).far ⟨b, 4, none⟩ _ hb
theorem set5_size (p x y : Int) (Ag : Option Addr) (ng cg : Nat) (Ao : Option Addr) (no co : Nat) :
    (((((w.setCell ⟨b, 0, none⟩ (.int .i64 p)).setCell ⟨b, 1, none⟩ (.int .i64 x)).setCell ⟨b, 2, none⟩ (.int .i64 y)).setCell ⟨b, 3, none⟩ (.slice Ag ng cg)).setCell ⟨b, 4, none⟩ (.slice Ao no co)).heap.size = w.heap.size := by simp
end
theorem OwnG_new0 (w : World) (lo : Nat) (hl : lo ≤ w.heap.size) : OwnG (w.alloc (.cells #[] 60)) lo (w.heap.size + 1) (.slice (some ⟨w.heap.size, 0, none⟩) 0 0) 0 [] := by
  refine ⟨?_, fun g hg => by simp [Value.ownBlock] at hg; omega⟩
  have h := World.ownsRow_lit (base := lo) (e := 60) (size := 3) w #[] 0 hl (by unfold maxLen; omega) (by simp)
  simpa [gcells] using h
theorem step_appG (w : World) {ops : Array Oper} {o : Oper} {a : Act} {K : Act → World → Prop} {Q : Exit → Act → World → Prop} {E : Prop} (hgd : o.guard = none) (s x : Operand)
    (ho : o.op = .call { callee := .builtin .append, args := #[s, x], argTypes := #[27, 27] })
    {lo hi n c0 m c : Nat} {A0 A : Option Addr} {xs ys : List G3} (hs : a.eval s = .slice A0 n c0) (hown : OwnG w lo hi (.slice A0 n c0) n xs) (hx : a.eval x = .slice A m c) (hr : RG w A m ys)
    (hlen : n + m ≤ 8388608) (hlo : lo ≤ w.heap.size)
    (h : ∀ A' c' w', OwnG w' lo w'.heap.size (.slice A' (n + m) c') (n + m) (xs ++ ys) → w.grownBy w' (Value.slice A0 n c0).ownBlock → ((Value.slice A' (n + m) c').ownBlock = (Value.slice A0 n c0).ownBlock ∨ (Value.slice A' (n + m) c').ownBlock = some w.heap.size) → StayA A0 (n * 3) w w' → K (a.put o.dst (.slice A' (n + m) c')) w') :
    if Region.wanted o (yielded ops a.tmps) = true then Oper.wp Try.prog o a w K Q else E := by
  have hw : Region.wanted o (yielded ops a.tmps) = true := by simp [Region.wanted, hgd]
  rw [if_pos hw]
  exact wp_appG w s x ho hs hown hx hr hlen hlo h
/-- A call that began at w returns a new arithmetic circuit. -/
def RetAi (w : World) (p x y : Int) (gs : List G3) (os : List Int) (e : Ending) (w' : World) : Prop :=
  ∃ Ag cg Ao co, e = .returned (.agg #[.int .i64 p, .int .i64 x, .int .i64 y, .slice Ag gs.length cg, .slice Ao os.length co]) ∧ OwnC w' w.heap.size w'.heap.size Ag gs.length cg Ao os.length co gs os ∧ Below w.heap.size w w'

theorem RetAi.mk_ {w : World} {p x y : Int} {gs : List G3} {os : List Int} {e : Ending} {w' : World} {Ag Ao : Option Addr} {ng cg no co : Nat} (hng : gs.length = ng) (hno : os.length = no) (he : e = .returned (.agg #[.int .i64 p, .int .i64 x, .int .i64 y, .slice Ag ng cg, .slice Ao no co])) (hw : OwnC w' w.heap.size w'.heap.size Ag ng cg Ao no co gs os) (hb : Below w.heap.size w w') : RetAi w p x y gs os e w' := by
  subst hng; subst hno; exact ⟨Ag, cg, Ao, co, he, hw, hb⟩
theorem RetAi.open_ {w : World} {p x y : Int} {gs : List G3} {os : List Int} {e : Ending} {w' : World} {ng no : Nat} (h : RetAi w p x y gs os e w') (hng : gs.length = ng) (hno : os.length = no) : ∃ Ag cg Ao co, e = .returned (.agg #[.int .i64 p, .int .i64 x, .int .i64 y, .slice Ag ng cg, .slice Ao no co]) ∧ OwnC w' w.heap.size w'.heap.size Ag ng cg Ao no co gs os ∧ Below w.heap.size w w' := by
  subst hng; subst hno; exact h

set_option maxRecDepth 100000 in
set_option maxHeartbeats 4000000 in
theorem arOwn_any (p x y : Int) (Ag : Option Addr) (ng cg : Nat) (Ao : Option Addr) (no co : Nat) (gs : List G3) (os : List Int) (w : World) (hr : RG w Ag ng gs ∧ RI w Ao no os) (hng : ng ≤ 2097152) (hno : no ≤ 2097152) :
    Calls Try.prog 38 #[.agg #[.int .i64 p, .int .i64 x, .int .i64 y, .slice Ag ng cg, .slice Ao no co]] w (RetAi w p x y gs os) := by
  have hlg := hr.1.len
  have hlo := hr.2.len
  have hB1 : Below w.heap.size w (w.alloc (.cells #[.int .i64 p, .int .i64 x, .int .i64 y, .slice Ag ng cg, .slice Ao no co] 29)) := (Below.refl _ _).alloc (Nat.le_refl _) _
  have hB : Below w.heap.size w ((w.alloc (.cells #[.int .i64 p, .int .i64 x, .int .i64 y, .slice Ag ng cg, .slice Ao no co] 29)).alloc (.cells #[.int .i64 0, .int .i64 0, .int .i64 0, .slice none 0 0, .slice none 0 0] 29)) := hB1.alloc (by simp) _
  have hx0 : BxA ((w.alloc (.cells #[.int .i64 p, .int .i64 x, .int .i64 y, .slice Ag ng cg, .slice Ao no co] 29)).alloc (.cells #[.int .i64 0, .int .i64 0, .int .i64 0, .slice none 0 0, .slice none 0 0] 29)) w.heap.size p x y Ag ng cg Ao no co := (BxA.new w _).below ((Below.refl _ _).alloc (Nat.le_refl _) _)
  have hr0 : BxA ((w.alloc (.cells #[.int .i64 p, .int .i64 x, .int .i64 y, .slice Ag ng cg, .slice Ao no co] 29)).alloc (.cells #[.int .i64 0, .int .i64 0, .int .i64 0, .slice none 0 0, .slice none 0 0] 29)) (w.heap.size + 1) 0 0 0 none 0 0 none 0 0 := by simpa using BxA.new (p := 0) (x := 0) (y := 0) (Ag := none) (ng := 0) (cg := 0) (Ao := none) (no := 0) (co := 0) (w.alloc (.cells #[.int .i64 p, .int .i64 x, .int .i64 y, .slice Ag ng cg, .slice Ao no co] 29)) 29
  have f0 : Fz ((w.alloc (.cells #[.int .i64 p, .int .i64 x, .int .i64 y, .slice Ag ng cg, .slice Ao no co] 29)).alloc (.cells #[.int .i64 0, .int .i64 0, .int .i64 0, .slice none 0 0, .slice none 0 0] 29)) (w.heap.size + 1) := by simpa using Fz.new (w.alloc (.cells #[.int .i64 p, .int .i64 x, .int .i64 y, .slice Ag ng cg, .slice Ao no co] 29)) #[.int .i64 0, .int .i64 0, .int .i64 0, .slice none 0 0, .slice none 0 0] 29
  have hbd := below_drewN hB 1
  have hown0 := OwnG_new0 (((w.alloc (.cells #[.int .i64 p, .int .i64 x, .int .i64 y, .slice Ag ng cg, .slice Ao no co] 29)).alloc (.cells #[.int .i64 0, .int .i64 0, .int .i64 0, .slice none 0 0, .slice none 0 0] 29)).drewN 1) (w.heap.size + 1 + 1) (by simp)
  have hws : (((w.alloc (.cells #[.int .i64 p, .int .i64 x, .int .i64 y, .slice Ag ng cg, .slice Ao no co] 29)).alloc (.cells #[.int .i64 0, .int .i64 0, .int .i64 0, .slice none 0 0, .slice none 0 0] 29)).drewN 1).heap.size = w.heap.size + 1 + 1 := by simp
  rw [hws] at hown0
  have hbA := (below_drewN (Below.refl ((w.alloc (.cells #[.int .i64 p, .int .i64 x, .int .i64 y, .slice Ag ng cg, .slice Ao no co] 29)).alloc (.cells #[.int .i64 0, .int .i64 0, .int .i64 0, .slice none 0 0, .slice none 0 0] 29)).heap.size ((w.alloc (.cells #[.int .i64 p, .int .i64 x, .int .i64 y, .slice Ag ng cg, .slice Ao no co] 29)).alloc (.cells #[.int .i64 0, .int .i64 0, .int .i64 0, .slice none 0 0, .slice none 0 0] 29))) 1).alloc (by simp) (.cells #[] 60)
  have hbA' := hbd.alloc (by simp; omega) (.cells #[] 60)
  go_enter Try.func38, Try.ntmps38
  have hq := hx0; obtain ⟨k0, k1, k2, k3, k4⟩ := hq
  go_wp2_with fail
  go_region_held3 (fun w' => w'.cell? ⟨w.heap.size, 0, none⟩ = some (.int .i64 p) ∧ w'.cell? ⟨w.heap.size, 1, none⟩ = some (.int .i64 x) ∧ w'.cell? ⟨w.heap.size, 2, none⟩ = some (.int .i64 y) ∧ w'.cell? ⟨w.heap.size, 3, none⟩ = some (.slice Ag ng cg) ∧ w'.cell? ⟨w.heap.size, 4, none⟩ = some (.slice Ao no co))
    (first | go_keep | (go_split_ands; exact ⟨hk5 _ _ _ (by assumption) (fun g9 hg9 he9 => by first | omega | (have := hfar _ hg9; omega) | (simp only [Option.some.injEq, Addr.mk.injEq, and_true] at hg9; omega)), hk5 _ _ _ (by assumption) (fun g9 hg9 he9 => by first | omega | (have := hfar _ hg9; omega) | (simp only [Option.some.injEq, Addr.mk.injEq, and_true] at hg9; omega)), hk5 _ _ _ (by assumption) (fun g9 hg9 he9 => by first | omega | (have := hfar _ hg9; omega) | (simp only [Option.some.injEq, Addr.mk.injEq, and_true] at hg9; omega)), hk5 _ _ _ (by assumption) (fun g9 hg9 he9 => by first | omega | (have := hfar _ hg9; omega) | (simp only [Option.some.injEq, Addr.mk.injEq, and_true] at hg9; omega)), hk5 _ _ _ (by assumption) (fun g9 hg9 he9 => by first | omega | (have := hfar _ hg9; omega) | (simp only [Option.some.injEq, Addr.mk.injEq, and_true] at hg9; omega))⟩) | (go_split_ands; exact ⟨cell_below (by assumption) hb6, cell_below (by assumption) hb6, cell_below (by assumption) hb6, cell_below (by assumption) hb6, cell_below (by assumption) hb6⟩))
    (first | (go_at_call 85; refine (l1Own_any Ao no co os _ (hr.2.below (below_appG hbA' hown0 hg5 (by simp; omega) (by omega)) (Nat.le_refl _)) hno).mono ?_; rintro e w6 ⟨A6, c6, rfl, hown6, hb6⟩; have hx6 := (hr0.below (below_appG hbA hown0 hg5 (by simp) (by simp))).below hb6; have f6 : Fz w6 (w.heap.size + 1) := (f0.below (below_appG hbA hown0 hg5 (by simp) (by simp)) (by simp)).below hb6 (by have := hg5.size; simp at this; omega); have hq6 := hx6; obtain ⟨r0, r1, r2, r3, r4⟩ := hq6; have g0 := f6 0; have g1 := f6 1; have g2 := f6 2; have g3 := f6 3; have g4 := f6 4) | (refine step_appG _ (by rfl) _ _ (by rfl) (by rfl) (hown0) (by rfl) ((hr.1.below hbA' (Nat.le_refl _))) (by omega) (by first | omega | (simp; done) | (simp; omega)) ?_; intro A5 c5 w5 hown5 hg5 hat5 hk5))
  have hbG := below_appG hbA' hown0 hg5 (by simp; omega) (by omega)
  have hB6 := hbG.trans (hb6.mono hbG.size)
  simp only [Nat.zero_add, List.nil_append] at hown5
  have hz6 := hb6.size
  have hO : OwnC w6 (w.heap.size + 1 + 1) w6.heap.size A5 ng c5 A6 no c6 gs os := ⟨(hown5.below hb6 (.inl (Nat.le_refl _))).hi_ hz6, hown6.lo_ (by have := hg5.size; simp at this; omega), Apart.of_lt hown5 hown6 (.inl (Nat.le_refl _))⟩
  clear hown5 hown6 hg5 hat5 hk5 hb6 hown0 hbA hbA' hbd hr0 hx0 f0 hbG
  go_wp2
  have hq9 := BxA.set5 (hx6) p x y A5 ng c5 A6 no c6
  obtain ⟨q0, q1, q2, q3, q4⟩ := hq9
  refine bodyPost_ret (v := .agg #[.int .i64 p, .int .i64 x, .int .i64 y, .slice A5 ng c5, .slice A6 no c6]) (by simp [results, Try.results38, go_sem, q0, q1, q2, q3, q4]) rfl ?_
  exact RetAi.mk_ hlg hlo rfl (by rw [set5_size]; exact ((hO.set5 (.inl (by omega)) _ _ _ _ _ _ _ _ _).lo_ (by omega))) (below_set5 hB6 (by omega) _ _ _ _ _ _ _ _ _)

/-- The two rows of a circuit that is in the making in box b: neither lies in it. -/
def OwnX (w : World) (lo b : Nat) (Ag : Option Addr) (ng cg : Nat) (Ao : Option Addr) (no co : Nat) (gs : List G3) (os : List Int) : Prop :=
  OwnC w lo w.heap.size Ag ng cg Ao no co gs os ∧ (Value.slice Ag ng cg).ownBlock ≠ some b ∧ (Value.slice Ao no co).ownBlock ≠ some b
section
variable {w w' : World} {lo b : Nat} {Ag Ag' : Option Addr} {ng cg ng' cg' : Nat} {Ao Ao' : Option Addr} {no co no' co' : Nat} {gs gs' : List G3} {os os' : List Int}
theorem OwnX.below_ {B : Nat} (h : OwnX w lo b Ag ng cg Ao no co gs os) (k : Below B w w') (hB : w.heap.size ≤ B) : OwnX w' lo b Ag ng cg Ao no co gs os :=
  ⟨(h.1.below k (.inl hB)).now, h.2⟩
theorem OwnX.store (h : OwnX w lo b Ag ng cg Ao no co gs os) (q : Nat) (u : Value) : OwnX (w.setCell ⟨b, q, none⟩ u) lo b Ag ng cg Ao no co gs os :=
  ⟨⟨by simpa using (h.1.1.far1 ⟨b, q, none⟩ u h.2.1), by simpa using (h.1.2.1.far1 ⟨b, q, none⟩ u h.2.2), h.1.2.2⟩, h.2⟩
theorem OwnX.appG (h : OwnX w lo b Ag ng cg Ao no co gs os) (hb : b < w.heap.size) (ho : OwnG w' lo w'.heap.size (.slice Ag' ng' cg') ng' gs') (hg : w.grownBy w' (Value.slice Ag ng cg).ownBlock)
    (hat : (Value.slice Ag' ng' cg').ownBlock = (Value.slice Ag ng cg).ownBlock ∨ (Value.slice Ag' ng' cg').ownBlock = some w.heap.size) : OwnX w' lo b Ag' ng' cg' Ao no co gs' os := by
  have ha := h.1.2.2
  refine ⟨⟨ho, ⟨(h.1.2.1.1.kept hg ?_), fun g hg' => Nat.lt_of_lt_of_le (h.1.2.1.lt g hg').2.2 hg.size⟩, fun g h1 h2 => ?_⟩, ?_, h.2.2⟩
  · cases hv : (Value.slice Ao no co).ownBlock with
    | none => exact .inl rfl
    | some g => exact .inr (fun he => ha g he.symm hv)
  · rcases hat with h3 | h3
    · exact ha g (h3 ▸ h1) h2
    · rw [h3] at h1; injection h1 with h1; have := h.1.2.1.lt g h2; omega
  · rcases hat with h3 | h3
    · rw [h3]; exact h.2.1
    · rw [h3]; intro hc; injection hc with hc; omega
theorem OwnX.appI (h : OwnX w lo b Ag ng cg Ao no co gs os) (hb : b < w.heap.size) (ho : Own w' lo w'.heap.size (.slice Ao' no' co') no' os') (hg : w.grownBy w' (Value.slice Ao no co).ownBlock)
    (hat : (Value.slice Ao' no' co').ownBlock = (Value.slice Ao no co).ownBlock ∨ (Value.slice Ao' no' co').ownBlock = some w.heap.size) : OwnX w' lo b Ag ng cg Ao' no' co' gs os' := by
  have ha := h.1.2.2
  refine ⟨⟨⟨(h.1.1.1.kept hg ?_), fun g hg' => Nat.lt_of_lt_of_le (h.1.1.lt g hg').2.2 hg.size⟩, ho, fun g h1 h2 => ?_⟩, h.2.1, ?_⟩
  · cases hv : (Value.slice Ag ng cg).ownBlock with
    | none => exact .inl rfl
    | some g => exact .inr (fun he => ha g hv he.symm)
  · rcases hat with h3 | h3
    · exact ha g h1 (h3 ▸ h2)
    · rw [h3] at h2; injection h2 with h2; have := h.1.1.lt g h1; omega
  · rcases hat with h3 | h3
    · rw [h3]; exact h.2.2
    · rw [h3]; intro hc; injection hc with hc; omega
theorem OwnX.of {hi : Nat} (h : OwnC w lo hi Ag ng cg Ao no co gs os) (hb : hi ≤ b) : OwnX w lo b Ag ng cg Ao no co gs os :=
  ⟨h.now, fun hc => by have := h.1.lt b hc; omega, fun hc => by have := h.2.1.lt b hc; omega⟩
theorem BxA.grown {p x y : Int} {r : Option Nat} (h : BxA w b p x y Ag ng cg Ao no co) (k : w.grownBy w' r) (hr : r ≠ some b) : BxA w' b p x y Ag ng cg Ao no co := by
  have hc : ∀ {q : Nat} {v : Value}, w.cell? ⟨b, q, none⟩ = some v → w'.cell? ⟨b, q, none⟩ = some v := fun {q v} hv => (World.cell?_of_block (w := w) (k.block b (World.block_lt_of_cell? w _ hv) (fun e => hr e.symm))).trans hv
  exact ⟨hc h.1, hc h.2.1, hc h.2.2.1, hc h.2.2.2.1, hc h.2.2.2.2⟩
theorem Fz.grown {r : Option Nat} (h : Fz w b) (k : w.grownBy w' r) (hb : b < w.heap.size) (hr : r ≠ some b) : Fz w' b := fun q => (World.frozen?_of_block (w := w) (a := ⟨b, q, none⟩) (k.block b hb (fun e => hr e.symm))).trans (h q)
end
theorem RG_new2 (w : World) (k a b k' a' b' : Int) (t : TypeId) : RG (w.alloc (.cells #[.int .i64 k, .int .i64 a, .int .i64 b, .int .i64 k', .int .i64 a', .int .i64 b'] t)) (some ⟨w.heap.size, 0, none⟩) 2 [⟨k, a, b⟩, ⟨k', a', b'⟩] := by
  refine ⟨rfl, fun _ => ⟨w.heap.size, 0, rfl, by simp, fun j hj => ?_⟩⟩
  rcases (show j = 0 ∨ j = 1 by omega) with rfl | rfl
  · exact ⟨box_cell w _ 0 _ rfl, box_cell w _ 1 _ rfl, box_cell w _ 2 _ rfl⟩
  · exact ⟨box_cell w _ 3 _ rfl, box_cell w _ 4 _ rfl, box_cell w _ 5 _ rfl⟩
/-- The sum and the product of two outs, added. -/
def addGs (gs : List G3) (os : List Int) (i k : Nat) : List G3 := gs ++ [⟨0, gi os i, gi os k⟩, ⟨1, gi os i, gi os k⟩]
def addOs (x y : Int) (gs : List G3) (os : List Int) : List Int := os ++ [x + y + gs.length, x + y + gs.length + 1]
def addOutF (p x y : Int) (gs : List G3) (os : List Int) (i k : Int) : Option Ai :=
  if arB p x y gs os && (inB 0 (os.length - 1) i && (inB 0 (os.length - 1) k && arB p x y (addGs gs os i.toNat k.toNat) (addOs x y gs os))) then some ⟨p, x, y, addGs gs os i.toNat k.toNat, addOs x y gs os⟩ else none
theorem addOutF_len (p x y : Int) (gs : List G3) (os : List Int) (i k : Int) : ((addOutF p x y gs os i k).getD ⟨0, 0, 0, [], []⟩).gs.length ≤ 300 ∧ ((addOutF p x y gs os i k).getD ⟨0, 0, 0, [], []⟩).os.length ≤ 40 := by
  unfold addOutF
  split
  · rename_i h
    simp only [Bool.and_eq_true] at h
    have := arB_bd h.2.2.2
    simp only [Option.getD_some]; omega
  · simp

end Go.Proofs.Ytadgmbkpbgcdjaa
