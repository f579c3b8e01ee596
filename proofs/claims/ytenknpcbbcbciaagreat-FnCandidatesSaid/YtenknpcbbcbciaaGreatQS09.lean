/- Words of a maker whose outs are any slice. -/
import Derived.Deep.RegionLaw
import Derived.Test.YtenknpcbbcbciaaGreatQS08
namespace Go.Proofs.YtenknpcbbcbciaaGreat
open Go.RowKit
set_option linter.unusedVariables false
set_option linter.unusedSimpArgs false
theorem wpList_app_off (w : World) {ops : Array Oper} {rest : List Oper} {o : Oper} {a : Act} {Q : Exit → Act → World → Prop} (hgd : o.guard = none) (s x : Operand)
 (ho : o.op = .call { callee := .builtin .append, args := #[s, x], argTypes := #[24, 24] })
 {lo hi g n oc q c : Nat} {xs : List Int} {v : Int} (hs : a.eval s = .slice (some ⟨g, 1, none⟩) (n - 1) (oc - 1)) (hown : Own w lo hi (.slice (some ⟨g, 0, none⟩) n oc) n xs) (hx : a.eval x = .slice (some ⟨q, 0, none⟩) 1 c) (hr : RI w (some ⟨q, 0, none⟩) 1 [v])
 (hn : 2 ≤ n) (hn2 : n ≤ 1000) (hlo : lo ≤ w.heap.size)
 (h : ∀ gA oA c' w', RI w' (some ⟨gA, oA, none⟩) n (xs.drop 1 ++ [v]) → RI w' (some ⟨g, 0, none⟩) 1 (xs.take 1) → w.grownBy w' (some g) → (gA = g ∨ gA = w.heap.size) → wpList Tryz.prog ops Q rest (a.put o.dst (.slice (some ⟨gA, oA, none⟩) n c')) w') : wpList Tryz.prog ops Q (o :: rest) a w := by
 refine wpList_plain hgd fun _ hK => ?_
 obtain ⟨gA, oA, c', w', hrun, h2, h3, h4, h5⟩ := run_app_off w o.type lo hi g n oc q c xs v hown hn hn2 hlo hr
 unfold Oper.wp execOp
 simp only [ho, resolve, invoke, builtin, Sem.run_bind, Sem.run_pure, Result.andThen_ok, List.map_toArray, List.map_cons, List.map_nil, hs, hx, hrun]
 exact hK _ _ (h gA oA c' w' h2 h3 h4 h5)
theorem take_succ_append {A B : List Int} {k : Nat} (h : A.length = k) (hB : B ≠ []) : (A ++ B).take (k + 1) = A ++ [gi B 0] := by
 subst h
 cases B with
 | nil => exact absurd rfl hB
 | cons a l => rw [List.take_length_add_append]; simp [gi]
theorem drop_succ_append {A B : List Int} {k : Nat} (h : A.length = k) : (A ++ B).drop (k + 1) = B.drop 1 := by
 subst h; rw [List.drop_length_add_append]
theorem RM.below_ {w w' : World} {b n B : Nat} {G : Option Nat} {A : Option Addr} {xs : List Int} (h : RM w b G A n xs) (k : Below B w w') (hB : w.heap.size ≤ B) : RM w' b G A n xs := ⟨h.1.below k hB, h.2⟩
def RH (w : World) (b : Nat) (G : Option Nat) (hi : Nat) (A : Option Addr) (n : Nat) (xs : List Int) : Prop := RM w b G A n xs ∧ (0 < n → ∀ k o, A = some ⟨k, o, none⟩ → k < hi)
theorem RM.toRH {w : World} {b n : Nat} {G : Option Nat} {A : Option Addr} {xs : List Int} (h : RM w b G A n xs) : RH w b G w.heap.size A n xs := ⟨h, fun hn k o hA => by
 obtain ⟨j, q, hA', hlt, _⟩ := h.1.2 hn
 rw [hA] at hA'
 simp only [Option.some.injEq, Addr.mk.injEq, and_true] at hA'
 omega⟩
theorem RH.mv {w w' : World} {b n hi : Nat} {G G' : Option Nat} {A : Option Addr} {xs : List Int} (h : RH w b G hi A n xs) (k : Mv b G G' w w') : RH w' b G' hi A n xs := ⟨RM.mv h.1 k, h.2⟩
theorem RH.below_ {w w' : World} {b n B hi : Nat} {G : Option Nat} {A : Option Addr} {xs : List Int} (h : RH w b G hi A n xs) (k : Below B w w') (hB : w.heap.size ≤ B) : RH w' b G hi A n xs := ⟨RM.below_ h.1 k hB, h.2⟩
theorem RH.alloc_ {w : World} {b n hi : Nat} {G : Option Nat} {A : Option Addr} {xs : List Int} (h : RH w b G hi A n xs) (o : Obj) : RH (w.alloc o) b G hi A n xs := h.below_ ((Below.refl _ _).alloc lR o) lR
theorem RH.app {w w' : World} {b n hi lo' m c : Nat} {G : Option Nat} {A A' : Option Addr} {xs ys : List Int} (h : RH w b G hi A n xs) (ho : OM w b G lo' (.slice A' m c) m ys) (hg : w.grownBy w' (Value.slice A' m c).ownBlock) (hl : hi ≤ lo') : RH w' b G hi A n xs := by
 refine ⟨⟨⟨h.1.1.1, fun hn => ?_⟩, h.1.2⟩, h.2⟩
 obtain ⟨j, o, hA, hlt, hc⟩ := h.1.1.2 hn
 have hj := h.2 hn j o hA
 refine ⟨j, o, hA, Nat.lt_of_lt_of_le hlt hg.size, fun i hi => ?_⟩
 rw [← hc i hi]
 exact World.cell?_of_block (w := w) (a := ⟨j, o + i, none⟩) (hg.block j hlt (fun he => by have := ho.1.lt j he.symm; omega))
def TSt (w : World) (b : Nat) (G : Option Nat) (lo n k : Nat) (vo vs : Value) (o : List Int) : Prop :=
 (k = 0 ∧ vo = .slice none 0 0 ∧ vs = .slice none 0 0) ∨
 (k = 1 ∧ ∃ g oc, vo = .slice (some ⟨g, 0, none⟩) 1 oc ∧ vs = .slice (if oc - 1 = 0 then some ⟨g, 0, none⟩ else some ⟨g, 1, none⟩) (n - 1) (oc - 1) ∧ OM w b G lo (.slice (some ⟨g, 0, none⟩) n oc) n o) ∨
 (2 ≤ k ∧ ∃ OA oc SA sc, vo = .slice OA k oc ∧ vs = .slice SA n sc ∧ RM w b G OA k (o.take k) ∧ RM w b G SA n (o.drop k))
structure OQ where
 (A : Option Addr) (n c : Nat)
def MkQ (Qo : OQ) (w : World) (lo b : Nat) (x y : Int) (gs : List G3) (G : Option Nat) : Prop := MkO w lo b x y Qo.A Qo.n Qo.c gs G
section
variable {Qo : OQ} {w w' : World} {lo lo' b n : Nat} {x y : Int} {gs : List G3} {G : Option Nat}
theorem MkQ.lt (h : MkQ Qo w lo b x y gs G) : ∀ g, G = some g → lo ≤ g ∧ g < w.heap.size := MkO.lt h
theorem MkQ.below_ {B : Nat} (h : MkQ Qo w lo b x y gs G) (k : Below B w w') (hB : w.heap.size ≤ B) : MkQ Qo w' lo b x y gs G := MkO.below_ h k hB
theorem MkQ.alloc_ (h : MkQ Qo w lo b x y gs G) (o : Obj) : MkQ Qo (w.alloc o) lo b x y gs G := MkO.alloc_ h o
theorem MkQ.drewN_ (h : MkQ Qo w lo b x y gs G) (k : Nat) : MkQ Qo (w.drewN k) lo b x y gs G := h
theorem MkQ.grown_ {r : Option Nat} (h : MkQ Qo w lo b x y gs G) (k : w.grownBy w' r) (hb : r ≠ some b) (hG : ∀ g, r = some g → G ≠ some g) : MkQ Qo w' lo b x y gs G := MkO.grown_ h k hb hG
theorem MkQ.app {c : Nat} {A : Option Addr} {xs : List Int} (hm : MkQ Qo w lo' b x y gs G) (h : OM w b G lo (.slice A n c) n xs) (hg : w.grownBy w' (Value.slice A n c).ownBlock) : MkQ Qo w' lo' b x y gs G :=
 hm.grown_ hg (fun hc => (h.2 b hc).1 rfl) (fun g hc => (h.2 g hc).2)
theorem OM.appQ {m c c' : Nat} {A A' : Option Addr} {xs ys : List Int} (h : OM w b G lo (.slice A n c) n xs) (hm : MkQ Qo w lo' b x y gs G)
 (ho : Own w' lo w'.heap.size (.slice A' m c') m ys) (hat : (Value.slice A' m c').ownBlock = (Value.slice A n c).ownBlock ∨ (Value.slice A' m c').ownBlock = some w.heap.size) : OM w' b G lo (.slice A' m c') m ys := by
 refine ⟨ho, fun g hg => ?_⟩
 rcases hat with h1 | h1
 ·exact h.2 g (h1 ▸ hg)
 ·rw [h1] at hg; injection hg with hg; subst hg
  exact ⟨by have := hm.1; omega, fun hc => by have := hm.lt _ hc; omega⟩
theorem OM.newQ (hm : MkQ Qo w lo' b x y gs G) (ys : List Int) (n : Nat) (hn : ys.length = n) (hl : lo ≤ w.heap.size) (hb : n ≤ 4194304) :
 OM (w.alloc (.cells (ys.map (Value.int .i64)).toArray 3)) b G lo (.slice (some ⟨w.heap.size, 0, none⟩) n n) n ys :=
 ⟨(Own_new w ys n lo hn hl hb).now, fun g hg => by
  have hgg : w.heap.size = g := by simpa [Value.ownBlock] using hg
  subst hgg
  exact ⟨by have := hm.1; omega, fun hc => by have := hm.lt _ hc; omega⟩⟩
theorem OM.new0Q (hm : MkQ Qo w lo' b x y gs G) (hl : lo ≤ w.heap.size) : OM (w.alloc (.cells #[] 3)) b G lo (.slice (some ⟨w.heap.size, 0, none⟩) 0 0) 0 [] := by
 simpa using OM.newQ hm [] 0 rfl hl (by omega)
theorem OM.new1Q (hm : MkQ Qo w lo' b x y gs G) (v : Int) (hl : lo ≤ w.heap.size) : OM (w.alloc (.cells #[.int .i64 v] 3)) b G lo (.slice (some ⟨w.heap.size, 0, none⟩) 1 1) 1 [v] := by
 simpa using OM.newQ hm [v] 1 rfl hl (by omega)
theorem OM.ofOwnQ {v : Value} {xs : List Int} (hm : MkQ Qo w lo' b x y gs G) (h : Own w' lo w'.heap.size v n xs) (hl : w.heap.size ≤ lo) : OM w' b G lo v n xs :=
 ⟨h, fun g hg => ⟨by have := h.lt g hg; have := hm.1; omega, fun hc => by have := h.lt g hg; have := hm.lt _ hc; omega⟩⟩
def RetWQ (Qo : OQ) (lo b : Nat) (x y : Int) (gs : List G3) (G : Option Nat) (v : Int) (w : World) (e : Ending) (w' : World) : Prop :=
 ∃ G', e = .returned (.int .i64 v) ∧ MkQ Qo w' lo b x y gs G' ∧ Mv b G G' w w'
def RetAdQ (Qo : OQ) (lo b : Nat) (x y : Int) (s : Ad) (G : Option Nat) (n : Nat) (w : World) (e : Ending) (w' : World) : Prop :=
 ∃ G' O oc, e = .returned (.tuple #[.slice O n oc, .int .i64 s.c]) ∧ MkQ Qo w' lo b x y s.g G' ∧ Mv b G G' w w' ∧ OM w' b G' w.heap.size (.slice O n oc) n s.o
def RetRowQ (Qo : OQ) (lo b : Nat) (x y : Int) (gs : List G3) (os : List Int) (G : Option Nat) (w : World) (e : Ending) (w' : World) : Prop :=
 ∃ G' O oc, e = .returned (.slice O os.length oc) ∧ MkQ Qo w' lo b x y gs G' ∧ Mv b G G' w w' ∧ OM w' b G' w.heap.size (.slice O os.length oc) os.length os
theorem RetRowQ.mk_ {os : List Int} {G' : Option Nat} {e : Ending} {O : Option Addr} {oc : Nat} (hn : os.length = n) (he : e = .returned (.slice O n oc)) (hm : MkQ Qo w' lo b x y gs G') (hv : Mv b G G' w w') (ho : OM w' b G' w.heap.size (.slice O n oc) n os) : RetRowQ Qo lo b x y gs os G w e w' := by
 subst hn; exact ⟨G', O, oc, he, hm, hv, ho⟩
theorem RetRowQ.open_ {os : List Int} {e : Ending} (h : RetRowQ Qo lo b x y gs os G w e w') (hn : os.length = n) :
 ∃ G' O oc, e = .returned (.slice O n oc) ∧ MkQ Qo w' lo b x y gs G' ∧ Mv b G G' w w' ∧ OM w' b G' w.heap.size (.slice O n oc) n os := by
 subst hn; exact h
end
variable {Qo : OQ}
set_option maxHeartbeats 800000 in
theorem Zcu (lo b : Nat) (x y : Int) (gs : List G3) (G : Option Nat) (k p q : Int) (w : World) (hm : MkQ Qo w lo b x y gs G) (hx : 0 ≤ x ∧ x ≤ 20) (hy : 0 ≤ y ∧ y ≤ 20) (hn : gs.length ≤ 100000) (hlo : lo ≤ w.heap.size) :
 Calls Tryz.prog 167 #[.pointer (some ⟨b, 0, none⟩), .int .i64 k, .int .i64 p, .int .i64 q] w (RetWQ Qo lo b x y (gs ++ [⟨k, p, q⟩]) G (x + y + gs.length) w) := by
 obtain ⟨h1, h2, hf, Ag, cg, hbx, hown, rfl⟩ := hm
 have hal : Below w.heap.size w (w.alloc (.cells #[.int .i64 k, .int .i64 p, .int .i64 q] 104)) := bA
 have hownA := hown.alloc (.cells #[.int .i64 k, .int .i64 p, .int .i64 q] 104)
 have hbxA := hbx.below hal
 have hbb : b < (w.alloc (.cells #[.int .i64 k, .int .i64 p, .int .i64 q] 104)).heap.size := by simp; omega
 have hfA : ∀ r : Nat, (w.alloc (.cells #[.int .i64 k, .int .i64 p, .int .i64 q] 104)).frozen? ⟨b, r, none⟩ = false := fun r => (hal.frozen (p := ⟨b, r, none⟩) h1).trans (hf r)
 have hq := hbx; obtain ⟨k0, k1, k2, k3⟩ := hq
 go_enter Tryz.func167, Tryz.ntmps167
 go_wp2_with (at_builtin; refine wpList_appG _ rfl _ _ rfl rfl hownA rfl (RG_new1 _ _ _ _ _) (by omega) (by simp; omega) ?_; intro A5 c5 w5 hown5 hg5 hat5 hk5; obtain ⟨hmk, hmv⟩ := MkO.made hbb h2 hfA hbxA hown5 hg5 hat5; have hq5 := hbxA.grown hg5 h2; obtain ⟨j0, j1, j2, j3⟩ := hq5; have hq6 := hmk; obtain ⟨_, _, hf6, A6, c6, hx6, _, _⟩ := hq6; have hf5 : w5.frozen? ⟨b, 2, none⟩ = false := (World.frozen?_setCell _ _ _ _).symm.trans (hf6 2); obtain ⟨i0, i1, i2, i3⟩ := hx6)
 have q1 : x + y + ((gs.length : Int) + 1) - 1 = x + y + gs.length := by omega
 clear j0 j1 j2 j3 i0 i1 i2 i3
 refine (Zet x y A6 (gs.length + 1) c6 Qo.A Qo.n Qo.c _ hx hy (by omega)).mono ?_
 rintro e w6 ⟨rfl, hb6⟩
 go_wp2
 go_ret
 exact ⟨_, by rw [← q1]; rfl, MkO.below_ hmk hb6 lR, (((Mv.refl_ b _ w).alloc_ _).trans_ hmv).below_ hb6 lR⟩
set_option maxHeartbeats 800000 in
theorem Zcj (lo b : Nat) (x y : Int) (gs : List G3) (G : Option Nat) (k p q : Int) (w : World) (hm : MkQ Qo w lo b x y gs G) (hx : 0 ≤ x ∧ x ≤ 20) (hy : 0 ≤ y ∧ y ≤ 20) (hn : gs.length ≤ 100000) (hlo : lo ≤ w.heap.size) :
 Calls Tryz.prog 147 #[.pointer (some ⟨b, 0, none⟩), .int .i64 k, .int .i64 p, .int .i64 q] w (RetWQ Qo lo b x y (gs ++ [⟨k, p, q⟩]) G (x + y + gs.length) w) := by
 obtain ⟨h1, h2, hf, Ag, cg, hbx, hown, rfl⟩ := hm
 have hal : Below w.heap.size w (w.alloc (.cells #[.int .i64 k, .int .i64 p, .int .i64 q] 104)) := bA
 have hownA := hown.alloc (.cells #[.int .i64 k, .int .i64 p, .int .i64 q] 104)
 have hbxA := hbx.below hal
 have hbb : b < (w.alloc (.cells #[.int .i64 k, .int .i64 p, .int .i64 q] 104)).heap.size := by simp; omega
 have hfA : ∀ r : Nat, (w.alloc (.cells #[.int .i64 k, .int .i64 p, .int .i64 q] 104)).frozen? ⟨b, r, none⟩ = false := fun r => (hal.frozen (p := ⟨b, r, none⟩) h1).trans (hf r)
 have hq := hbx; obtain ⟨k0, k1, k2, k3⟩ := hq
 go_enter Tryz.func147, Tryz.ntmps147
 go_wp2_with (at_builtin; refine wpList_appG _ rfl _ _ rfl rfl hownA rfl (RG_new1 _ _ _ _ _) (by omega) (by simp; omega) ?_; intro A5 c5 w5 hown5 hg5 hat5 hk5; obtain ⟨hmk, hmv⟩ := MkO.made hbb h2 hfA hbxA hown5 hg5 hat5; have hq5 := hbxA.grown hg5 h2; obtain ⟨j0, j1, j2, j3⟩ := hq5; have hq6 := hmk; obtain ⟨_, _, hf6, A6, c6, hx6, _, _⟩ := hq6; have hf5 : w5.frozen? ⟨b, 2, none⟩ = false := (World.frozen?_setCell _ _ _ _).symm.trans (hf6 2); obtain ⟨i0, i1, i2, i3⟩ := hx6)
 have q1 : x + y + ((gs.length : Int) + 1) - 1 = x + y + gs.length := by omega
 clear j0 j1 j2 j3 i0 i1 i2 i3
 refine (ciWires_any x y A6 (gs.length + 1) c6 Qo.A Qo.n Qo.c _ hx hy (by omega)).mono ?_
 rintro e w6 ⟨rfl, hb6⟩
 go_wp2
 go_ret
 exact ⟨_, by rw [← q1]; rfl, MkO.below_ hmk hb6 lR, (((Mv.refl_ b _ w).alloc_ _).trans_ hmv).below_ hb6 lR⟩
variable {Qo : OQ}
theorem maker_xorQ_any (lo b : Nat) (x y : Int) (gs : List G3) (G : Option Nat) (p q : Int) (w : World) (hm : MkQ Qo w lo b x y gs G) (hx : 0 ≤ x ∧ x ≤ 20) (hy : 0 ≤ y ∧ y ≤ 20) (hn : gs.length ≤ 100000) (hlo : lo ≤ w.heap.size) :
 Calls Tryz.prog 166 #[.pointer (some ⟨b, 0, none⟩), .int .i64 p, .int .i64 q] w (RetWQ Qo lo b x y (gs ++ [⟨0, p, q⟩]) G (x + y + gs.length) w) := by
 go_enter Tryz.func166, Tryz.ntmps166
 go_wp2_with fail
 refine (Zcu lo b x y gs G 0 p q w hm hx hy hn hlo).mono ?_
 rintro e w1 ⟨G1, rfl, hm1, hv1⟩
 go_wp2
 go_ret
 exact ⟨G1, rfl, hm1, hv1⟩
theorem maker_andQ_any (lo b : Nat) (x y : Int) (gs : List G3) (G : Option Nat) (p q : Int) (w : World) (hm : MkQ Qo w lo b x y gs G) (hx : 0 ≤ x ∧ x ≤ 20) (hy : 0 ≤ y ∧ y ≤ 20) (hn : gs.length ≤ 100000) (hlo : lo ≤ w.heap.size) :
 Calls Tryz.prog 165 #[.pointer (some ⟨b, 0, none⟩), .int .i64 p, .int .i64 q] w (RetWQ Qo lo b x y (gs ++ [⟨1, p, q⟩]) G (x + y + gs.length) w) := by
 go_enter Tryz.func165, Tryz.ntmps165
 go_wp2_with fail
 refine (Zcu lo b x y gs G 1 p q w hm hx hy hn hlo).mono ?_
 rintro e w1 ⟨G1, rfl, hm1, hv1⟩
 go_wp2
 go_ret
 exact ⟨G1, rfl, hm1, hv1⟩
theorem ciMaker_xorQ_any (lo b : Nat) (x y : Int) (gs : List G3) (G : Option Nat) (p q : Int) (w : World) (hm : MkQ Qo w lo b x y gs G) (hx : 0 ≤ x ∧ x ≤ 20) (hy : 0 ≤ y ∧ y ≤ 20) (hn : gs.length ≤ 100000) (hlo : lo ≤ w.heap.size) :
 Calls Tryz.prog 146 #[.pointer (some ⟨b, 0, none⟩), .int .i64 p, .int .i64 q] w (RetWQ Qo lo b x y (gs ++ [⟨0, p, q⟩]) G (x + y + gs.length) w) := by
 go_enter Tryz.func146, Tryz.ntmps146
 go_wp2_with fail
 refine (Zcj lo b x y gs G 0 p q w hm hx hy hn hlo).mono ?_
 rintro e w1 ⟨G1, rfl, hm1, hv1⟩
 go_wp2
 go_ret
 exact ⟨G1, rfl, hm1, hv1⟩
theorem ciMaker_andQ_any (lo b : Nat) (x y : Int) (gs : List G3) (G : Option Nat) (p q : Int) (w : World) (hm : MkQ Qo w lo b x y gs G) (hx : 0 ≤ x ∧ x ≤ 20) (hy : 0 ≤ y ∧ y ≤ 20) (hn : gs.length ≤ 100000) (hlo : lo ≤ w.heap.size) :
 Calls Tryz.prog 145 #[.pointer (some ⟨b, 0, none⟩), .int .i64 p, .int .i64 q] w (RetWQ Qo lo b x y (gs ++ [⟨1, p, q⟩]) G (x + y + gs.length) w) := by
 go_enter Tryz.func145, Tryz.ntmps145
 go_wp2_with fail
 refine (Zcj lo b x y gs G 1 p q w hm hx hy hn hlo).mono ?_
 rintro e w1 ⟨G1, rfl, hm1, hv1⟩
 go_wp2
 go_ret
 exact ⟨G1, rfl, hm1, hv1⟩
theorem maker_notQ_any (lo b : Nat) (x y : Int) (gs : List G3) (G : Option Nat) (p : Int) (w : World) (hm : MkQ Qo w lo b x y gs G) (hx : 0 ≤ x ∧ x ≤ 20) (hy : 0 ≤ y ∧ y ≤ 20) (hn : gs.length ≤ 100000) (hlo : lo ≤ w.heap.size) :
 Calls Tryz.prog 153 #[.pointer (some ⟨b, 0, none⟩), .int .i64 p] w (RetWQ Qo lo b x y (gs ++ [⟨2, p, 0⟩]) G (x + y + gs.length) w) := by
 go_enter Tryz.func153, Tryz.ntmps153
 go_wp2_with fail
 refine (Zcu lo b x y gs G 2 p 0 w hm hx hy hn hlo).mono ?_
 rintro e w1 ⟨G1, rfl, hm1, hv1⟩
 go_wp2
 go_ret
 exact ⟨G1, rfl, hm1, hv1⟩
theorem ciMaker_notQ_any (lo b : Nat) (x y : Int) (gs : List G3) (G : Option Nat) (p : Int) (w : World) (hm : MkQ Qo w lo b x y gs G) (hx : 0 ≤ x ∧ x ≤ 20) (hy : 0 ≤ y ∧ y ≤ 20) (hn : gs.length ≤ 100000) (hlo : lo ≤ w.heap.size) :
 Calls Tryz.prog 125 #[.pointer (some ⟨b, 0, none⟩), .int .i64 p] w (RetWQ Qo lo b x y (gs ++ [⟨2, p, 0⟩]) G (x + y + gs.length) w) := by
 go_enter Tryz.func125, Tryz.ntmps125
 go_wp2_with fail
 refine (Zcj lo b x y gs G 2 p 0 w hm hx hy hn hlo).mono ?_
 rintro e w1 ⟨G1, rfl, hm1, hv1⟩
 go_wp2
 go_ret
 exact ⟨G1, rfl, hm1, hv1⟩
theorem Zdi (lo b : Nat) (x y : Int) (gs : List G3) (G : Option Nat) (w : World) (hm : MkQ Qo w lo b x y gs G) (hx : 0 ≤ x ∧ x ≤ 20) (hy : 0 ≤ y ∧ y ≤ 20) (hn : gs.length ≤ 100000) (hlo : lo ≤ w.heap.size) :
 Calls Tryz.prog 140 #[.pointer (some ⟨b, 0, none⟩)] w (RetWQ Qo lo b x y (gs ++ [⟨3, 0, 0⟩]) G (x + y + gs.length) w) := by
 go_enter Tryz.func140, Tryz.ntmps140
 go_wp2_with fail
 refine (Zcj lo b x y gs G 3 0 0 w hm hx hy hn hlo).mono ?_
 rintro e w1 ⟨G1, rfl, hm1, hv1⟩
 go_wp2
 go_ret
 exact ⟨G1, rfl, hm1, hv1⟩
theorem Zaw (lo b : Nat) (x y : Int) (gs : List G3) (G : Option Nat) (p q v : Int) (w : World) (hm : MkQ Qo w lo b x y gs G) (hx : 0 ≤ x ∧ x ≤ 20) (hy : 0 ≤ y ∧ y ≤ 20) (hn : gs.length ≤ 100000) (hlo : lo ≤ w.heap.size) (hv : x + y + (gs.length : Int) = v) :
 Calls Tryz.prog 166 #[.pointer (some ⟨b, 0, none⟩), .int .i64 p, .int .i64 q] w (RetWQ Qo lo b x y (gs ++ [⟨0, p, q⟩]) G v w) := by
 subst hv; exact maker_xorQ_any lo b x y gs G p q w hm hx hy hn hlo
theorem Zbh (lo b : Nat) (x y : Int) (gs : List G3) (G : Option Nat) (p q v : Int) (w : World) (hm : MkQ Qo w lo b x y gs G) (hx : 0 ≤ x ∧ x ≤ 20) (hy : 0 ≤ y ∧ y ≤ 20) (hn : gs.length ≤ 100000) (hlo : lo ≤ w.heap.size) (hv : x + y + (gs.length : Int) = v) :
 Calls Tryz.prog 165 #[.pointer (some ⟨b, 0, none⟩), .int .i64 p, .int .i64 q] w (RetWQ Qo lo b x y (gs ++ [⟨1, p, q⟩]) G v w) := by
 subst hv; exact maker_andQ_any lo b x y gs G p q w hm hx hy hn hlo
theorem Zaq (lo b : Nat) (x y : Int) (gs : List G3) (G : Option Nat) (p q v : Int) (w : World) (hm : MkQ Qo w lo b x y gs G) (hx : 0 ≤ x ∧ x ≤ 20) (hy : 0 ≤ y ∧ y ≤ 20) (hn : gs.length ≤ 100000) (hlo : lo ≤ w.heap.size) (hv : x + y + (gs.length : Int) = v) :
 Calls Tryz.prog 146 #[.pointer (some ⟨b, 0, none⟩), .int .i64 p, .int .i64 q] w (RetWQ Qo lo b x y (gs ++ [⟨0, p, q⟩]) G v w) := by
 subst hv; exact ciMaker_xorQ_any lo b x y gs G p q w hm hx hy hn hlo
theorem Zba (lo b : Nat) (x y : Int) (gs : List G3) (G : Option Nat) (p q v : Int) (w : World) (hm : MkQ Qo w lo b x y gs G) (hx : 0 ≤ x ∧ x ≤ 20) (hy : 0 ≤ y ∧ y ≤ 20) (hn : gs.length ≤ 100000) (hlo : lo ≤ w.heap.size) (hv : x + y + (gs.length : Int) = v) :
 Calls Tryz.prog 145 #[.pointer (some ⟨b, 0, none⟩), .int .i64 p, .int .i64 q] w (RetWQ Qo lo b x y (gs ++ [⟨1, p, q⟩]) G v w) := by
 subst hv; exact ciMaker_andQ_any lo b x y gs G p q w hm hx hy hn hlo
theorem Zde (lo b : Nat) (x y : Int) (gs : List G3) (G : Option Nat) (p v : Int) (w : World) (hm : MkQ Qo w lo b x y gs G) (hx : 0 ≤ x ∧ x ≤ 20) (hy : 0 ≤ y ∧ y ≤ 20) (hn : gs.length ≤ 100000) (hlo : lo ≤ w.heap.size) (hv : x + y + (gs.length : Int) = v) :
 Calls Tryz.prog 153 #[.pointer (some ⟨b, 0, none⟩), .int .i64 p] w (RetWQ Qo lo b x y (gs ++ [⟨2, p, 0⟩]) G v w) := by
 subst hv; exact maker_notQ_any lo b x y gs G p w hm hx hy hn hlo
theorem Zbw (lo b : Nat) (x y : Int) (gs : List G3) (G : Option Nat) (p v : Int) (w : World) (hm : MkQ Qo w lo b x y gs G) (hx : 0 ≤ x ∧ x ≤ 20) (hy : 0 ≤ y ∧ y ≤ 20) (hn : gs.length ≤ 100000) (hlo : lo ≤ w.heap.size) (hv : x + y + (gs.length : Int) = v) :
 Calls Tryz.prog 125 #[.pointer (some ⟨b, 0, none⟩), .int .i64 p] w (RetWQ Qo lo b x y (gs ++ [⟨2, p, 0⟩]) G v w) := by
 subst hv; exact ciMaker_notQ_any lo b x y gs G p w hm hx hy hn hlo
theorem Zfe (lo b : Nat) (x y : Int) (gs : List G3) (G : Option Nat) (v : Int) (w : World) (hm : MkQ Qo w lo b x y gs G) (hx : 0 ≤ x ∧ x ≤ 20) (hy : 0 ≤ y ∧ y ≤ 20) (hn : gs.length ≤ 90000) (hlo : lo ≤ w.heap.size) (hv : x + y + (gs.length : Int) = v) :
 Calls Tryz.prog 160 #[.pointer (some ⟨b, 0, none⟩)] w (RetWQ Qo lo b x y (gs ++ [⟨3, 0, 0⟩] ++ [⟨2, v, 0⟩]) G (v + 1) w) := by
 subst hv
 go_enter Tryz.func160, Tryz.ntmps160
 go_wp2_with fail
 refine (Zcu lo b x y gs G 3 0 0 w hm hx hy (by omega) hlo).mono ?_
 rintro e w1 ⟨G1, rfl, hm1, hv1⟩
 go_wp2_with fail
 refine (Zde lo b x y (gs ++ [⟨3, 0, 0⟩]) G1 (x + y + gs.length) (x + y + gs.length + 1) _ hm1 hx hy (by simp; omega) (Nat.le_trans hlo hv1.size) (by simp; omega)).mono ?_
 rintro e w2 ⟨G2, rfl, hm2, hv2⟩
 go_wp2
 go_ret
 exact ⟨G2, rfl, hm2, hv1.trans_ hv2⟩
end Go.Proofs.YtenknpcbbcbciaaGreat
