/- Steps of the reference's coMake, and what it returns. No condition. -/
import Derived.Test.YtenknpcbbcbciaaGreatQS36
namespace Go.Proofs.YtenknpcbbcbciaaGreat
open Go.RowKit
set_option linter.unusedVariables false
set_option linter.unusedSimpArgs false
theorem wpList_appV {w : World} {ops : Array Oper} {rest : List Oper} {o : Oper} {a : Act} {Q : Exit → Act → World → Prop} (hgd : o.guard = none) (s x : Operand)
 (ho : o.op = .call { callee := .builtin .append, args := #[s, x], argTypes := #[61, 61] })
 {lo n c0 bq q : Nat} {A0 : Option Addr} {vals : List Value} {v0 : Value} (hs : a.eval s = .slice A0 n c0) (hown : w.ownsRow lo 24 1 (.slice A0 n c0) n vals) (hx : a.eval x = .slice (some ⟨bq, 0, none⟩) 1 q) (hc : w.cell? ⟨bq, 0, none⟩ = some v0) (h1c : v0.oneCell' = true) (hlen : n ≤ 4194304) (hlo : lo ≤ w.heap.size)
 (h : ∀ A' c' w', w'.ownsRow lo 24 1 (.slice A' (n + 1) c') (n + 1) (vals ++ [v0]) → w.grownBy w' (Value.slice A0 n c0).ownBlock → ((Value.slice A' (n + 1) c').ownBlock = (Value.slice A0 n c0).ownBlock ∨ (Value.slice A' (n + 1) c').ownBlock = some w.heap.size) → wpList Tryz.prog ops Q rest (a.put o.dst (.slice A' (n + 1) c')) w') : wpList Tryz.prog ops Q (o :: rest) a w :=
 wpList_plain hgd fun _ hK => by
  obtain ⟨i, hi0, hz0, hz1, hz2⟩ := info_parts info_ints
  have hrv : RV w (some ⟨bq, 0, none⟩) 1 1 [v0] := by
   refine ⟨rfl, fun _ => ⟨_, rfl, fun j u hu => ?_⟩⟩
   cases j with
   | zero => simp at hu; subst hu; rw [Zcf]; exact hc
   | succ j => simp at hu
  obtain ⟨A', c', w', hrun, h2, h3, h4, h5⟩ := Zdn (P := Tryz.prog) w 61 o.type 24 i (.slice none 0 0) 1 24 Tryz.underlying61 hi0 hz0 hz1 hz2 rfl (by decide) lo n c0 1 q A0 (some ⟨bq, 0, none⟩) _ _ hown hrv (by intro u hu; simp at hu; subst hu; exact h1c) (by unfold maxLen; omega) (by omega) hlo
  unfold Oper.wp execOp
  simp only [ho, resolve, invoke, builtin, Sem.run_bind, Sem.run_pure, Result.andThen_ok, List.map_toArray, List.map_cons, List.map_nil, hs, hx, hrun]
  exact hK _ _ (h A' c' w' h2 h3 h4)
def RetCs (w : World) (l : List Ln) (e : Ending) (w' : World) : Prop :=
 ∃ B Ag cg Oa oc Ea ec Wa wc bl, e = .returned (.agg #[.pointer (some ⟨B, 0, none⟩), .slice Wa l.length wc, .slice Ea l.length ec]) ∧
  BxC w' B (sumI (insL l 0)) (sumI (insL l 1)) Ag (cS l (sumI (insL l 0)) (sumI (insL l 1)) l.length).g.length cg Oa (cS l (sumI (insL l 0)) (sumI (insL l 1)) l.length).os.length oc ∧ B < w'.heap.size ∧ w.heap.size ≤ B ∧
  OwnC w' w.heap.size w'.heap.size Ag (cS l (sumI (insL l 0)) (sumI (insL l 1)) l.length).g.length cg Oa (cS l (sumI (insL l 0)) (sumI (insL l 1)) l.length).os.length oc (cS l (sumI (insL l 0)) (sumI (insL l 1)) l.length).g (cS l (sumI (insL l 0)) (sumI (insL l 1)) l.length).os ∧
  Own w' w.heap.size w'.heap.size (.slice Ea l.length ec) l.length (cS l (sumI (insL l 0)) (sumI (insL l 1)) l.length).es ∧ Wi w' w.heap.size false bl Wa wc l.length (cS l (sumI (insL l 0)) (sumI (insL l 1)) l.length).ws ∧ Below w.heap.size w w'
theorem step_appV {w : World} {ops : Array Oper} {o : Oper} {a : Act} {K : Act → World → Prop} {Q : Exit → Act → World → Prop} {E : Prop} (hgd : o.guard = none) (s x : Operand)
 (ho : o.op = .call { callee := .builtin .append, args := #[s, x], argTypes := #[61, 61] })
 {lo n c0 bq q : Nat} {A0 : Option Addr} {vals : List Value} {v0 : Value} (hs : a.eval s = .slice A0 n c0) (hown : w.ownsRow lo 24 1 (.slice A0 n c0) n vals) (hx : a.eval x = .slice (some ⟨bq, 0, none⟩) 1 q) (hc : w.cell? ⟨bq, 0, none⟩ = some v0) (h1c : v0.oneCell' = true) (hlen : n ≤ 4194304) (hlo : lo ≤ w.heap.size)
 (h : ∀ A' c' w', w'.ownsRow lo 24 1 (.slice A' (n + 1) c') (n + 1) (vals ++ [v0]) → w.grownBy w' (Value.slice A0 n c0).ownBlock → K (a.put o.dst (.slice A' (n + 1) c')) w') :
 if Region.wanted o (yielded ops a.tmps) = true then Oper.wp Tryz.prog o a w K Q else E := by
 have hw : Region.wanted o (yielded ops a.tmps) = true := by simp [Region.wanted, hgd]
 rw [if_pos hw]
 obtain ⟨i, hi0, hz0, hz1, hz2⟩ := info_parts info_ints
 have hrv : RV w (some ⟨bq, 0, none⟩) 1 1 [v0] := by
  refine ⟨rfl, fun _ => ⟨_, rfl, fun j u hu => ?_⟩⟩
  cases j with
  | zero => simp at hu; subst hu; rw [Zcf]; exact hc
  | succ j => simp at hu
 obtain ⟨A', c', w', hrun, h2, h3, h4, h5⟩ := Zdn (P := Tryz.prog) w 61 o.type 24 i (.slice none 0 0) 1 24 Tryz.underlying61 hi0 hz0 hz1 hz2 rfl (by decide) lo n c0 1 q A0 (some ⟨bq, 0, none⟩) _ _ hown hrv (by intro u hu; simp at hu; subst hu; exact h1c) (by unfold maxLen; omega) (by omega) hlo
 unfold Oper.wp execOp
 simp only [ho, resolve, invoke, builtin, Sem.run_bind, Sem.run_pure, Result.andThen_ok, List.map_toArray, List.map_cons, List.map_nil, hs, hx, hrun]
 exact h A' c' w' h2 h3
def Pt (w : World) (S : Nat) (bl : List (Option Nat)) (lo2 : Nat) (A : Option Addr) (c n : Nat) (xss : List (List Int)) : Prop :=
 ∃ vals : List Value, w.ownsRow S 24 1 (.slice A n c) n vals ∧ xss.length = n ∧ ∀ j, j < n → ∃ P d, vals[j]? = some (.slice P (gl xss j).length d) ∧ RI w P (gl xss j).length (gl xss j) ∧ ∀ q o, P = some ⟨q, o, none⟩ → some q ∉ bl ∧ q < S ∧ lo2 ≤ q
theorem Pt.below {w w' : World} {S lo2 n c B : Nat} {bl : List (Option Nat)} {A : Option Addr} {xss : List (List Int)} (h : Pt w S bl lo2 A c n xss) (k : Below B w w') (hB : w.heap.size ≤ B) : Pt w' S bl lo2 A c n xss := by
 obtain ⟨vals, h1, h2, h3⟩ := h
 have ka : Alt (fun i => B ≤ i) w w' := Alt.of_below k fun _ _ h => h
 refine ⟨vals, Zav h1 ka (fun g hg hc => by have := (h1.lt g hg).2; omega), h2, fun j hj => ?_⟩
 obtain ⟨P, d, h4, h5, h6⟩ := h3 j hj
 exact ⟨P, d, h4, h5.below k hB, h6⟩
theorem Pt.part {w : World} {S lo2 n c k : Nat} {bl : List (Option Nat)} {A : Option Addr} {xss : List (List Int)} (h : Pt w S bl lo2 A c n xss) (hk : k < n) :
 ∃ g P d, A = some ⟨g, 0, none⟩ ∧ S ≤ g ∧ g < w.heap.size ∧ w.cell? ⟨g, k, none⟩ = some (.slice P (gl xss k).length d) ∧ RI w P (gl xss k).length (gl xss k) ∧ ∀ q o, P = some ⟨q, o, none⟩ → some q ∉ bl ∧ q < S ∧ lo2 ≤ q := by
 obtain ⟨vals, h1, h2, h3⟩ := h
 obtain ⟨g, cap, hv, hgl, hgs⟩ := h1.form (by omega)
 simp only [Value.slice.injEq, true_and] at hv
 obtain ⟨rfl, rfl⟩ := hv
 obtain ⟨P, d, h4, h5, h6⟩ := h3 k hk
 exact ⟨g, P, d, rfl, hgl, hgs, by rw [h1.cellAt k (by omega), h4], h5, h6⟩
theorem Pt.app {w w' : World} {S lo2 n c d c' : Nat} {bl : List (Option Nat)} {A A' P : Option Addr} {xss : List (List Int)} {xs : List Int} {vals : List Value} (h1 : w.ownsRow S 24 1 (.slice A n c) n vals) (h2 : xss.length = n) (h3 : ∀ j, j < n → ∃ P d, vals[j]? = some (.slice P (gl xss j).length d) ∧ RI w P (gl xss j).length (gl xss j) ∧ ∀ q o, P = some ⟨q, o, none⟩ → some q ∉ bl ∧ q < S ∧ lo2 ≤ q)
 (hn : w'.ownsRow S 24 1 (.slice A' (n + 1) c') (n + 1) (vals ++ [.slice P xs.length d])) (hg : w.grownBy w' (Value.slice A n c).ownBlock) (hr : RI w P xs.length xs) (ho : ∀ q o, P = some ⟨q, o, none⟩ → some q ∉ bl ∧ q < S ∧ lo2 ≤ q) : Pt w' S bl lo2 A' c' (n + 1) (xss ++ [xs]) := by
 have ka := Alt.of_grown (S := fun i => (Value.slice A n c).ownBlock = some i) hg (fun _ h => h)
 have hS : ∀ q, q < S → ¬ ((Value.slice A n c).ownBlock = some q) := fun q hq hc => by have := (h1.lt q hc).1; omega
 have hvl : vals.length = n := by simpa using h1.1
 refine ⟨_, hn, by simp [h2], fun j hj => ?_⟩
 by_cases hjn : j < n
 ·obtain ⟨P2, d2, h4, h5, h6⟩ := h3 j hjn
  rw [Zeq (by omega)]
  exact ⟨P2, d2, by rw [List.getElem?_append_left (by omega)]; exact h4, h5.alt ka (fun _ q o hP => hS q (h6 q o hP).2.1), h6⟩
 ·obtain rfl : j = n := by omega
  rw [Zdu h2]
  exact ⟨P, d, by rw [List.getElem?_append_right (by omega), hvl, Nat.sub_self]; rfl, hr.alt ka (fun _ q o hP => hS q (ho q o hP).2.1), ho⟩
theorem cs_setW {w : World} {B : Nat} {u0 u1 u2 : Value} (h : CellsAt w B 0 ([u0] ++ [u1, u2])) (v1 : Value) : CellsAt (w.setCell ⟨B, 1, none⟩ v1) B 0 ([u0] ++ [v1, u2]) := by
 obtain ⟨q0, q1, q2, _⟩ := h
 exact ⟨(World.cell?_setCell_other _ _ _ _ (by simp)).trans q0, World.cell?_setCell_same _ _ _ q1, (World.cell?_setCell_other _ _ _ _ (by simp)).trans q2, trivial⟩
theorem cs_setE {w : World} {B : Nat} {u0 u1 u2 : Value} (h : CellsAt w B 0 ([u0] ++ [u1, u2])) (v2 : Value) : CellsAt (w.setCell ⟨B, 2, none⟩ v2) B 0 ([u0] ++ [u1, v2]) := by
 obtain ⟨q0, q1, q2, _⟩ := h
 exact ⟨(World.cell?_setCell_other _ _ _ _ (by simp)).trans q0, (World.cell?_setCell_other _ _ _ _ (by simp)).trans q1, World.cell?_setCell_same _ _ _ q2, trivial⟩
theorem set3_cells {V : World} {B : Nat} {u0 u1 u2 : Value} (r0 : V.cell? ⟨B, 0, none⟩ = some u0) (r1 : V.cell? ⟨B, 1, none⟩ = some u1) (r2 : V.cell? ⟨B, 2, none⟩ = some u2) (v0 v1 v2 : Value) :
 (((V.setCell ⟨B, 0, none⟩ v0).setCell ⟨B, 1, none⟩ v1).setCell ⟨B, 2, none⟩ v2).cell? ⟨B, 0, none⟩ = some v0 ∧ (((V.setCell ⟨B, 0, none⟩ v0).setCell ⟨B, 1, none⟩ v1).setCell ⟨B, 2, none⟩ v2).cell? ⟨B, 1, none⟩ = some v1 ∧ (((V.setCell ⟨B, 0, none⟩ v0).setCell ⟨B, 1, none⟩ v1).setCell ⟨B, 2, none⟩ v2).cell? ⟨B, 2, none⟩ = some v2 := by
 have o : ∀ (w : World) (i j : Nat) (v : Value) (u : Value), i ≠ j → w.cell? ⟨B, i, none⟩ = some u → (w.setCell ⟨B, j, none⟩ v).cell? ⟨B, i, none⟩ = some u := fun w i j v u hij h => (World.cell?_setCell_other _ _ _ _ (by simp <;> omega)).trans h
 have s : ∀ (w : World) (i : Nat) (v : Value) (u : Value), w.cell? ⟨B, i, none⟩ = some u → (w.setCell ⟨B, i, none⟩ v).cell? ⟨B, i, none⟩ = some v := fun w i v u h => World.cell?_setCell_same _ _ _ h
 exact ⟨o _ _ _ _ _ (by decide) (o _ _ _ _ _ (by decide) (s _ _ _ _ r0)), o _ _ _ _ _ (by decide) (s _ _ _ _ (o _ _ _ _ _ (by decide) r1)), s _ _ _ _ (o _ _ _ _ _ (by decide) (o _ _ _ _ _ (by decide) r2))⟩
section
variable {ow : Bool} {zs : List Value} {w w' : World} {lo b bc bn : Nat} {x y n0 n1 : Int} {s : Cs} {k : Nat} {G : Option Nat} {Oa : Option Addr} {oc : Nat} {Ea : Option Addr} {ec : Nat} {Wa : Option Addr} {wc : Nat}
theorem Cp.wireL (h : Cp ow zs w lo b bc bn x y n0 n1 s k G Oa oc Ea ec Wa wc) {j : Nat} (hj : j < k) :
 ∃ g A d, Wa = some ⟨g, 0, none⟩ ∧ w.cell? ⟨g, j, none⟩ = some (.slice A (gl s.ws j).length d) ∧ RI w A (gl s.ws j).length (gl s.ws j) ∧ g < w.heap.size ∧ ∀ q o, A = some ⟨q, o, none⟩ → some q ∉ ([some b, some bc, some bn, G, ob Oa, ob Ea, ob Wa] : List (Option Nat)) ∧ q < w.heap.size ∧ lo ≤ q := by
 obtain ⟨vals, h1, h2, h3⟩ := h.wi
 obtain ⟨g, cap, hv, hgl, hgs⟩ := h1.form (by omega)
 simp only [Value.slice.injEq, true_and] at hv
 obtain ⟨rfl, rfl⟩ := hv
 obtain ⟨A, d, h4, h5, h6, _, h8⟩ := h3 j hj
 exact ⟨g, A, d, rfl, by rw [h1.cellAt j (by omega), h4], h5, hgs, fun q o hq => ⟨(h6 q o hq).1, (h6 q o hq).2, h8 q o hq⟩⟩
theorem Lst.ofRd {S rc : Nat} {R : Option Addr} {os : List Int} (h : RM w b G R os.length os) (hk : ∀ k o, R = some ⟨k, o, none⟩ → S ≤ k ∧ k < w.heap.size) (hS : ∀ g, some g ∈ ([some b, some bc, some bn, none, ob Oa, ob Ea, ob Wa] : List (Option Nat)) → g < S) (hl : lo ≤ S) (hn : 1 ≤ os.length) : Lst false w lo [some b, some bc, some bn, G, ob Oa, ob Ea, ob Wa] R rc os := by
 refine ⟨h.1, fun q o hq => ⟨fun hc => ?_, (hk q o hq).2⟩, (fun h => by cases h), fun q o hq => by have := (hk q o hq).1; omega⟩
 have h2 := h.2 (by omega) q o hq
 have key : some q ∈ ([some b, some bc, some bn, none, ob Oa, ob Ea, ob Wa] : List (Option Nat)) → False := fun hm => by have := hS q hm; have := (hk q o hq).1; omega
 simp only [List.mem_cons, List.not_mem_nil, or_false] at hc
 rcases hc with hc | hc | hc | hc | hc | hc | hc
 ·exact key (by simp [hc])
 ·exact key (by simp [hc])
 ·exact key (by simp [hc])
 ·exact h2.2 hc.symm
 ·exact key (by simp [hc])
 ·exact key (by simp [hc])
 ·exact key (by simp [hc])
theorem Pt.rm {S lo2 n : Nat} {A : Option Addr} {xs : List Int} (h : RI w A n xs) (ho : ∀ q o, A = some ⟨q, o, none⟩ → some q ∉ ([some b, some bc, some bn, G, ob Oa, ob Ea, ob Wa] : List (Option Nat)) ∧ q < S ∧ lo2 ≤ q) : RM w b G A n xs :=
 ⟨h, fun _ q o hq => ⟨fun hc => (ho q o hq).1 (by subst hc; simp), fun hc => (ho q o hq).1 (by simp [hc])⟩⟩
end
end Go.Proofs.YtenknpcbbcbciaaGreat
