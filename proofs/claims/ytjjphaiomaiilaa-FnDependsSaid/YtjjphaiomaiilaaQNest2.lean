/- Appending a list to a slice of lists of the call's own; calls that return a slice of lists. Lengths up to 2^22. -/
import Derived.Test.YtjjphaiomaiilaaQNest
import Derived.Test.YtjjphaiomaiilaaQApp2
namespace Go.Proofs.Ytjjphaiomaiilaa
open Go.RowKit
set_option linter.unusedVariables false
set_option linter.unusedSimpArgs false

theorem OwnII.grown {w w' : World} {lo hi n : Nat} {v : Value} {xss : List (List Int)} (h : OwnII w lo hi v n xss) {v1 : Value} (hg : w.grownBy w' v1.ownBlock) (hn : v1.ownBlock = none) : OwnII w' lo hi v n xss :=
  h.below (below_of_grownBy (by rw [← hn]; exact hg)) (Nat.le_refl _)
theorem OwnII.drewN {w : World} {lo hi n : Nat} {v : Value} {xss : List (List Int)} (h : OwnII w lo hi v n xss) (k : Nat) : OwnII (w.drewN k) lo hi v n xss := h.below (below_of_drewN k) (Nat.le_refl _)
theorem OwnII.alloc {w : World} {lo hi n : Nat} {v : Value} {xss : List (List Int)} (h : OwnII w lo hi v n xss) (o : Obj) : OwnII (w.alloc o) lo hi v n xss := h.below ((Below.refl _ _).alloc (Nat.le_refl _) o) (Nat.le_refl _)
theorem OwnII.hi_ {w : World} {lo hi hi' n : Nat} {v : Value} {xss : List (List Int)} (h : OwnII w lo hi v n xss) (hl : hi ≤ hi') : OwnII w lo hi' v n xss := by
  obtain ⟨vals, h1, h2, h3, h4, h5⟩ := h
  refine ⟨vals, h1, fun g hg => Nat.lt_of_lt_of_le (h2 g hg) hl, h3, fun j hj => ?_, h5⟩
  obtain ⟨A', m, c', h6, h7⟩ := h4 j hj
  exact ⟨A', m, c', h6, h7.hi_ hl⟩
theorem OwnII.new0 (w : World) (lo : Nat) (hl : lo ≤ w.heap.size) : OwnII (w.alloc (.cells #[] 24)) lo (w.heap.size + 1) (.slice (some ⟨w.heap.size, 0, none⟩) 0 0) 0 [] := by
  have h := World.ownsRow_lit (base := lo) (e := 24) (size := 1) w #[] 0 hl (by unfold maxLen; omega) (by simp)
  exact ⟨[], by simpa using h, fun g hg => by simp [Value.ownBlock] at hg; omega, rfl, fun j hj => absurd hj (by omega), fun i j u u' _ h => by simp at h⟩
/-- A call that began at w returns a new slice of lists. -/
def RetII (w : World) (xss : List (List Int)) (e : Ending) (w' : World) : Prop :=
  ∃ A' c', e = .returned (.slice A' xss.length c') ∧ OwnII w' w.heap.size w'.heap.size (.slice A' xss.length c') xss.length xss ∧ Below w.heap.size w w'
theorem RetII.mk_ {w : World} {xss : List (List Int)} {n : Nat} {A' : Option Addr} {c' : Nat} {e : Ending} {w' : World} (hn : xss.length = n) (he : e = .returned (.slice A' n c')) (ho : OwnII w' w.heap.size w'.heap.size (.slice A' n c') n xss) (hb : Below w.heap.size w w') : RetII w xss e w' := by
  subst hn; exact ⟨A', c', he, ho, hb⟩
theorem RetII.open_ {w : World} {xss : List (List Int)} {n : Nat} {e : Ending} {w' : World} (h : RetII w xss e w') (hn : xss.length = n) : ∃ A' c', e = .returned (.slice A' n c') ∧ OwnII w' w.heap.size w'.heap.size (.slice A' n c') n xss ∧ Below w.heap.size w w' := by
  subst hn; exact h
section
variable (w : World)
theorem run_appL (ty : TypeId) (lo hi lo2 hi2 n c0 m c b q : Nat) (A0 A : Option Addr) (xss : List (List Int)) (ys : List Int) (hown : OwnII w lo hi (.slice A0 n c0) n xss) (hnew : Own w lo2 hi2 (.slice A m c) m ys) (hc : w.cell? ⟨b, 0, none⟩ = some (.slice A m c))
    (hd : hi ≤ lo2) (hl2 : lo ≤ lo2) (hlen : n ≤ 4194304) (hlo : lo ≤ w.heap.size) :
    ∃ A' c' w', (Builtin.append_ #[56, 56] ty #[.slice A0 n c0, .slice (some ⟨b, 0, none⟩) 1 q]).run Try.prog w = .ok (.slice A' (n + 1) c') w' ∧
      OwnII w' lo w'.heap.size (.slice A' (n + 1) c') (n + 1) (xss ++ [ys]) ∧ w.grownBy w' (Value.slice A0 n c0).ownBlock ∧ StayA A0 (n * 1) w w' := by
  obtain ⟨vals, h1, h2, h3, h4, h5⟩ := hown
  obtain ⟨i, hi0, hz0, hz1, hz2⟩ := info_parts info_ints
  have hrv : RV w (some ⟨b, 0, none⟩) 1 1 [.slice A m c] := by
    refine ⟨rfl, fun _ => ⟨_, rfl, fun j u hu => ?_⟩⟩
    cases j with
    | zero => simp at hu; subst hu; rw [addr_add]; exact hc
    | succ j => simp at hu
  obtain ⟨A', c', w', hrun, hr, hg, hat, hs⟩ := run_appV (P := Try.prog) w 56 ty 24 i (.slice none 0 0) 1 24 Try.underlying56 hi0 hz0 hz1 hz2 rfl (by decide) lo n c0 1 q A0 (some ⟨b, 0, none⟩) _ _ h1 hrv (by intro u hu; simp at hu; subst hu; rfl) (by unfold maxLen; omega) (by omega) hlo
  refine ⟨A', c', w', hrun, ?_, hg, hs⟩
  have hl : vals.length = n := by simpa using h1.1
  have hne : ∀ {lo' hi' k : Nat} {u : Value} {zs : List Int}, Own w lo' hi' u k zs → Own w' lo' hi' u k zs := by
    intro lo' hi' k u zs hu
    exact hu.apart hg (ownsRow_ne hu.1 h1 (by decide))
  refine ⟨_, hr, fun g hg' => (hr.lt g hg').2, by simp [h3], fun j hj => ?_, fun i j u u' hij hu hu' => ?_⟩
  · by_cases hjn : j < n
    · obtain ⟨A', m', c'', h6, h7⟩ := h4 j hjn
      refine ⟨A', m', c'', by rw [List.getElem?_append_left (by omega)]; exact h6, ?_⟩
      rw [gl_append_lt (by omega)]
      exact (hne h7).now
    · obtain rfl : j = n := by omega
      refine ⟨A, m, c, by rw [List.getElem?_append_right (by omega), hl, Nat.sub_self]; rfl, ?_⟩
      rw [← h3, gl_append_eq]
      exact ((hne hnew).lo_ hl2).now
  · by_cases hjn : j < n
    · rw [List.getElem?_append_left (by omega)] at hu hu'
      exact h5 i j u u' hij hu hu'
    · have hj2 : j < (vals ++ [Value.slice A m c]).length := by
        rcases Nat.lt_or_ge j (vals ++ [Value.slice A m c]).length with h | h
        · exact h
        · rw [List.getElem?_eq_none h] at hu'; cases hu'
      simp at hj2
      obtain rfl : j = n := by omega
      rw [List.getElem?_append_left (by omega)] at hu
      rw [List.getElem?_append_right (by omega), hl, Nat.sub_self] at hu'
      simp at hu'
      subst hu'
      obtain ⟨A', m', c'', h6, h7⟩ := h4 i (by omega)
      rw [hu] at h6
      injection h6 with h6
      subst h6
      intro g hg1 hg2
      have q1 := h7.lt g hg1
      have q2 := hnew.lt g hg2
      omega
theorem wp_appL {o : Oper} {a : Act} {K : Act → World → Prop} {Q : Exit → Act → World → Prop} (s x : Operand)
    (ho : o.op = .call { callee := .builtin .append, args := #[s, x], argTypes := #[56, 56] })
    {lo hi lo2 hi2 n c0 m c b q : Nat} {A0 A : Option Addr} {xss : List (List Int)} {ys : List Int} (hs : a.eval s = .slice A0 n c0) (hown : OwnII w lo hi (.slice A0 n c0) n xss) (hx : a.eval x = .slice (some ⟨b, 0, none⟩) 1 q) (hnew : Own w lo2 hi2 (.slice A m c) m ys) (hc : w.cell? ⟨b, 0, none⟩ = some (.slice A m c))
    (hd : hi ≤ lo2) (hl2 : lo ≤ lo2) (hlen : n ≤ 4194304) (hlo : lo ≤ w.heap.size)
    (h : ∀ A' c' w', OwnII w' lo w'.heap.size (.slice A' (n + 1) c') (n + 1) (xss ++ [ys]) → w.grownBy w' (Value.slice A0 n c0).ownBlock → StayA A0 (n * 1) w w' → K (a.put o.dst (.slice A' (n + 1) c')) w') : o.wp Try.prog a w K Q := by
  obtain ⟨A', c', w', hrun, h2, h3, h5⟩ := run_appL w o.type lo hi lo2 hi2 n c0 m c b q A0 A xss ys hown hnew hc hd hl2 hlen hlo
  unfold Oper.wp execOp
  simp only [ho, resolve, invoke, builtin, Sem.run_bind, Sem.run_pure, Result.andThen_ok, List.map_toArray, List.map_cons, List.map_nil, hs, hx, hrun]
  exact h A' c' w' h2 h3 h5
theorem step_appL {ops : Array Oper} {o : Oper} {a : Act} {K : Act → World → Prop} {Q : Exit → Act → World → Prop} {E : Prop} (hgd : o.guard = none) (s x : Operand)
    (ho : o.op = .call { callee := .builtin .append, args := #[s, x], argTypes := #[56, 56] })
    {lo hi lo2 hi2 n c0 m c b q : Nat} {A0 A : Option Addr} {xss : List (List Int)} {ys : List Int} (hs : a.eval s = .slice A0 n c0) (hown : OwnII w lo hi (.slice A0 n c0) n xss) (hx : a.eval x = .slice (some ⟨b, 0, none⟩) 1 q) (hnew : Own w lo2 hi2 (.slice A m c) m ys) (hc : w.cell? ⟨b, 0, none⟩ = some (.slice A m c))
    (hd : hi ≤ lo2) (hl2 : lo ≤ lo2) (hlen : n ≤ 4194304) (hlo : lo ≤ w.heap.size)
    (h : ∀ A' c' w', OwnII w' lo w'.heap.size (.slice A' (n + 1) c') (n + 1) (xss ++ [ys]) → w.grownBy w' (Value.slice A0 n c0).ownBlock → StayA A0 (n * 1) w w' → K (a.put o.dst (.slice A' (n + 1) c')) w') :
    if Region.wanted o (yielded ops a.tmps) = true then Oper.wp Try.prog o a w K Q else E := by
  have hw : Region.wanted o (yielded ops a.tmps) = true := by simp [Region.wanted, hgd]
  rw [if_pos hw]
  exact wp_appL w s x ho hs hown hx hnew hc hd hl2 hlen hlo h
theorem wpList_appL {ops : Array Oper} {rest : List Oper} {o : Oper} {a : Act} {Q : Exit → Act → World → Prop} (hgd : o.guard = none) (s x : Operand)
    (ho : o.op = .call { callee := .builtin .append, args := #[s, x], argTypes := #[56, 56] })
    {lo hi lo2 hi2 n c0 m c b q : Nat} {A0 A : Option Addr} {xss : List (List Int)} {ys : List Int} (hs : a.eval s = .slice A0 n c0) (hown : OwnII w lo hi (.slice A0 n c0) n xss) (hx : a.eval x = .slice (some ⟨b, 0, none⟩) 1 q) (hnew : Own w lo2 hi2 (.slice A m c) m ys) (hc : w.cell? ⟨b, 0, none⟩ = some (.slice A m c))
    (hd : hi ≤ lo2) (hl2 : lo ≤ lo2) (hlen : n ≤ 4194304) (hlo : lo ≤ w.heap.size)
    (h : ∀ A' c' w', OwnII w' lo w'.heap.size (.slice A' (n + 1) c') (n + 1) (xss ++ [ys]) → w.grownBy w' (Value.slice A0 n c0).ownBlock → StayA A0 (n * 1) w w' → wpList Try.prog ops Q rest (a.put o.dst (.slice A' (n + 1) c')) w') : wpList Try.prog ops Q (o :: rest) a w :=
  wpList_plain hgd fun _ hK => wp_appL w s x ho hs hown hx hnew hc hd hl2 hlen hlo fun A' c' w' h2 h3 h5 => hK _ _ (h A' c' w' h2 h3 h5)
end
theorem below_appL {B : Nat} {a w w' : World} {lo hi n c : Nat} {A : Option Addr} {xss : List (List Int)} (h : Below B a w) (hown : OwnII w lo hi (.slice A n c) n xss) (hg : w.grownBy w' (Value.slice A n c).ownBlock) (hB : B ≤ w.heap.size) (hl : B ≤ lo) : Below B a w' :=
  below_grown h hg hB fun k hk => by have := hown.lt k hk; omega

end Go.Proofs.Ytjjphaiomaiilaa
