/- A slice of lists that grows while a list of numbers grows beside it: the outer row is the call's own, its lists are read and lie in other blocks than that list. -/
import Derived.Test.YtanlbdkggocdiaaNest2
import Derived.Test.YtanlbdkggocdiaaTable3
namespace Go.Proofs.Ytanlbdkggocdiaa
open Go.RowKit
set_option linter.unusedVariables false
set_option linter.unusedSimpArgs false

theorem RI.grown_ {w w' : World} {A : Option Addr} {n : Nat} {xs : List Int} {row : Option Nat} (h : RI w A n xs) (hg : w.grownBy w' row) (hl : ∀ b o, A = some ⟨b, o, none⟩ → row ≠ some b) : RI w' A n xs :=
  ⟨h.1, fun hn => by
    obtain ⟨b, o, hA, hlt, hc⟩ := h.2 hn
    refine ⟨b, o, hA, Nat.lt_of_lt_of_le hlt hg.size, fun j hj => ?_⟩
    rw [← hc j hj]
    exact World.cell?_of_block (w := w) (a := ⟨b, o + j, none⟩) (hg.block b hlt (fun he => hl b o hA he.symm))⟩
/-- The slice v is a row of the call's own between lo and hi, which holds the lists xss; none of these lies in the block 'bad'. -/
def LII (w : World) (lo hi : Nat) (v : Value) (n : Nat) (xss : List (List Int)) (bad : Option Nat) : Prop :=
  ∃ vals : List Value, w.ownsRow lo 23 1 v n vals ∧ (∀ g, v.ownBlock = some g → g < hi) ∧ xss.length = n ∧
    ∀ j : Nat, j < n → ∃ A' m c', vals[j]? = some (.slice A' m c') ∧ RI w A' m (gl xss j) ∧ ∀ b o, A' = some ⟨b, o, none⟩ → bad ≠ some b ∧ b < w.heap.size ∧ v.ownBlock ≠ some b
theorem LII.len {w : World} {lo hi n : Nat} {v : Value} {xss : List (List Int)} {bad : Option Nat} (h : LII w lo hi v n xss bad) : xss.length = n := by obtain ⟨_, _, _, h3, _⟩ := h; exact h3
theorem LII.new0 (w : World) (lo : Nat) (hl : lo ≤ w.heap.size) (bad : Option Nat) : LII (w.alloc (.cells #[] 23)) lo (w.heap.size + 1) (.slice (some ⟨w.heap.size, 0, none⟩) 0 0) 0 [] bad := by
  have h := World.ownsRow_lit (base := lo) (e := 23) (size := 1) w #[] 0 hl (by unfold maxLen; omega) (by simp)
  exact ⟨[], by simpa using h, fun g hg => by simp [Value.ownBlock] at hg; omega, rfl, fun j hj => absurd hj (by omega)⟩
theorem LII.below {w w' : World} {lo hi n B : Nat} {v : Value} {xss : List (List Int)} {bad : Option Nat} (h : LII w lo hi v n xss bad) (hb : Below B w w') (hB : w.heap.size ≤ B) : LII w' lo hi v n xss bad := by
  obtain ⟨vals, h1, h2, h3, h4⟩ := h
  refine ⟨vals, h1.kept (grownBy_of_below (hb.mono hB) none) (by cases hv : v.ownBlock <;> simp), h2, h3, fun j hj => ?_⟩
  obtain ⟨A', m, c', h5, h6, h7⟩ := h4 j hj
  exact ⟨A', m, c', h5, h6.below hb hB, fun b o hA => ⟨(h7 b o hA).1, Nat.lt_of_lt_of_le (h7 b o hA).2.1 hb.size, (h7 b o hA).2.2⟩⟩
theorem LII.alloc {w : World} {lo hi n : Nat} {v : Value} {xss : List (List Int)} {bad : Option Nat} (h : LII w lo hi v n xss bad) (o : Obj) : LII (w.alloc o) lo hi v n xss bad := h.below ((Below.refl _ _).alloc (Nat.le_refl _) o) (Nat.le_refl _)
theorem LII.reads {w : World} {lo hi n c : Nat} {A : Option Addr} {xss : List (List Int)} {bad : Option Nat} (h : LII w lo hi (.slice A n c) n xss bad) : RII w A n xss := by
  obtain ⟨vals, h1, h2, h3, h4⟩ := h
  refine ⟨h3, fun hn => ?_⟩
  obtain ⟨g, cap, hv, _, hlt⟩ := h1.form hn
  simp only [Value.slice.injEq, true_and] at hv
  obtain ⟨rfl, rfl⟩ := hv
  refine ⟨g, 0, rfl, hlt, fun j hj => ?_⟩
  obtain ⟨A', m, c', h5, h6, _⟩ := h4 j hj
  exact ⟨A', m, c', by rw [Nat.zero_add, h1.cellAt j (by omega), h5], h6⟩
/-- The list of numbers beside it has grown; its block is the old one or a new one. -/
theorem LII.beside {w w' : World} {lo hi n lo2 hi2 m : Nat} {v v1 v2 : Value} {xss : List (List Int)} {xs : List Int} (h : LII w lo hi v n xss v1.ownBlock) (ho : Own w lo2 hi2 v1 m xs) (hg : w.grownBy w' v1.ownBlock) (hat : v2.ownBlock = v1.ownBlock ∨ v2.ownBlock = some w.heap.size) : LII w' lo hi v n xss v2.ownBlock := by
  obtain ⟨vals, h1, h2, h3, h4⟩ := h
  have hap := ownsRow_ne h1 ho.1 (by decide)
  refine ⟨vals, h1.kept hg (by
    cases hv : v.ownBlock with
    | none => exact .inl rfl
    | some g => exact .inr (fun he => hap g hv he.symm)), h2, h3, fun j hj => ?_⟩
  obtain ⟨A', m', c', h5, h6, h7⟩ := h4 j hj
  refine ⟨A', m', c', h5, h6.grown_ hg (fun b o hA => (h7 b o hA).1), fun b o hA => ⟨?_, Nat.lt_of_lt_of_le (h7 b o hA).2.1 hg.size, (h7 b o hA).2.2⟩⟩
  rcases hat with e | e
  · rw [e]; exact (h7 b o hA).1
  · rw [e]; intro he
    have := (h7 b o hA).2.1
    simp only [Option.some.injEq] at he
    omega
/-- The list of numbers stays while the lists grow. -/
theorem Own.besideL {w w' : World} {lo hi n lo2 hi2 m : Nat} {v v1 : Value} {xss : List (List Int)} {xs : List Int} {bad : Option Nat} (ho : Own w lo2 hi2 v m xs) (h : LII w lo hi v1 n xss bad) (hg : w.grownBy w' v1.ownBlock) : Own w' lo2 hi2 v m xs := by
  obtain ⟨vals, h1, _⟩ := h
  exact ho.apart hg (ownsRow_ne ho.1 h1 (by decide))
theorem LII.reads_new {w w' : World} {lo hi n lo2 hi2 m c : Nat} {v : Value} {A : Option Addr} {xss : List (List Int)} {ys : List Int} {bad : Option Nat} (h : LII w lo hi v n xss bad) (hnew : Own w lo2 hi2 (.slice A m c) m ys) (hg : w.grownBy w' v.ownBlock) : RI w' A m ys :=
  (hnew.besideL h hg).reads
section
variable (w : World)
theorem run_appLL (ty : TypeId) (lo hi lo2 hi2 n c0 m c b q : Nat) (A0 A : Option Addr) (xss : List (List Int)) (ys : List Int) (bad : Option Nat) (hown : LII w lo hi (.slice A0 n c0) n xss bad) (hnew : Own w lo2 hi2 (.slice A m c) m ys) (hbad : ∀ g, (Value.slice A m c).ownBlock = some g → bad ≠ some g)
    (hc : w.cell? ⟨b, 0, none⟩ = some (.slice A m c)) (hlen : n ≤ 4194304) (hlo : lo ≤ w.heap.size) :
    ∃ A' c' w', (Builtin.append_ #[105, 105] ty #[.slice A0 n c0, .slice (some ⟨b, 0, none⟩) 1 q]).run Try.prog w = .ok (.slice A' (n + 1) c') w' ∧
      LII w' lo w'.heap.size (.slice A' (n + 1) c') (n + 1) (xss ++ [ys]) bad ∧ w.grownBy w' (Value.slice A0 n c0).ownBlock ∧ StayA A0 (n * 1) w w' := by
  have hown0 := hown
  obtain ⟨vals, h1, h2, h3, h4⟩ := hown
  obtain ⟨i, hi0, hz0, hz1, hz2⟩ := info_parts info_ints
  have hrv : RV w (some ⟨b, 0, none⟩) 1 1 [.slice A m c] := by
    refine ⟨rfl, fun _ => ⟨_, rfl, fun j u hu => ?_⟩⟩
    cases j with
    | zero => simp at hu; subst hu; rw [addr_add]; exact hc
    | succ j => simp at hu
  obtain ⟨A', c', w', hrun, hr, hg, hat, hs⟩ := run_appV (P := Try.prog) w 105 ty 23 i (.slice none 0 0) 1 24 Try.underlying105 hi0 hz0 hz1 hz2 rfl (by decide) lo n c0 1 q A0 (some ⟨b, 0, none⟩) _ _ h1 hrv (by intro u hu; simp at hu; subst hu; rfl) (by unfold maxLen; omega) (by omega) hlo
  have hl : vals.length = n := by simpa using h1.1
  have hnb : ∀ b, b < w.heap.size → (Value.slice A0 n c0).ownBlock ≠ some b → (Value.slice A' (n + 1) c').ownBlock ≠ some b := fun b hb hne => by
    rcases hat with e | e
    · rw [e]; exact hne
    · rw [e]; intro he; simp only [Option.some.injEq] at he; omega
  have hap := ownsRow_ne hnew.1 h1 (by decide)
  refine ⟨A', c', w', hrun, ⟨_, hr, fun g hg' => (hr.lt g hg').2, by simp [h3], fun j hj => ?_⟩, hg, hs⟩
  by_cases hjn : j < n
  · obtain ⟨A2, m', c'', h5, h6, h7⟩ := h4 j hjn
    refine ⟨A2, m', c'', by rw [List.getElem?_append_left (by omega)]; exact h5, ?_, fun b o hA => ⟨(h7 b o hA).1, Nat.lt_of_lt_of_le (h7 b o hA).2.1 hg.size, hnb b (h7 b o hA).2.1 (h7 b o hA).2.2⟩⟩
    rw [gl_append_lt (by omega)]
    exact h6.grown_ hg (fun b o hA => (h7 b o hA).2.2)
  · obtain rfl : j = n := by omega
    refine ⟨A, m, c, by rw [List.getElem?_append_right (by omega), hl, Nat.sub_self]; rfl, ?_, fun b o hA => ?_⟩
    · rw [← h3, gl_append_eq]
      exact (hown0.reads_new hnew hg)
    · have e : (Value.slice A m c).ownBlock = some b := by rw [hA]; rfl
      have := hnew.lt b e
      exact ⟨hbad b e, Nat.lt_of_lt_of_le this.2.2 hg.size, hnb b this.2.2 (fun he => hap b e he)⟩
theorem wpList_appLL {ops : Array Oper} {rest : List Oper} {o : Oper} {a : Act} {Q : Exit → Act → World → Prop} (hgd : o.guard = none) (s x : Operand)
    (ho : o.op = .call { callee := .builtin .append, args := #[s, x], argTypes := #[105, 105] })
    {lo hi lo2 hi2 n c0 m c b q : Nat} {A0 A : Option Addr} {xss : List (List Int)} {ys : List Int} {bad : Option Nat} (hs : a.eval s = .slice A0 n c0) (hown : LII w lo hi (.slice A0 n c0) n xss bad) (hx : a.eval x = .slice (some ⟨b, 0, none⟩) 1 q) (hnew : Own w lo2 hi2 (.slice A m c) m ys) (hbad : ∀ g, (Value.slice A m c).ownBlock = some g → bad ≠ some g) (hc : w.cell? ⟨b, 0, none⟩ = some (.slice A m c))
    (hlen : n ≤ 4194304) (hlo : lo ≤ w.heap.size)
    (h : ∀ A' c' w', LII w' lo w'.heap.size (.slice A' (n + 1) c') (n + 1) (xss ++ [ys]) bad → w.grownBy w' (Value.slice A0 n c0).ownBlock → StayA A0 (n * 1) w w' → wpList Try.prog ops Q rest (a.put o.dst (.slice A' (n + 1) c')) w') : wpList Try.prog ops Q (o :: rest) a w := by
  refine wpList_plain hgd fun _ hK => ?_
  obtain ⟨A', c', w', hrun, h2, h3, h5⟩ := run_appLL w o.type lo hi lo2 hi2 n c0 m c b q A0 A xss ys bad hown hnew hbad hc hlen hlo
  unfold Oper.wp execOp
  simp only [ho, resolve, invoke, builtin, Sem.run_bind, Sem.run_pure, Result.andThen_ok, List.map_toArray, List.map_cons, List.map_nil, hs, hx, hrun]
  exact hK _ _ (h A' c' w' h2 h3 h5)
end

end Go.Proofs.Ytanlbdkggocdiaa
