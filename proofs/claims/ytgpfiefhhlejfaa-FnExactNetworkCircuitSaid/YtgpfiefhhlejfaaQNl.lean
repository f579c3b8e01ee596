/- Lines of a network: an outer row of the call's own whose lists are read, beside a maker. Lengths below 2^20. -/
import Derived.Test.YtgpfiefhhlejfaaQNet
import Derived.Test.YtgpfiefhhlejfaaQCat
import Derived.Test.YtgpfiefhhlejfaaQRwT
namespace Go.Proofs.Ytgpfiefhhlejfaa
open Go.RowKit
set_option linter.unusedVariables false
set_option linter.unusedSimpArgs false

/-- The slice v is a row of the call's own, from lo on, apart from the maker in block b; its lists xss lie neither in it nor in the maker. -/
def NL (w : World) (b : Nat) (G : Option Nat) (lo : Nat) (v : Value) (n : Nat) (xss : List (List Int)) : Prop :=
  ∃ vals : List Value, w.ownsRow lo 24 1 v n vals ∧ (∀ g, v.ownBlock = some g → g ≠ b ∧ G ≠ some g) ∧ xss.length = n ∧
    ∀ j : Nat, j < n → ∃ A m c, vals[j]? = some (.slice A m c) ∧ RM w b G A m (gl xss j) ∧ ∀ k o, A = some ⟨k, o, none⟩ → v.ownBlock ≠ some k ∧ k < w.heap.size
section
variable {w w' : World} {b lo lo' n : Nat} {G G' : Option Nat} {v : Value} {xss : List (List Int)} {x y : Int} {Ao : Option Addr} {no co : Nat} {gs : List G3}
theorem NL.len (h : NL w b G lo v n xss) : xss.length = n := by obtain ⟨_, _, _, h3, _⟩ := h; exact h3
theorem NL.lt (h : NL w b G lo v n xss) : ∀ g, v.ownBlock = some g → lo ≤ g ∧ g < w.heap.size ∧ g ≠ b ∧ G ≠ some g := by
  obtain ⟨vals, h1, h2, _⟩ := h
  exact fun g hg => ⟨(h1.lt g hg).1, (h1.lt g hg).2, (h2 g hg).1, (h2 g hg).2⟩
theorem NL.none_ (w : World) (b : Nat) (G : Option Nat) (lo : Nat) : NL w b G lo (.slice none 0 0) 0 [] :=
  ⟨[], World.ownsRow_nil w lo _ _, fun g hg => by simp [Value.ownBlock] at hg, rfl, fun j hj => absurd hj (by omega)⟩
theorem NL.new0 (w : World) (b : Nat) (G : Option Nat) (lo : Nat) (hl : lo ≤ w.heap.size) (hb : b < w.heap.size) (hG : ∀ g, G = some g → g < w.heap.size) : NL (w.alloc (.cells #[] 24)) b G lo (.slice (some ⟨w.heap.size, 0, none⟩) 0 0) 0 [] := by
  have h := World.ownsRow_lit (base := lo) (e := 24) (size := 1) w #[] 0 hl (by unfold maxLen; omega) (by simp)
  refine ⟨[], by simpa using h, fun g hg => ?_, rfl, fun j hj => absurd hj (by omega)⟩
  have hg' : w.heap.size = g := by simpa [Value.ownBlock] using hg
  exact ⟨by omega, fun hc => by have := hG g hc; omega⟩
theorem ownsRow_alt {S : Nat → Prop} {e : TypeId} {s : Nat} {vals : List Value} (h : w.ownsRow lo e s v n vals) (k : Alt S w w') (hs : ∀ g, v.ownBlock = some g → ¬ S g) : w'.ownsRow lo e s v n vals := by
  refine ⟨h.1, ?_⟩
  rcases h.2 with h1 | ⟨g, cap, cur, rfl, hlo, hg, r⟩
  · exact .inl h1
  · have hl := h.lt g (by simp [Value.ownBlock])
    exact .inr ⟨g, cap, cur, rfl, hlo, by rw [k.block g hl.2 (hs g (by simp [Value.ownBlock]))]; exact hg, r⟩
theorem RM.alt {S : Nat → Prop} {A : Option Addr} {m : Nat} {xs : List Int} (h : RM w b G A m xs) (k : Alt S w w') (hs : ∀ q o, A = some ⟨q, o, none⟩ → ¬ S q) : RM w' b G A m xs :=
  ⟨h.1.alt k (fun _ q o hA => hs q o hA), h.2⟩
theorem RM.below_ {B : Nat} {A : Option Addr} {m : Nat} {xs : List Int} (h : RM w b G A m xs) (k : Below B w w') (hB : w.heap.size ≤ B) : RM w' b G A m xs := ⟨h.1.below k hB, h.2⟩
theorem NL.mv (h : NL w b G lo v n xss) (k : Mv b G G' w w') : NL w' b G' lo v n xss := by
  have hlt := h.lt
  obtain ⟨vals, h1, h2, h3, h4⟩ := h
  have hal : Alt (fun i => i = b ∨ G = some i) w w' := ⟨k.os, k.tape, k.output, k.size, fun i hi hn => k.block i hi (fun hc => hn (.inl hc)) (fun hc => hn (.inr hc))⟩
  refine ⟨vals, ownsRow_alt h1 hal (fun g hg hc => hc.elim (h2 g hg).1 (h2 g hg).2), fun g hg => ⟨(h2 g hg).1, k.off (hlt g hg).2.1 (h2 g hg).2⟩, h3, fun j hj => ?_⟩
  obtain ⟨A, m, c, h5, h6, h7⟩ := h4 j hj
  exact ⟨A, m, c, h5, h6.mv k, fun q o hA => ⟨(h7 q o hA).1, Nat.lt_of_lt_of_le (h7 q o hA).2 k.size⟩⟩
theorem NL.below_ {B : Nat} (h : NL w b G lo v n xss) (k : Below B w w') (hB : w.heap.size ≤ B) : NL w' b G lo v n xss := by
  obtain ⟨vals, h1, h2, h3, h4⟩ := h
  have hal : Alt (fun i => B ≤ i) w w' := Alt.of_below k fun _ _ h => h
  refine ⟨vals, ownsRow_alt h1 hal (fun g hg hc => by have := (h1.lt g hg).2; omega), h2, h3, fun j hj => ?_⟩
  obtain ⟨A, m, c, h5, h6, h7⟩ := h4 j hj
  exact ⟨A, m, c, h5, h6.below_ k hB, fun q o hA => ⟨(h7 q o hA).1, Nat.lt_of_lt_of_le (h7 q o hA).2 k.size⟩⟩
theorem NL.alloc_ (h : NL w b G lo v n xss) (o : Obj) : NL (w.alloc o) b G lo v n xss := h.below_ ((Below.refl _ _).alloc (Nat.le_refl _) o) (Nat.le_refl _)
theorem NL.drewN_ (h : NL w b G lo v n xss) (k : Nat) : NL (w.drewN k) b G lo v n xss := h.below_ (below_of_drewN k) (Nat.le_refl _)
/-- A line. -/
theorem NL.at_ {A : Option Addr} {c : Nat} (h : NL w b G lo (.slice A n c) n xss) {k : Nat} (hk : k < n) :
    ∃ g A' m c', A = some ⟨g, 0, none⟩ ∧ lo ≤ g ∧ g < w.heap.size ∧ w.cell? ⟨g, k, none⟩ = some (.slice A' m c') ∧ w.frozen? ⟨g, k, none⟩ = false ∧ RM w b G A' m (gl xss k) ∧ ∀ q o, A' = some ⟨q, o, none⟩ → q ≠ g ∧ q < w.heap.size := by
  obtain ⟨vals, h1, h2, h3, h4⟩ := h
  obtain ⟨g, cap, hv, hl, hlt⟩ := h1.form (by omega)
  simp only [Value.slice.injEq, true_and] at hv
  obtain ⟨rfl, rfl⟩ := hv
  obtain ⟨A', m, c', h5, h6, h7⟩ := h4 k hk
  exact ⟨g, A', m, c', rfl, hl, hlt, by rw [h1.cellAt k (by omega), h5], h1.frozenAt k, h6, fun q o hA => ⟨fun hc => (h7 q o hA).1 (by simp [Value.ownBlock, hc]), (h7 q o hA).2⟩⟩
theorem NL.reads {A : Option Addr} {c : Nat} (h : NL w b G lo (.slice A n c) n xss) : RII w A n xss := by
  refine ⟨h.len, fun hn => ?_⟩
  obtain ⟨g, A', m, c', rfl, _, hlt, _⟩ := h.at_ hn
  refine ⟨g, 0, rfl, hlt, fun j hj => ?_⟩
  obtain ⟨g', A', m, c', hg, _, _, hc, _, hr, _⟩ := h.at_ hj
  simp only [Option.some.injEq, Addr.mk.injEq, and_true] at hg
  subst hg
  exact ⟨A', m, c', by rw [Nat.zero_add]; exact hc, hr.1⟩
/-- A line is replaced. -/
theorem NL.stored {g c m c' j : Nat} {A' : Option Addr} {ys : List Int} (h : NL w b G lo (.slice (some ⟨g, 0, none⟩) n c) n xss) (hj : j < n) (hr : RM w b G A' m ys) (hd : ∀ q o, A' = some ⟨q, o, none⟩ → q ≠ g ∧ q < w.heap.size) :
    NL (w.setCell ⟨g, j, none⟩ (.slice A' m c')) b G lo (.slice (some ⟨g, 0, none⟩) n c) n (xss.set j ys) := by
  obtain ⟨vals, h1, h2, h3, h4⟩ := h
  have k1 : Alt (fun i => i = g) w (w.setCell ⟨g, j, none⟩ (.slice A' m c')) := (Alt.refl_ _ w).set_ _ _ (fun _ => rfl)
  have hl : vals.length = n := by simpa using h1.1
  refine ⟨vals.set j (.slice A' m c'), (h1.stored j _).1, h2, by simp [h3], fun i hi => ?_⟩
  by_cases hij : j = i
  · subst hij
    refine ⟨A', m, c', by rw [List.getElem?_set]; simp [hl, hj], ?_, fun q o hA => ⟨fun hc => ?_, by simpa using (hd q o hA).2⟩⟩
    · rw [gl_set _ (by omega), if_pos rfl]; exact hr.alt k1 (fun q o hA => (hd q o hA).1)
    · simp [Value.ownBlock] at hc; exact (hd q o hA).1 hc.symm
  · obtain ⟨A2, m2, c2, h5, h6, h7⟩ := h4 i hi
    refine ⟨A2, m2, c2, by rw [List.getElem?_set_ne hij]; exact h5, ?_, fun q o hA => ⟨(h7 q o hA).1, by simpa using (h7 q o hA).2⟩⟩
    rw [gl_set _ (by omega), if_neg hij]
    exact h6.alt k1 (fun q o hA hc => (h7 q o hA).1 (by simp [Value.ownBlock, hc]))
end
section
variable (w : World)
/-- A line is appended. -/
theorem run_appN (ty : TypeId) (lo n c0 m c b bq q : Nat) (G : Option Nat) (A0 A : Option Addr) (xss : List (List Int)) (ys : List Int) (hown : NL w b G lo (.slice A0 n c0) n xss) (hnew : RM w b G A m ys) (hd : ∀ k o, A = some ⟨k, o, none⟩ → (Value.slice A0 n c0).ownBlock ≠ some k ∧ k < w.heap.size)
    (hc : w.cell? ⟨bq, 0, none⟩ = some (.slice A m c)) (hlen : n ≤ 4194304) (hlo : lo ≤ w.heap.size) (hb : b < w.heap.size) (hG : ∀ g, G = some g → g < w.heap.size) :
    ∃ A' c' w', (Builtin.append_ #[63, 63] ty #[.slice A0 n c0, .slice (some ⟨bq, 0, none⟩) 1 q]).run Try.prog w = .ok (.slice A' (n + 1) c') w' ∧
      NL w' b G lo (.slice A' (n + 1) c') (n + 1) (xss ++ [ys]) ∧ w.grownBy w' (Value.slice A0 n c0).ownBlock := by
  obtain ⟨vals, h1, h2, h3, h4⟩ := hown
  obtain ⟨i, hi0, hz0, hz1, hz2⟩ := info_parts info_ints
  have hrv : RV w (some ⟨bq, 0, none⟩) 1 1 [.slice A m c] := by
    refine ⟨rfl, fun _ => ⟨_, rfl, fun j u hu => ?_⟩⟩
    cases j with
    | zero => simp at hu; subst hu; rw [addr_add]; exact hc
    | succ j => simp at hu
  obtain ⟨A', c', w', hrun, hr, hg, hat, hs⟩ := run_appV (P := Try.prog) w 63 ty 24 i (.slice none 0 0) 1 24 Try.underlying63 hi0 hz0 hz1 hz2 rfl (by decide) lo n c0 1 q A0 (some ⟨bq, 0, none⟩) _ _ h1 hrv (by intro u hu; simp at hu; subst hu; rfl) (by unfold maxLen; omega) (by omega) hlo
  have hl : vals.length = n := by simpa using h1.1
  have ka := Alt.of_grown (S := fun i => (Value.slice A0 n c0).ownBlock = some i) hg (fun _ h => h)
  refine ⟨A', c', w', hrun, ⟨_, hr, fun g hg' => ?_, by simp [h3], fun j hj => ?_⟩, hg⟩
  · rcases hat with h | h
    · exact h2 g (h ▸ hg')
    · rw [h] at hg'; injection hg' with hg'; subst hg'
      exact ⟨by omega, fun hc => by have := hG _ hc; omega⟩
  · by_cases hjn : j < n
    · obtain ⟨A2, m2, c2, h5, h6, h7⟩ := h4 j hjn
      refine ⟨A2, m2, c2, by rw [List.getElem?_append_left (by omega)]; exact h5, ?_, fun k o hA => ⟨fun hcc => ?_, Nat.lt_of_lt_of_le (h7 k o hA).2 hg.size⟩⟩
      · rw [gl_append_lt (by omega)]; exact h6.alt ka (fun k o hA => (h7 k o hA).1)
      · rcases hat with h | h
        · exact (h7 k o hA).1 (h ▸ hcc)
        · rw [h] at hcc; injection hcc with hcc; have := (h7 k o hA).2; omega
    · obtain rfl : j = n := by omega
      refine ⟨A, m, c, by rw [List.getElem?_append_right (by omega), hl, Nat.sub_self]; rfl, ?_, fun k o hA => ⟨fun hcc => ?_, Nat.lt_of_lt_of_le (hd k o hA).2 hg.size⟩⟩
      · rw [← h3, gl_append_eq]; exact hnew.alt ka (fun k o hA => (hd k o hA).1)
      · rcases hat with h | h
        · exact (hd k o hA).1 (h ▸ hcc)
        · rw [h] at hcc; injection hcc with hcc; have := (hd k o hA).2; omega
theorem wpList_appN {ops : Array Oper} {rest : List Oper} {o : Oper} {a : Act} {Q : Exit → Act → World → Prop} (hgd : o.guard = none) (s x : Operand)
    (ho : o.op = .call { callee := .builtin .append, args := #[s, x], argTypes := #[63, 63] })
    {lo n c0 m c b bq q : Nat} {G : Option Nat} {A0 A : Option Addr} {xss : List (List Int)} {ys : List Int} (hs : a.eval s = .slice A0 n c0) (hown : NL w b G lo (.slice A0 n c0) n xss) (hx : a.eval x = .slice (some ⟨bq, 0, none⟩) 1 q) (hnew : RM w b G A m ys) (hd : ∀ k o, A = some ⟨k, o, none⟩ → (Value.slice A0 n c0).ownBlock ≠ some k ∧ k < w.heap.size)
    (hc : w.cell? ⟨bq, 0, none⟩ = some (.slice A m c)) (hlen : n ≤ 4194304) (hlo : lo ≤ w.heap.size) (hb : b < w.heap.size) (hG : ∀ g, G = some g → g < w.heap.size)
    (h : ∀ A' c' w', NL w' b G lo (.slice A' (n + 1) c') (n + 1) (xss ++ [ys]) → w.grownBy w' (Value.slice A0 n c0).ownBlock → wpList Try.prog ops Q rest (a.put o.dst (.slice A' (n + 1) c')) w') : wpList Try.prog ops Q (o :: rest) a w :=
  wpList_plain hgd fun _ hK => by
    obtain ⟨A', c', w', hrun, h2, h3⟩ := run_appN w o.type lo n c0 m c b bq q G A0 A xss ys hown hnew hd hc hlen hlo hb hG
    unfold Oper.wp execOp
    simp only [ho, resolve, invoke, builtin, Sem.run_bind, Sem.run_pure, Result.andThen_ok, List.map_toArray, List.map_cons, List.map_nil, hs, hx, hrun]
    exact hK _ _ (h A' c' w' h2 h3)
end

end Go.Proofs.Ytgpfiefhhlejfaa
