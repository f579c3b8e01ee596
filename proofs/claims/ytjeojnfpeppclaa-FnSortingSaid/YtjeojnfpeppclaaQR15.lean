/- NetworkCircuit of the program. Lengths below 2^21. -/
import Derived.Test.YtjeojnfpeppclaaQR14
namespace Go.Proofs.Ytjeojnfpeppclaa
open Go.RowKit
set_option linter.unusedVariables false
set_option linter.unusedSimpArgs false
def NL (w : World) (b : Nat) (G : Option Nat) (lo : Nat) (v : Value) (n : Nat) (xss : List (List Int)) : Prop :=
 ∃ vals : List Value, w.ownsRow lo 34 1 v n vals ∧ (∀ g, v.ownBlock = some g → g ≠ b ∧ G ≠ some g) ∧ xss.length = n ∧
  ∀ j : Nat, j < n → ∃ A m c, vals[j]? = some (.slice A m c) ∧ RM w b G A m (gl xss j) ∧ ∀ k o, A = some ⟨k, o, none⟩ → v.ownBlock ≠ some k ∧ k < w.heap.size
section
variable {w w' : World} {b lo lo' n : Nat} {G G' : Option Nat} {v : Value} {xss : List (List Int)} {x y : Int} {Ao : Option Addr} {no co : Nat} {gs : List G3}
theorem NL.len (h : NL w b G lo v n xss) : xss.length = n := by obtain ⟨_, _, _, h3, _⟩ := h; exact h3
theorem NL.lt (h : NL w b G lo v n xss) : ∀ g, v.ownBlock = some g → lo ≤ g ∧ g < w.heap.size ∧ g ≠ b ∧ G ≠ some g := by
 obtain ⟨vals, h1, h2, _⟩ := h
 exact fun g hg => ⟨(h1.lt g hg).1, (h1.lt g hg).2, (h2 g hg).1, (h2 g hg).2⟩
theorem NL.none_ (w : World) (b : Nat) (G : Option Nat) (lo : Nat) : NL w b G lo (.slice none 0 0) 0 [] :=
 ⟨[], World.ownsRow_nil w lo _ _, fun g hg => by simp [Value.ownBlock] at hg, rfl, fun j hj => absurd hj (by omega)⟩
theorem NL.new0 (w : World) (b : Nat) (G : Option Nat) (lo : Nat) (hl : lo ≤ w.heap.size) (hb : b < w.heap.size) (hG : ∀ g, G = some g → g < w.heap.size) : NL (w.alloc (.cells #[] 34)) b G lo (.slice (some ⟨w.heap.size, 0, none⟩) 0 0) 0 [] := by
 have h := World.ownsRow_lit (base := lo) (e := 34) (size := 1) w #[] 0 hl (by unfold maxLen; omega) (by simp)
 refine ⟨[], by simpa using h, fun g hg => ?_, rfl, fun j hj => absurd hj (by omega)⟩
 have hg' : w.heap.size = g := by simpa [Value.ownBlock] using hg
 exact ⟨by omega, fun hc => by have := hG g hc; omega⟩
theorem ownsRow_alt {S : Nat → Prop} {e : TypeId} {s : Nat} {vals : List Value} (h : w.ownsRow lo e s v n vals) (k : Alt S w w') (hs : ∀ g, v.ownBlock = some g → ¬ S g) : w'.ownsRow lo e s v n vals := by
 refine ⟨h.1, ?_⟩
 rcases h.2 with h1 | ⟨g, cap, cur, rfl, hlo, hg, r⟩
 ·exact .inl h1
 ·have hl := h.lt g (by simp [Value.ownBlock])
  exact .inr ⟨g, cap, cur, rfl, hlo, by rw [k.block g hl.2 (hs g (by simp [Value.ownBlock]))]; exact hg, r⟩
theorem RM.alt {S : Nat → Prop} {A : Option Addr} {m : Nat} {xs : List Int} (h : RM w b G A m xs) (k : Alt S w w') (hs : ∀ q o, A = some ⟨q, o, none⟩ → ¬ S q) : RM w' b G A m xs :=
 ⟨h.1.alt k (fun _ q o hA => hs q o hA), h.2⟩
theorem RM.below_ {B : Nat} {A : Option Addr} {m : Nat} {xs : List Int} (h : RM w b G A m xs) (k : Below B w w') (hB : w.heap.size ≤ B) : RM w' b G A m xs := ⟨h.1.below k hB, h.2⟩
theorem NL.mv (h : NL w b G lo v n xss) (k : Mv b G G' w w') : NL w' b G' lo v n xss := by
 have hlt := h.lt
 obtain ⟨vals, h1, h2, h3, h4⟩ := h
 have hal : Alt (fun i => i = b ∨ G = some i) w w' := ⟨k.os, k.tape, k.output, k.size, fun i hi hn => k.block i hi (fun hc => hn (.inl hc)) (fun hc => hn (.inr hc))⟩
 refine ⟨vals, ownsRow_alt h1 hal (fun g hg hc => hc.elim (h2 g hg).1 (h2 g hg).2), fun g hg => ⟨(h2 g hg).1, k.off (hlt g hg).2.1 (h2 g hg).2⟩, h3, fun j hj => ?_⟩
 obtain ⟨A, m, c, h5, h6, h7⟩ := h4 j hj
 exact ⟨A, m, c, h5, h6.mv k, fun q o hA => ⟨(h7 q o hA).1, Nat.lt_of_lt_of_le (h7 q o hA).2 k.size⟩⟩
theorem NL.below_ {B : Nat} (h : NL w b G lo v n xss) (k : Below B w w') (hB : w.heap.size ≤ B) : NL w' b G lo v n xss := by
 obtain ⟨vals, h1, h2, h3, h4⟩ := h
 have hal : Alt (fun i => B ≤ i) w w' := Alt.of_below k fun _ _ h => h
 refine ⟨vals, ownsRow_alt h1 hal (fun g hg hc => by have := (h1.lt g hg).2; omega), h2, h3, fun j hj => ?_⟩
 obtain ⟨A, m, c, h5, h6, h7⟩ := h4 j hj
 exact ⟨A, m, c, h5, h6.below_ k hB, fun q o hA => ⟨(h7 q o hA).1, Nat.lt_of_lt_of_le (h7 q o hA).2 k.size⟩⟩
theorem NL.alloc_ (h : NL w b G lo v n xss) (o : Obj) : NL (w.alloc o) b G lo v n xss := h.below_ ((Below.refl _ _).alloc lR o) lR
theorem NL.drewN_ (h : NL w b G lo v n xss) (k : Nat) : NL (w.drewN k) b G lo v n xss := h.below_ (below_of_drewN k) lR
theorem NL.at_ {A : Option Addr} {c : Nat} (h : NL w b G lo (.slice A n c) n xss) {k : Nat} (hk : k < n) :
 ∃ g A' m c', A = some ⟨g, 0, none⟩ ∧ lo ≤ g ∧ g < w.heap.size ∧ w.cell? ⟨g, k, none⟩ = some (.slice A' m c') ∧ w.frozen? ⟨g, k, none⟩ = false ∧ RM w b G A' m (gl xss k) ∧ ∀ q o, A' = some ⟨q, o, none⟩ → q ≠ g ∧ q < w.heap.size := by
 obtain ⟨vals, h1, h2, h3, h4⟩ := h
 obtain ⟨g, cap, hv, hl, hlt⟩ := h1.form (by omega)
 simp only [Value.slice.injEq, true_and] at hv
 obtain ⟨rfl, rfl⟩ := hv
 obtain ⟨A', m, c', h5, h6, h7⟩ := h4 k hk
 exact ⟨g, A', m, c', rfl, hl, hlt, by rw [h1.cellAt k (by omega), h5], h1.frozenAt k, h6, fun q o hA => ⟨fun hc => (h7 q o hA).1 (by simp [Value.ownBlock, hc]), (h7 q o hA).2⟩⟩
theorem NL.reads {A : Option Addr} {c : Nat} (h : NL w b G lo (.slice A n c) n xss) : RII w A n xss := by
 refine ⟨h.len, fun hn => ?_⟩
 obtain ⟨g, A', m, c', rfl, _, hlt, _⟩ := h.at_ hn
 refine ⟨g, 0, rfl, hlt, fun j hj => ?_⟩
 obtain ⟨g', A', m, c', hg, _, _, hc, _, hr, _⟩ := h.at_ hj
 simp only [Option.some.injEq, Addr.mk.injEq, and_true] at hg
 subst hg
 exact ⟨A', m, c', by rw [Nat.zero_add]; exact hc, hr.1⟩
theorem NL.stored {g c m c' j : Nat} {A' : Option Addr} {ys : List Int} (h : NL w b G lo (.slice (some ⟨g, 0, none⟩) n c) n xss) (hj : j < n) (hr : RM w b G A' m ys) (hd : ∀ q o, A' = some ⟨q, o, none⟩ → q ≠ g ∧ q < w.heap.size) :
 NL (w.setCell ⟨g, j, none⟩ (.slice A' m c')) b G lo (.slice (some ⟨g, 0, none⟩) n c) n (xss.set j ys) := by
 obtain ⟨vals, h1, h2, h3, h4⟩ := h
 have k1 : Alt (fun i => i = g) w (w.setCell ⟨g, j, none⟩ (.slice A' m c')) := (Alt.refl_ _ w).set_ _ _ (fun _ => rfl)
 have hl : vals.length = n := by simpa using h1.1
 refine ⟨vals.set j (.slice A' m c'), (h1.stored j _).1, h2, by simp [h3], fun i hi => ?_⟩
 by_cases hij : j = i
 ·subst hij
  refine ⟨A', m, c', by rw [List.getElem?_set]; simp [hl, hj], ?_, fun q o hA => ⟨fun hc => ?_, by simpa using (hd q o hA).2⟩⟩
  ·rw [gl_set _ (by omega), if_pos rfl]; exact hr.alt k1 (fun q o hA => (hd q o hA).1)
  ·simp [Value.ownBlock] at hc; exact (hd q o hA).1 hc.symm
 ·obtain ⟨A2, m2, c2, h5, h6, h7⟩ := h4 i hi
  refine ⟨A2, m2, c2, by rw [List.getElem?_set_ne hij]; exact h5, ?_, fun q o hA => ⟨(h7 q o hA).1, by simpa using (h7 q o hA).2⟩⟩
  rw [gl_set _ (by omega), if_neg hij]
  exact h6.alt k1 (fun q o hA hc => (h7 q o hA).1 (by simp [Value.ownBlock, hc]))
end
section
variable (w : World)
theorem run_appN (ty : TypeId) (lo n c0 m c b bq q : Nat) (G : Option Nat) (A0 A : Option Addr) (xss : List (List Int)) (ys : List Int) (hown : NL w b G lo (.slice A0 n c0) n xss) (hnew : RM w b G A m ys) (hd : ∀ k o, A = some ⟨k, o, none⟩ → (Value.slice A0 n c0).ownBlock ≠ some k ∧ k < w.heap.size)
 (hc : w.cell? ⟨bq, 0, none⟩ = some (.slice A m c)) (hlen : n ≤ 4194304) (hlo : lo ≤ w.heap.size) (hb : b < w.heap.size) (hG : ∀ g, G = some g → g < w.heap.size) :
 ∃ A' c' w', (Builtin.append_ #[74, 74] ty #[.slice A0 n c0, .slice (some ⟨bq, 0, none⟩) 1 q]).run Try.prog w = .ok (.slice A' (n + 1) c') w' ∧
  NL w' b G lo (.slice A' (n + 1) c') (n + 1) (xss ++ [ys]) ∧ w.grownBy w' (Value.slice A0 n c0).ownBlock := by
 obtain ⟨vals, h1, h2, h3, h4⟩ := hown
 obtain ⟨i, hi0, hz0, hz1, hz2⟩ := info_parts info_ints
 have hrv : RV w (some ⟨bq, 0, none⟩) 1 1 [.slice A m c] := by
  refine ⟨rfl, fun _ => ⟨_, rfl, fun j u hu => ?_⟩⟩
  cases j with
  | zero => simp at hu; subst hu; rw [addr_add]; exact hc
  | succ j => simp at hu
 obtain ⟨A', c', w', hrun, hr, hg, hat, hs⟩ := run_appV (P := Try.prog) w 74 ty 34 i (.slice none 0 0) 1 24 Try.underlying74 hi0 hz0 hz1 hz2 rfl (by decide) lo n c0 1 q A0 (some ⟨bq, 0, none⟩) _ _ h1 hrv (by intro u hu; simp at hu; subst hu; rfl) (by unfold maxLen; omega) (by omega) hlo
 have hl : vals.length = n := by simpa using h1.1
 have ka := Alt.of_grown (S := fun i => (Value.slice A0 n c0).ownBlock = some i) hg (fun _ h => h)
 refine ⟨A', c', w', hrun, ⟨_, hr, fun g hg' => ?_, by simp [h3], fun j hj => ?_⟩, hg⟩
 ·rcases hat with h | h
  ·exact h2 g (h ▸ hg')
  ·rw [h] at hg'; injection hg' with hg'; subst hg'
   exact ⟨by omega, fun hc => by have := hG _ hc; omega⟩
 ·by_cases hjn : j < n
  ·obtain ⟨A2, m2, c2, h5, h6, h7⟩ := h4 j hjn
   refine ⟨A2, m2, c2, by rw [List.getElem?_append_left (by omega)]; exact h5, ?_, fun k o hA => ⟨fun hcc => ?_, Nat.lt_of_lt_of_le (h7 k o hA).2 hg.size⟩⟩
   ·rw [gl_append_lt (by omega)]; exact h6.alt ka (fun k o hA => (h7 k o hA).1)
   ·rcases hat with h | h
    ·exact (h7 k o hA).1 (h ▸ hcc)
    ·rw [h] at hcc; injection hcc with hcc; have := (h7 k o hA).2; omega
  ·obtain rfl : j = n := by omega
   refine ⟨A, m, c, by rw [List.getElem?_append_right (by omega), hl, Nat.sub_self]; rfl, ?_, fun k o hA => ⟨fun hcc => ?_, Nat.lt_of_lt_of_le (hd k o hA).2 hg.size⟩⟩
   ·rw [← h3, gl_append_eq]; exact hnew.alt ka (fun k o hA => (hd k o hA).1)
   ·rcases hat with h | h
    ·exact (hd k o hA).1 (h ▸ hcc)
    ·rw [h] at hcc; injection hcc with hcc; have := (hd k o hA).2; omega
theorem wpList_appN {ops : Array Oper} {rest : List Oper} {o : Oper} {a : Act} {Q : Exit → Act → World → Prop} (hgd : o.guard = none) (s x : Operand)
 (ho : o.op = .call { callee := .builtin .append, args := #[s, x], argTypes := #[74, 74] })
 {lo n c0 m c b bq q : Nat} {G : Option Nat} {A0 A : Option Addr} {xss : List (List Int)} {ys : List Int} (hs : a.eval s = .slice A0 n c0) (hown : NL w b G lo (.slice A0 n c0) n xss) (hx : a.eval x = .slice (some ⟨bq, 0, none⟩) 1 q) (hnew : RM w b G A m ys) (hd : ∀ k o, A = some ⟨k, o, none⟩ → (Value.slice A0 n c0).ownBlock ≠ some k ∧ k < w.heap.size)
 (hc : w.cell? ⟨bq, 0, none⟩ = some (.slice A m c)) (hlen : n ≤ 4194304) (hlo : lo ≤ w.heap.size) (hb : b < w.heap.size) (hG : ∀ g, G = some g → g < w.heap.size)
 (h : ∀ A' c' w', NL w' b G lo (.slice A' (n + 1) c') (n + 1) (xss ++ [ys]) → w.grownBy w' (Value.slice A0 n c0).ownBlock → wpList Try.prog ops Q rest (a.put o.dst (.slice A' (n + 1) c')) w') : wpList Try.prog ops Q (o :: rest) a w :=
 wpList_plain hgd fun _ hK => by
  obtain ⟨A', c', w', hrun, h2, h3⟩ := run_appN w o.type lo n c0 m c b bq q G A0 A xss ys hown hnew hd hc hlen hlo hb hG
  unfold Oper.wp execOp
  simp only [ho, resolve, invoke, builtin, Sem.run_bind, Sem.run_pure, Result.andThen_ok, List.map_toArray, List.map_cons, List.map_nil, hs, hx, hrun]
  exact hK _ _ (h A' c' w' h2 h3)
end
section
variable {w w' : World} {b : Nat} {u0 u1 u2 v0 v1 v2 : Value} {B : Nat}
theorem MkO.set_ {lo c : Nat} {x y : Int} {Ao : Option Addr} {no co : Nat} {gs : List G3} {G : Option Nat} (h : MkO w lo c x y Ao no co gs G) (p : Addr) (v : Value) (hp : p.block ≠ c) (hG : G ≠ some p.block) : MkO (w.setCell p v) lo c x y Ao no co gs G := by
 obtain ⟨h1, h2, hf, Ag, cg, hx, ho, he⟩ := h
 have k1 : Alt (fun i => i = p.block) w (w.setCell p v) := (Alt.refl_ _ w).set_ _ _ (fun _ => rfl)
 exact ⟨by simpa using h1, h2, fun q => (World.frozen?_setCell _ _ _ _).trans (hf q), Ag, cg, hx.alt k1 (fun hc => hp hc.symm), by simpa using ho.far1 p v (he ▸ hG), he⟩
end
theorem net_bd {n wd : Int} {ls : List Sp} (h1 : netB n ls = true) (h2 : inB 1 4 wd = true) : ∃ N W P : Nat, n = N ∧ wd = W ∧ N ≤ 12 ∧ 1 ≤ N ∧ W ≤ 4 ∧ 1 ≤ W ∧ ls.length ≤ 60 ∧ anyBad n ls = false ∧ n * wd = P ∧ N * W = P ∧ ∀ k : Nat, k < N → (k : Int) * W ≤ 48 ∧ 0 ≤ (k : Int) * W := by
 simp only [netB, Bool.and_eq_true, decide_eq_true_eq, Bool.not_eq_true'] at h1
 have b1 := inB_iff.1 h1.1
 have b2 := inB_iff.1 h2
 refine ⟨n.toNat, wd.toNat, n.toNat * wd.toNat, by omega, by omega, by omega, by omega, by omega, by omega, h1.2.1, h1.2.2, ?_, rfl, fun k hk => ?_⟩
 ·rw [Int.natCast_mul, Int.toNat_of_nonneg (by omega), Int.toNat_of_nonneg (by omega)]
 ·have h := Nat.mul_le_mul (show k ≤ 12 by omega) (show wd.toNat ≤ 4 by omega)
  rw [← Int.natCast_mul]; omega
set_option maxRecDepth 100000 in
set_option maxHeartbeats 4000000 in
theorem Zbq (n : Int) (A : Option Addr) (m c : Nat) (ls : List Sp) (wd : Int) (w : World) (ha : RS w A m ls) (hm : m ≤ 2097152) :
 Calls Try.prog 20 #[.int .i64 n, .slice A m c, .int .i64 wd] w (RetC w (netF n ls wd)) := by
 have hl := ha.len
 have hB : Below w.heap.size w (w.alloc (.cells #[.int .i64 0, .int .i64 0, .slice none 0 0, .slice none 0 0] 43)) := bA
 have hx0 : BxC (w.alloc (.cells #[.int .i64 0, .int .i64 0, .slice none 0 0, .slice none 0 0] 43)) w.heap.size 0 0 none 0 0 none 0 0 := BxC.new w _
 have f0 : Fz (w.alloc (.cells #[.int .i64 0, .int .i64 0, .slice none 0 0, .slice none 0 0] 43)) w.heap.size := Fz.new w _ _
 cases h1 : netB n ls with
 | false =>
  have HR : Hid (netF n ls wd = none) := zH (by simp [netF, h1])
  have H1 := zH h1; clear h1
  go_enter Try.func20, Try.ntmps20
  go_wp2_with fail
  refine (Zag n A m c ls _ (ha.below hB lR) hm).mono ?_
  rintro e v1 ⟨rfl, hb1⟩
  rw [H1.out]
  have hr1 := hx0.below hb1
  have f1 := f0.below hb1 (by simp)
  have hBv := hB.trans (hb1.mono hB.size)
  clear hx0 f0 hb1 hB
  have hq := hr1; obtain ⟨r0, r1, r2, r3⟩ := hq
  have g0 := f1 0; have g1 := f1 1; have g2 := f1 2; have g3 := f1 3
  go_wp2
  have hq9 := BxC.set4 (hr1) 0 0 none 0 0 none 0 0
  obtain ⟨q0, q1, q2, q3⟩ := hq9
  refine bodyPost_ret (v := .tuple #[.agg #[.int .i64 0, .int .i64 0, .slice none 0 0, .slice none 0 0], .bool false]) (by simp [results, Try.results20, go_sem, q0, q1, q2, q3]) rfl ?_
  exact RetC.none_ (Zai hBv (by omega) _ _ _ _ _ _ _ _) HR.out rfl
 | true =>
  cases h2 : inB 1 4 wd with
  | false =>
   have HR : Hid (netF n ls wd = none) := zH (by simp [netF, h1, h2])
   have H1 := zH h1; clear h1
   go_enter Try.func20, Try.ntmps20
   go_wp2_with fail
   refine (Zag n A m c ls _ (ha.below hB lR) hm).mono ?_
   rintro e v1 ⟨rfl, hb1⟩
   rw [H1.out]
   go_wp2_with fail
   refine (Zac wd 1 4 _ h2 _).mono ?_
   rintro e v2 ⟨rfl, rfl⟩
   have hr1 := hx0.below hb1
   have f1 := f0.below hb1 (by simp)
   have hBv := hB.trans (hb1.mono hB.size)
   clear hx0 f0 hb1 hB
   have hq := hr1; obtain ⟨r0, r1, r2, r3⟩ := hq
   have g0 := f1 0; have g1 := f1 1; have g2 := f1 2; have g3 := f1 3
   go_wp2
   have hq9 := BxC.set4 (hr1) 0 0 none 0 0 none 0 0
   obtain ⟨q0, q1, q2, q3⟩ := hq9
   refine bodyPost_ret (v := .tuple #[.agg #[.int .i64 0, .int .i64 0, .slice none 0 0, .slice none 0 0], .bool false]) (by simp [results, Try.results20, go_sem, q0, q1, q2, q3]) rfl ?_
   exact RetC.none_ (Zai hBv (by omega) _ _ _ _ _ _ _ _) HR.out rfl
  | true =>
   obtain ⟨N, W, P, hnN, hwW, hN12, hN1, hW4, hW1, hl60, hab, hP, hPN, hkW⟩ := net_bd h1 h2
   have hP48 : P ≤ 48 := by have := Nat.mul_le_mul hN12 hW4; omega
   subst hnN
   subst hwW
   have hwm : IntKind.i64.wrap ((N : Int) * (W : Int)) = (P : Int) := by rw [hP]; exact IntWalk.i64_in _ (by omega)
   by_cases h3 : P ≤ 20
   ·have h3' : (P : Int) ≤ 20 := by omega
    rw [hl] at hl60
    have hok := netN_ok (X := (P : Int) + 0) (N := N) (W := W) (L := linesN N W) (ls := ls) (Zbv N W) (fun j hj => linesN_row hj) hab
    have hst := fun k (hk : k < m) => ok_at hab (j := k) (by omega)
    obtain ⟨D, L9, hD⟩ : ∃ D L, Hid (netN ((P : Int) + 0) W (linesN N W) ls m = (D, L)) := ⟨_, _, zH rfl⟩
    have HF1 : Hid (circB (P : Int) 0 D L9.flatten = true → netF (N : Int) ls (W : Int) = some ⟨(P : Int), 0, D, L9.flatten⟩) := zH fun h => by
     unfold netF; rw [h1, h2, hP, Int.toNat_natCast, Int.toNat_natCast, hl, hD.out]; simp [h, h3']
    have HF0 : Hid (circB (P : Int) 0 D L9.flatten = false → netF (N : Int) ls (W : Int) = none) := zH fun h => by
     unfold netF; rw [h1, h2, hP, Int.toNat_natCast, Int.toNat_natCast, hl, hD.out]; simp [h, h3']
    have H1 := zH h1; have HOK := zH hok; have HST := zH hst; have HKW := zH hkW
    have HP := zH hP
    clear h1 hok hst hkW hab hP hPN
    go_enter Try.func20, Try.ntmps20
    go_wp2_with fail
    refine (Zag N A m c ls _ (ha.below hB lR) hm).mono ?_
    rintro e v1 ⟨rfl, hb1⟩
    rw [H1.out]
    go_wp2_with fail
    refine (Zac W 1 4 _ h2 _).mono ?_
    rintro e v2 ⟨rfl, rfl⟩
    have hr1 := hx0.below hb1
    have f1 := f0.below hb1 (by simp)
    have hBv := hB.trans (hb1.mono hB.size)
    have hzv : w.heap.size + 1 ≤ v1.heap.size := by have := hb1.size; simpa using this
    clear hx0 f0 hb1 hB
    have hm0 := (Mk.new v1 v1.heap.size (P : Int) 0 73).alloc_ (.cells #[] 34)
    have hn0 := NL.new0 (v1.alloc (.cells #[.int .i64 (P : Int), .int .i64 0, .slice none 0 0, .slice none 0 0] 73)) v1.heap.size none v1.heap.size (by simp) (by simp) (fun g hg => by cases hg)
    have hb0 : Below v1.heap.size v1 ((v1.alloc (.cells #[.int .i64 (P : Int), .int .i64 0, .slice none 0 0, .slice none 0 0] 73)).alloc (.cells #[] 34)) := (bA).alloc (by simp) _
    simp only [World.size_alloc] at hn0
    go_wp2
    go_loopw [9, 41] (fun o i wr => ∃ (k : Nat) (O : Option Addr) (oc : Nat), k ≤ N ∧ i = .int .i64 k ∧ o = .slice O k oc ∧ Mk wr v1.heap.size v1.heap.size (P : Int) 0 [] none ∧ NL wr v1.heap.size none v1.heap.size (.slice O k oc) k (linesN k W) ∧ Below v1.heap.size v1 wr) (fun _ i _ => N - (intOf i).toNat)
    case atStart => exact ⟨0, _, _, Nat.zero_le _, rfl, rfl, hm0, hn0, hb0⟩
    case round =>
     clear hm0 hn0 hb0
     obtain ⟨k, O, oc, hk, rfl, rfl, hmk, hnl, hb⟩ := hrel
     have hzr := hb.size
     by_cases hlt : k < N
     ·obtain ⟨hk1, hk0⟩ := HKW.out k hlt
      have hwk : IntKind.i64.wrap ((k : Int) * (W : Int)) = (k : Int) * W := IntWalk.i64_in _ (by omega)
      go_wp2_with fail
      refine (span_any ((k : Int) * W) W _ ⟨hk0, by omega⟩ (by omega)).mono ?_
      rintro e w3 hT
      obtain ⟨A3, c3, rfl, hown3, hb3⟩ := hT.open_ (spn_len _ W)
      have hz3 := hb3.size
      have hrm := (RM.ofOwn (b := v1.heap.size) hown3 (by have := hmk.1; omega)).below_ ((Below.refl w3.heap.size w3).alloc lR (.cells #[.slice A3 W c3] 34)) lR
      have hm3 := (hmk.below_ hb3 lR).alloc_ (.cells #[.slice A3 W c3] 34)
      have hn3 := (hnl.below_ hb3 lR).alloc_ (.cells #[.slice A3 W c3] 34)
      have hbA := (hb.trans (hb3.mono hzr)).alloc (by omega) (.cells #[.slice A3 W c3] 34)
      have hcc := Zaa w3 #[.slice A3 W c3] (T := 34) 0 (.slice A3 W c3) rfl
      have hd3 : ∀ q o, A3 = some ⟨q, o, none⟩ → (Value.slice O k oc).ownBlock ≠ some q ∧ q < (w3.alloc (.cells #[.slice A3 W c3] 34)).heap.size := fun q o hA => by
       obtain ⟨g, hg, h1, h2, h3⟩ := hown3.some_ (by omega)
       rw [hA] at hg; injection hg with hg; injection hg with hg1 hg2
       subst hg1
       exact ⟨fun hc => by have := (hnl.lt _ hc).2.1; omega, by simp; omega⟩
      go_wp2_with (at_builtin; refine wpList_appN _ rfl _ _ rfl rfl hn3 rfl hrm hd3 hcc (by omega) (by simp; omega) (by simp; omega) (fun g hg => by cases hg) ?_; intro A5 c5 w5 hn5 hg5)
      have hm5 := hm3.grown_ hg5 (fun hc => (hn3.lt _ hc).2.2.1 rfl) (fun g hc => by simp)
      have hb5 := below_grown hbA hg5 (by simp; omega) (fun j hj => (hn3.lt j hj).1)
      rw [← linesN_snoc] at hn5
      clear hrm hm3 hn3 hbA hcc hd3 hg5 hmk hnl hb hown3 hb3
      go_wp2
      go_roundw
      case rel => exact ⟨k + 1, _, _, by omega, by go_num, rfl, hm5, hn5, hb5⟩
      case measure => simp [intOf]; omega
     ·obtain rfl : N = k := Nat.le_antisymm (Nat.le_of_not_lt hlt) hk
      go_wp2
      go_loopw [55] (fun i wr => ∃ (k : Nat) (G : Option Nat), k ≤ m ∧ i = .int .i64 k ∧ Mk wr v1.heap.size v1.heap.size (P : Int) 0 (netN ((P : Int) + 0) W (linesN N W) ls k).1 G ∧ NL wr v1.heap.size G v1.heap.size (.slice O N oc) N (netN ((P : Int) + 0) W (linesN N W) ls k).2 ∧ Below v1.heap.size v1 wr) (fun i _ => m - (intOf i).toNat)
      case atStart => exact ⟨0, none, Nat.zero_le _, rfl, hmk, hnl, hb⟩
      case round =>
       clear hmk hnl hb hzr
       obtain ⟨k, G, hk, rfl, hmk, hnl, hb⟩ := hrel
       have hzr := hb.size
       have hBr := hBv.trans (hb.mono hBv.size)
       by_cases hlt : k < m
       ·obtain ⟨bs, os, rfl, hbs, s1, s2⟩ := (ha.below hBr lR).at_ hlt
        obtain ⟨hs0, hs1, hs2⟩ := HST.out k hlt
        obtain ⟨SG, SL, hSk⟩ : ∃ SG SL, Hid (netN ((P : Int) + 0) W (linesN N W) ls k = (SG, SL)) := ⟨_, _, zH rfl⟩
        have hok := HOK.out k (by omega)
        have hS1 : Hid (netN ((P : Int) + 0) W (linesN N W) ls (k + 1) = stepN ((P : Int) + 0) W (SG, SL) (ss ls k)) := zH (by simp only [netN]; rw [hSk.out])
        rw [hSk.out] at hmk hnl hok
        obtain ⟨hle, hlen, hrow⟩ := hok
        dsimp only at hmk hnl hle hlen hrow
        have hle' : SG.length ≤ 3000 := by have := Nat.mul_le_mul (Nat.mul_le_mul (Nat.le_refl 12) hW4) (show k ≤ 60 by omega); omega
        obtain ⟨sp, hsp⟩ : ∃ s, s = ss ls k := ⟨_, rfl⟩
        rw [← hsp] at s1 s2 hs0 hs1 hs2 hS1
        clear hsp hle
        obtain ⟨sl, sh⟩ := sp
        dsimp only at s1 s2 hs0 hs1 hs2
        obtain ⟨a1, rfl⟩ : ∃ a : Nat, sl = a := ⟨sl.toNat, by omega⟩
        obtain ⟨a2, rfl⟩ : ∃ a : Nat, sh = a := ⟨sh.toNat, by omega⟩
        have ha1 : a1 < N := by omega
        have ha2 : a2 < N := by omega
        obtain ⟨g, A1, q1, c1, hO, hg1, hg2, hce1, hfz1, hrm1, hd1⟩ := hnl.at_ (k := a1) ha1
        obtain ⟨g', A2, q2, c2, hO2, _, _, hce2, hfz2, hrm2, hd2⟩ := hnl.at_ (k := a2) ha2
        obtain rfl : g = g' := by rw [hO] at hO2; injection hO2 with h; injection h
        obtain rfl : q1 = W := by rw [← hrm1.len]; exact hrow a1 ha1
        obtain rfl : q2 = q1 := by rw [← hrm2.len]; exact hrow a2 ha2
        subst hO
        obtain ⟨us, hus⟩ := lT (gl SL a1)
        obtain ⟨vs, hvs⟩ := lT (gl SL a2)
        rw [hus.out] at hrm1
        rw [hvs.out] at hrm2
        have hbA : Below wr.heap.size wr (wr.alloc (.cells #[.int .i64 (a1 : Int), .int .i64 (a2 : Int)] 54)) := bA
        have e0 := Zaa wr #[.int .i64 (a1 : Int), .int .i64 (a2 : Int)] (T := 54) 0 (.int .i64 (a1 : Int)) rfl
        have e1 := Zaa wr #[.int .i64 (a1 : Int), .int .i64 (a2 : Int)] (T := 54) 1 (.int .i64 (a2 : Int)) rfl
        have off : OffB v1.heap.size G wr.heap.size := ⟨by have := hmk.1; omega, fun hc => by have := (hmk.lt _ hc).2; omega⟩
        have hgo : OffB v1.heap.size G g := ⟨(hnl.lt g (by simp [Value.ownBlock])).2.2.1, (hnl.lt g (by simp [Value.ownBlock])).2.2.2⟩
        have hsbl := subS_g ((P : Int) + 0) SG us vs q2
        have hsb0 := subS_o ((P : Int) + 0) SG us vs q2
        obtain ⟨B0, BO, BC, hsb⟩ : ∃ a b c, Hid (subS ((P : Int) + 0) SG us vs q2 = ⟨a, b, c⟩) := ⟨_, _, _, zH rfl⟩
        rw [hsb.out] at hsbl hsb0
        dsimp only at hsbl hsb0
        have hc1l := chs_g ((P : Int) + 0) B0 BC us vs q2
        have hc1o := chs_o ((P : Int) + 0) B0 BC us vs q2
        obtain ⟨C0, CO, hc1⟩ : ∃ a b, Hid (chs ((P : Int) + 0) B0 BC us vs q2 = ⟨a, b⟩) := ⟨_, _, zH rfl⟩
        rw [hc1.out] at hc1l hc1o
        dsimp only at hc1l hc1o
        have hc2o := chs_o ((P : Int) + 0) C0 BC vs us q2
        obtain ⟨D0, DO, hc2⟩ : ∃ a b, Hid (chs ((P : Int) + 0) C0 BC vs us q2 = ⟨a, b⟩) := ⟨_, _, zH rfl⟩
        rw [hc2.out] at hc2o
        dsimp only at hc2o
        have hS2 : Hid (netN ((P : Int) + 0) q2 (linesN N q2) ls (k + 1) = (D0, (SL.set a1 CO).set a2 DO)) := zH (by
         rw [hS1.out]; unfold stepN; dsimp only
         rw [Int.toNat_natCast, Int.toNat_natCast, hus.out, hvs.out, hsb.out]; dsimp only; rw [hc1.out]; dsimp only; rw [hc2.out])
        have hK0 := fun (W' : World) h1 h2 h3 h4 => maker_subtract_any v1.heap.size v1.heap.size (P : Int) 0 SG G A1 A2 q2 c1 c2 us vs W' h1 h2 h3 (by omega) (by omega) (by omega) (by omega) h4
        rw [hsb.out] at hK0
        have hK1 := fun (W' : World) G' h1 h2 h3 h4 => maker_choose_any v1.heap.size v1.heap.size (P : Int) 0 B0 G' A1 A2 q2 c1 c2 BC us vs W' h1 h2 h3 (by omega) (by omega) (by omega) (by omega) h4
        rw [hc1.out] at hK1
        have hK2 := fun (W' : World) G' h1 h2 h3 h4 => maker_choose_any v1.heap.size v1.heap.size (P : Int) 0 C0 G' A2 A1 q2 c2 c1 BC vs us W' h1 h2 h3 (by omega) (by omega) (by omega) (by omega) h4
        rw [hc2.out] at hK2
        dsimp only at hK1 hK2
        have HK0 := zH hK0; have HK1 := zH hK1; have HK2 := zH hK2
        clear hK0 hK1 hK2 hS1
        go_wp2_with fail
        go_quiet (fail)
        go_wp2_with fail
        have hmA := (hmk.alloc_ (.cells #[.int .i64 (a1 : Int), .int .i64 (a2 : Int)] 54)).drewN_ nq
        have hnA := (hnl.alloc_ (.cells #[.int .i64 (a1 : Int), .int .i64 (a2 : Int)] 54)).drewN_ nq
        have hbQ := Zak hbA nq
        have e0q : ((wr.alloc (.cells #[.int .i64 (a1 : Int), .int .i64 (a2 : Int)] 54)).drewN nq).cell? ⟨wr.heap.size, 0, none⟩ = some (.int .i64 (a1 : Int)) := e0
        have e1q : ((wr.alloc (.cells #[.int .i64 (a1 : Int), .int .i64 (a2 : Int)] 54)).drewN nq).cell? ⟨wr.heap.size, 1, none⟩ = some (.int .i64 (a2 : Int)) := e1
        have r1A := hrm1.below_ hbQ lR
        have r2A := hrm2.below_ hbQ lR
        have hbb := hb.trans (hbQ.mono hzr)
        have hzQ := hbb.size
        have hsQ : ((wr.alloc (.cells #[.int .i64 (a1 : Int), .int .i64 (a2 : Int)] 54)).drewN nq).heap.size = wr.heap.size + 1 := by simp
        refine (HK0.out _ hmA r1A r2A hzQ).mono ?_
        rintro e w5 ⟨G5, O5, oc5, rfl, hm5, hv5, ho5⟩
        dsimp only at hm5
        have hz5 := hv5.size
        have e05 := hv5.cellF e0q off
        have e15 := hv5.cellF e1q off
        have off5 := hv5.offF (by omega) off
        have hgo5 := hv5.offF (by omega) hgo
        have hn5 := hnA.mv hv5
        have r15 := r1A.mv hv5
        have r25 := r2A.mv hv5
        have hb5 := hv5.toBelow hbb lR (fun g hg => (hmA.lt g hg).1) hzQ
        clear hmA hnA r1A r2A e0q e1q e0 e1 hv5 ho5
        have ng0 : ∀ q q' : Nat, (⟨g, q, none⟩ : Addr) ≠ ⟨wr.heap.size, q', none⟩ := fun q q' h9 => by have h8 := congrArg Addr.block h9; dsimp only at h8; omega
        have e05d : (w5.drewN 1).cell? ⟨wr.heap.size, 0, none⟩ = some (.int .i64 (a1 : Int)) := e05
        have e05e : (World.drew w5).cell? ⟨wr.heap.size, 0, none⟩ = some (.int .i64 (a1 : Int)) := e05
        have r15d : RM (w5.drewN 1) v1.heap.size G5 A1 q2 us := r15
        have r25d : RM (w5.drewN 1) v1.heap.size G5 A2 q2 vs := r25
        have e15d : (w5.drewN 1).cell? ⟨wr.heap.size, 1, none⟩ = some (.int .i64 (a2 : Int)) := e15
        have hl5 : v1.heap.size ≤ (w5.drewN 1).heap.size := hb5.size
        have hg5 : g < (w5.drewN 1).heap.size := by show g < w5.heap.size; omega
        have hq5 : wr.heap.size < (w5.drewN 1).heap.size := by show wr.heap.size < w5.heap.size; omega
        go_wp2_with fail
        go_region_held3 (fun w' => w'.cell? ⟨wr.heap.size, 0, none⟩ = some (.int .i64 (a1 : Int))) (first | (with_reducible exact e05e) | (with_reducible exact e05d) | (with_reducible exact hv6.cellF e05d off5) | (exact (World.cell?_setCell_other _ _ _ _ (ng0 _ _)).trans (hv6.cellF e05d off5)) | go_keep) (first | (go_at_call 43; refine (HK1.out _ G5 (hm5.drewN_ 1) r15d r25d hl5).mono ?_; rintro e w6 hT6; obtain ⟨G6, O6, oc6, rfl, hm6, hv6, ho6⟩ := hT6.open_ hc1o; have hn6 := (hn5.drewN_ 1).mv hv6; have hq6 := hn6.at_ ha1; obtain ⟨g6, A6', m6', c6', hO6, _, _, hce6, hfz6, _, _⟩ := hq6; injection hO6 with hO6; injection hO6 with hO6; subst hO6))
        have hd6 : ∀ q o, O6 = some ⟨q, o, none⟩ → q ≠ g ∧ q < w6.heap.size := fun q o hA => by
         obtain ⟨g9, h1, h2, h3, h4⟩ := ho6.1.some_ (by omega)
         rw [hA] at h1; injection h1 with h1; injection h1 with h1 _
         subst h1
         exact ⟨by omega, h4⟩
        have hgo6 := hv6.offF hg5 hgo5
        have off6 := hv6.offF hq5 off5
        have hn7 := hn6.stored (c' := oc6) ha1 ho6.reads hd6
        have hm7 : Mk (w6.setCell ⟨g, a1, none⟩ (.slice O6 q2 oc6)) v1.heap.size v1.heap.size (P : Int) 0 C0 G6 := (show MkO w6 v1.heap.size v1.heap.size (P : Int) 0 none 0 0 C0 G6 from hm6).set_ ⟨g, a1, none⟩ _ (And.left hgo6) (And.right hgo6)
        have k7 : Alt (fun i => i = g) w6 (w6.setCell ⟨g, a1, none⟩ (.slice O6 q2 oc6)) := (Alt.refl_ _ w6).set_ _ _ (fun _ => rfl)
        have r17 := (r15d.mv hv6).alt k7 (fun q o hA => (hd1 q o hA).1)
        have r27 := (r25d.mv hv6).alt k7 (fun q o hA => (hd2 q o hA).1)
        have e17 := (World.cell?_setCell_other w6 _ _ (.slice O6 q2 oc6) (ng0 a1 1)).trans (hv6.cellF e15d off5)
        have hb6 := hv6.toBelow (Zak hb5 1) lR (fun g hg => (hm5.lt g hg).1) hl5
        have hb7 := hb6.setCell (p := ⟨g, a1, none⟩) hg1 (.slice O6 q2 oc6)
        have hz6 := hv6.size
        obtain ⟨w7, hw7⟩ : ∃ w7, w7 = w6.setCell ⟨g, a1, none⟩ (.slice O6 q2 oc6) := ⟨_, rfl⟩
        have hs7 : w7.heap.size = w6.heap.size := by rw [hw7]; simp
        rw [← hw7] at hn7 hm7 r17 r27 e17 hb7
        have HW7 := zH hw7; clear hw7
        have e17d : (w7.drewN 1).cell? ⟨wr.heap.size, 1, none⟩ = some (.int .i64 (a2 : Int)) := e17
        have e17e : (World.drew w7).cell? ⟨wr.heap.size, 1, none⟩ = some (.int .i64 (a2 : Int)) := e17
        have r17d : RM (w7.drewN 1) v1.heap.size G6 A1 q2 us := r17
        have r27d : RM (w7.drewN 1) v1.heap.size G6 A2 q2 vs := r27
        have hl7 : v1.heap.size ≤ (w7.drewN 1).heap.size := hb7.size
        have hg7 : g < (w7.drewN 1).heap.size := by show g < w7.heap.size; have : g < w5.heap.size := hg5; have : w5.heap.size ≤ w6.heap.size := hz6; omega
        have hq7 : wr.heap.size < (w7.drewN 1).heap.size := by show wr.heap.size < w7.heap.size; have : w5.heap.size ≤ w6.heap.size := hz6; omega
        clear hs7 hn6 hm6 hm5 hv6 hn5 ho6 hd6 hb6 hb5 hz6 e05 e05d e05e e15 e15d r15 r25 r15d r25d hfz6 hce6 k7
        go_wp2_with fail
        rw [← HW7.out]
        go_region_held3 (fun w' => w'.cell? ⟨wr.heap.size, 1, none⟩ = some (.int .i64 (a2 : Int))) (first | (with_reducible exact e17e) | (with_reducible exact e17d) | (with_reducible exact hv8.cellF e17d off6) | (exact (World.cell?_setCell_other _ _ _ _ (ng0 _ _)).trans (hv8.cellF e17d off6)) | go_keep) (first | (go_at_call 43; refine (HK2.out _ G6 (hm7.drewN_ 1) r27d r17d hl7).mono ?_; rintro e w8 hT8; obtain ⟨G8, O8, oc8, rfl, hm8, hv8, ho8⟩ := hT8.open_ hc2o; have hn8 := (hn7.drewN_ 1).mv hv8; have hq8 := hn8.at_ ha2; obtain ⟨g8, A8', m8', c8', hO8, _, _, hce8, hfz8, _, _⟩ := hq8; injection hO8 with hO8; injection hO8 with hO8; subst hO8))
        have hd8 : ∀ q o, O8 = some ⟨q, o, none⟩ → q ≠ g ∧ q < w8.heap.size := fun q o hA => by
         obtain ⟨g9, h1, h2, h3, h4⟩ := ho8.1.some_ (by omega)
         rw [hA] at h1; injection h1 with h1; injection h1 with h1 _
         subst h1
         exact ⟨by omega, h4⟩
        have hgo8 := hv8.offF hg7 hgo6
        have hn9 := hn8.stored (c' := oc8) ha2 ho8.reads hd8
        have hm9 : Mk (w8.setCell ⟨g, a2, none⟩ (.slice O8 q2 oc8)) v1.heap.size v1.heap.size (P : Int) 0 D0 G8 := (show MkO w8 v1.heap.size v1.heap.size (P : Int) 0 none 0 0 D0 G8 from hm8).set_ ⟨g, a2, none⟩ _ (And.left hgo8) (And.right hgo8)
        have hb8 := hv8.toBelow (Zak hb7 1) lR (fun g hg => (hm7.lt g hg).1) hl7
        have hb9 := hb8.setCell (p := ⟨g, a2, none⟩) hg1 (.slice O8 q2 oc8)
        have hrel1 : Mk (w8.setCell ⟨g, a2, none⟩ (.slice O8 q2 oc8)) v1.heap.size v1.heap.size (P : Int) 0 (netN ((P : Int) + 0) q2 (linesN N q2) ls (k + 1)).1 G8 ∧ NL (w8.setCell ⟨g, a2, none⟩ (.slice O8 q2 oc8)) v1.heap.size G8 v1.heap.size (.slice (some ⟨g, 0, none⟩) N oc) N (netN ((P : Int) + 0) q2 (linesN N q2) ls (k + 1)).2 := by rw [hS2.out]; exact ⟨hm9, hn9⟩
        clear hm9 hn9 hm8 hn8 hb8 hn7 hm7 r17 r27 e17 hb7 e17d e17e r17d r27d hS2 hmk hnl hb
        go_wp2
        go_roundw
        case rel => exact ⟨k + 1, _, by omega, by go_num, hrel1.1, hrel1.2, hb9⟩
        case measure => simp [intOf]; omega
       ·obtain rfl : m = k := Nat.le_antisymm (Nat.le_of_not_lt hlt) hk
        have hok := HOK.out m (by omega)
        rw [hD.out] at hmk hnl hok
        obtain ⟨hle, hlen, hrow⟩ := hok
        dsimp only at hmk hnl hle hlen hrow
        have hle' : D.length ≤ 3000 := by have := Nat.mul_le_mul (Nat.mul_le_mul (Nat.le_refl 12) hW4) hl60; omega
        have hfl := flat_le (xss := L9) (M := 4) (fun j hj => by rw [hrow j (by omega)]; exact hW4) L9.length lR
        rw [List.take_length] at hfl
        obtain ⟨no, hno⟩ : ∃ no, L9.flatten.length = no := ⟨_, rfl⟩
        have hno48 : no ≤ 48 := by omega
        go_wp2_with fail
        refine (Concat_any O N oc L9 _ hnl.reads (by omega) (fun j hj => by rw [hrow j hj]; omega)).mono ?_
        rintro e w5 hT
        obtain ⟨A5, c5, rfl, ho5, hb5⟩ := hT.open_ hno
        have hz5 := hb5.size
        have hm5 := hmk.below_ hb5 lR
        have hbl5 := hb.trans (hb5.mono hzr)
        obtain ⟨t1, t2, tf, Ag, cg, hbx, hbo, hbe⟩ := hm5
        have hq := hbx; obtain ⟨p0, p1, p2, p3⟩ := hq
        have e3 := tf 3
        have hO7 := hbx.setO A5 no c5
        have ka : Alt (fun i => i = v1.heap.size) w5 (w5.setCell ⟨v1.heap.size, 3, none⟩ (.slice A5 no c5)) := (Alt.refl_ _ w5).set_ _ _ (fun _ => rfl)
        have hG7 := hbo.alt ka (fun g hg hc => t2 (hbe ▸ hc ▸ hg))
        have hO57 := ho5.alt ka (fun g hg hc => by have := ho5.lt g hg; have := hmk.1; omega)
        have hap7 : Apart (.slice Ag D.length cg) (.slice A5 no c5) := fun g h1 h2 => by
         have h3 := ho5.lt g h2
         rw [hbe] at h1
         have h4 := (hmk.lt g h1).2
         omega
        have hC7 : OwnC (w5.setCell ⟨v1.heap.size, 3, none⟩ (.slice A5 no c5)) v1.heap.size w5.heap.size Ag D.length cg A5 no c5 D L9.flatten := ⟨hG7, hO57.lo_ hzr, hap7⟩
        have hbl7 := hbl5.setCell (p := ⟨v1.heap.size, 3, none⟩) lR (.slice A5 no c5)
        have hr7 := hr1.below hbl7
        have f7 := f1.below hbl7 hr1.lt
        have hB7 := hBv.trans (hbl7.mono hBv.size)
        have hs7 : (w5.setCell ⟨v1.heap.size, 3, none⟩ (.slice A5 no c5)).heap.size = w5.heap.size := by simp
        obtain ⟨n0, n1, n2, n3⟩ := hO7
        clear hG7 hO57 hmk hnl hb hbx hbo ka
        cases h9 : circB (P : Int) 0 D L9.flatten with
        | true =>
         have HF := zH (HF1.out h9)
         go_wp2_with fail
         refine (valid_t (P : Int) 0 Ag D.length cg A5 no c5 D L9.flatten _ hC7.reads.1 hC7.reads.2 (by omega) (by omega) h9).mono ?_
         rintro e w9 ⟨rfl, hb9⟩
         have hr9 := hr7.below hb9
         have f9 := f7.below hb9 hr7.lt
         have hB9 := hB7.trans (hb9.mono hB7.size)
         have hC9 := hC7.below hb9 (.inl lR)
         have hz9 := hb9.size
         rw [hs7] at hz9
         have hq := hr9; obtain ⟨r0, r1, r2, r3⟩ := hq
         have g0 := f9 0; have g1 := f9 1; have g2 := f9 2; have g3 := f9 3
         go_wp2
         have hq9 := BxC.set4 (hr9) (P : Int) 0 Ag D.length cg A5 no c5
         obtain ⟨q0, q1, q2, q3⟩ := hq9
         refine bodyPost_ret (v := .tuple #[.agg #[.int .i64 (P : Int), .int .i64 0, .slice Ag D.length cg, .slice A5 no c5], .bool true]) (by simp [results, Try.results20, go_sem, q0, q1, q2, q3]) rfl ?_
         exact RetC.some_ (Zai hB9 (by omega) _ _ _ _ _ _ _ _) HF.out rfl hno rfl (by rw [set4_size]; exact ((hC9.set4 (.inl (by omega)) _ _ _ _ _ _ _ _).lo_ (by omega)) |> fun h => h.hi_ (by omega))
        | false =>
         have HF := zH (HF0.out h9)
         go_wp2_with fail
         refine (valid_f (P : Int) 0 Ag D.length cg A5 no c5 D L9.flatten _ hC7.reads.1 hC7.reads.2 (by omega) (by omega) h9).mono ?_
         rintro e w9 ⟨rfl, hb9⟩
         have hr9 := hr7.below hb9
         have f9 := f7.below hb9 hr7.lt
         have hB9 := hB7.trans (hb9.mono hB7.size)
         have hq := hr9; obtain ⟨r0, r1, r2, r3⟩ := hq
         have g0 := f9 0; have g1 := f9 1; have g2 := f9 2; have g3 := f9 3
         go_wp2
         have hq9 := BxC.set4 (hr9) 0 0 none 0 0 none 0 0
         obtain ⟨q0, q1, q2, q3⟩ := hq9
         refine bodyPost_ret (v := .tuple #[.agg #[.int .i64 0, .int .i64 0, .slice none 0 0, .slice none 0 0], .bool false]) (by simp [results, Try.results20, go_sem, q0, q1, q2, q3]) rfl ?_
         exact RetC.none_ (Zai hB9 (by omega) _ _ _ _ _ _ _ _) HF.out rfl
   ·have h3' : ¬ (P : Int) ≤ 20 := by omega
    have HR : Hid (netF (N : Int) ls (W : Int) = none) := zH (by unfold netF; rw [h1, h2, hP]; simp; omega)
    have H1 := zH h1
    have HP := zH hP
    clear h1 hkW hab hP hPN
    go_enter Try.func20, Try.ntmps20
    go_wp2_with fail
    refine (Zag N A m c ls _ (ha.below hB lR) hm).mono ?_
    rintro e v1 ⟨rfl, hb1⟩
    rw [H1.out]
    go_wp2_with fail
    refine (Zac W 1 4 _ h2 _).mono ?_
    rintro e v2 ⟨rfl, rfl⟩
    have hr1 := hx0.below hb1
    have f1 := f0.below hb1 (by simp)
    have hBv := hB.trans (hb1.mono hB.size)
    clear hx0 f0 hb1 hB
    have hq := hr1; obtain ⟨r0, r1, r2, r3⟩ := hq
    have g0 := f1 0; have g1 := f1 1; have g2 := f1 2; have g3 := f1 3
    go_wp2
    have hq9 := BxC.set4 (hr1) 0 0 none 0 0 none 0 0
    obtain ⟨q0, q1, q2, q3⟩ := hq9
    refine bodyPost_ret (v := .tuple #[.agg #[.int .i64 0, .int .i64 0, .slice none 0 0, .slice none 0 0], .bool false]) (by simp [results, Try.results20, go_sem, q0, q1, q2, q3]) rfl ?_
    exact RetC.none_ (Zai hBv (by omega) _ _ _ _ _ _ _ _) HR.out rfl
end Go.Proofs.Ytjeojnfpeppclaa
