/- What compiling holds in memory: a maker, its outs, the wires and the ends of lines, apart from each other. No condition. -/
import Derived.Test.YtenknpcbbcbciaaGreatQS24
namespace Go.Proofs.YtenknpcbbcbciaaGreat
open Go.RowKit
set_option linter.unusedVariables false
set_option linter.unusedSimpArgs false
def inP (p : Int) (x : Ln) : Bool := decide (x.kind = 1) && decide (x.party = p)
def outP (x : Ln) : Bool := decide (x.kind = 6)
def outsL (l : List Ln) : List Int := byK outP l (wids sW l) l.length
theorem wid_in {l : List Ln} (h : allW l) {k : Nat} (hk : k < l.length) (h1 : (lx l k).kind = 1) : (lx l k).width = gi (wids sW l) k :=
 (Zev 0 h hk (cS_inv 0 0 h k (by omega))).2.2.2.1 h1
theorem wid_bd {l : List Ln} (h : allW l) {k : Nat} (hk : k < l.length) : 1 ≤ gi (wids sW l) k ∧ gi (wids sW l) k ≤ 10 :=
 (Zev 0 h hk (cS_inv 0 0 h k (by omega))).2.2.2.2
theorem byK_ins {l : List Ln} (h : allW l) (p : Int) : ∀ k, k ≤ l.length → byK (inP p) l (wids sW l) k = insL (l.take k) p := by
 intro k
 induction k with
 | zero => intro _; rfl
 | succ k ih =>
  intro hk
  rw [Zdg (by omega), Zbi, ← ih (by omega)]
  unfold byK
  by_cases h1 : (lx l k).kind = 1 ∧ (lx l k).party = p
  ·rw [if_pos (by simp [inP, h1]), if_pos h1, wid_in h (by omega) h1.1]
   cases k <;> rfl
  ·rw [if_neg (by simp [inP]; exact fun a b => h1 ⟨a, b⟩), if_neg h1]
   cases k <;> rfl
theorem byK_out_len (l : List Ln) (ws : List Int) : ∀ k, k ≤ l.length → (byK outP l ws k).length = outsC (l.take k) := by
 intro k
 induction k with
 | zero => intro _; simp [byK, outsC]
 | succ k ih =>
  intro hk
  rw [Zdg (by omega), Zcz, ← ih (by omega)]
  show (if outP (lx l k) = true then byK outP l ws k ++ [gi ws k] else byK outP l ws k).length = _
  by_cases h1 : (lx l k).kind = 6
  ·rw [if_pos (by simp [outP, h1]), if_pos h1]; simp
  ·rw [if_neg (by simp [outP, h1]), if_neg h1]
theorem outsL_len (l : List Ln) : (outsL l).length = outsC l := by
 unfold outsL; rw [byK_out_len l _ _ lR, List.take_of_length_le lR]
theorem byK_all {p : Ln → Bool} {l : List Ln} {ws : List Int} {lo hi : Int} (h : ∀ k, k < l.length → lo ≤ gi ws k ∧ gi ws k ≤ hi) : ∀ k, k ≤ l.length → ∀ z ∈ byK p l ws k, lo ≤ z ∧ z ≤ hi := by
 intro k
 induction k with
 | zero => intro _ z hz; simp [byK] at hz
 | succ k ih =>
  intro hk z hz
  unfold byK at hz
  split at hz
  ·rcases List.mem_append.1 hz with hz | hz
   ·exact ih (by omega) z hz
   ·simp at hz; subst hz; exact h k (by omega)
  ·exact ih (by omega) z hz
theorem Zfa {l : List Ln} (h : allW l) : ∀ z ∈ outsL l, 1 ≤ z ∧ z ≤ 10 := byK_all (fun k hk => wid_bd h hk) _ lR
theorem Zbz {l : List Ln} (h : allW l) (p : Int) : ∀ z ∈ insL l p, 1 ≤ z ∧ z ≤ 10 := by
 have e := byK_ins h p l.length lR
 rw [List.take_of_length_le lR] at e
 rw [← e]
 exact byK_all (fun k hk => wid_bd h hk) _ lR
theorem Zbx (l : List Ln) (p : Int) : (insL l p).length ≤ l.length := by
 unfold insL; rw [List.length_map]; exact List.length_filter_le _ _
theorem byO_out (l : List Ln) : byO (fun x => decide (x.kind = 6)) l = if goodP l then some (outsL l) else none := rfl
theorem byO_in (l : List Ln) (p : Int) : byO (fun x => decide (x.kind = 1) && decide (x.party = p)) l = if goodP l then some (insL l p) else none := by
 unfold byO
 by_cases h : goodP l
 ·rw [if_pos h, if_pos h]
  have e := byK_ins h.2.1 p l.length lR
  rw [List.take_of_length_le lR] at e
  rw [← e]; rfl
 ·rw [if_neg h, if_neg h]
theorem allW_iff (l : List Ln) : allB 1 10 (wids sW l) = true ↔ allW l := by
 rw [allB_iff]
 constructor
 ·intro h z hz; have := h z hz; omega
 ·intro h z hz; have := h z hz; have := wids_bd l z hz; omega
theorem sumI_snoc2 {xs : List Int} {k : Nat} (h : k < xs.length) : sumI (xs.take (k + 1)) = sumI (xs.take k) + gi xs k := by
 rw [Zbj h, Zea]
theorem Zeb {xs : List Int} {M : Nat} (h : ∀ z ∈ xs, 0 ≤ z ∧ z ≤ M) : ∀ k, k ≤ xs.length → 0 ≤ sumI (xs.take k) ∧ sumI (xs.take k) ≤ M * k := by
 intro k
 induction k with
 | zero => intro _; simp [sumI]
 | succ k ih =>
  intro hk
  have := ih (by omega)
  have hz := h _ (Zbo (xs := xs) (j := k) (by omega))
  rw [sumI_snoc2 (by omega)]
  have e : (M : Int) * ((k + 1 : Nat) : Int) = M * k + M := by rw [Int.natCast_add, Int.mul_add]; simp
  rw [e]; omega
def fitB (ws ns : List Int) : Bool := decide (ws.length = ns.length) && (List.range ws.length).all fun i => inB 0 (2 ^ (gi ws i).toNat - 1) (gi ns i)
theorem fitB_len {ws ns : List Int} (h : ¬ ws.length = ns.length) : fitB ws ns = false := by simp [fitB, h]
theorem fitB_bad {ws ns : List Int} {k : Nat} (hk : k < ws.length) (h : inB 0 (2 ^ (gi ws k).toNat - 1) (gi ns k) = false) : fitB ws ns = false := by
 cases hc : fitB ws ns with
 | false => rfl
 | true =>
  simp only [fitB, Bool.and_eq_true, List.all_eq_true, List.mem_range] at hc
  rw [hc.2 k hk] at h; cases h
theorem fitB_ok {ws ns : List Int} (hl : ws.length = ns.length) (h : ∀ k, k < ws.length → inB 0 (2 ^ (gi ws k).toNat - 1) (gi ns k) = true) : fitB ws ns = true := by
 simp only [fitB, Bool.and_eq_true, List.all_eq_true, List.mem_range, decide_eq_true_eq]
 exact ⟨hl, h⟩
theorem fitB_at {ws ns : List Int} (h : fitB ws ns = true) : ws.length = ns.length ∧ ∀ k, k < ws.length → 0 ≤ gi ns k ∧ gi ns k ≤ 2 ^ (gi ws k).toNat - 1 := by
 simp only [fitB, Bool.and_eq_true, List.all_eq_true, List.mem_range, decide_eq_true_eq] at h
 exact ⟨h.1, fun k hk => inB_iff.1 (h.2 k hk)⟩
def ob (A : Option Addr) : Option Nat := A.map fun a => a.block
theorem ob_eq (A : Option Addr) (n c : Nat) : (Value.slice A n c).ownBlock = ob A := by cases A <;> rfl
def Dj (l : List (Option Nat)) : Prop := ∀ i j g : Nat, i ≠ j → l[i]? = some (some g) → l[j]? ≠ some (some g)
theorem Dj.upd {l : List (Option Nat)} {i : Nat} {a a' : Option Nat} {S : Nat} (h : Dj l) (hi : l[i]? = some a) (hlt : ∀ g, some g ∈ l → g < S) (ha : a' = a ∨ a' = none ∨ ∃ n, a' = some n ∧ S ≤ n) : Dj (l.set i a') := by
 intro p q g hpq h1 h2
 rw [List.getElem?_set] at h1 h2
 have hil : i < l.length := by
  rcases Nat.lt_or_ge i l.length with h | h
  ·exact h
  ·rw [List.getElem?_eq_none h] at hi; cases hi
 by_cases hp : i = p
 ·subst hp
  rw [if_pos rfl, if_pos hil] at h1
  rw [if_neg hpq] at h2
  have h3 := hlt g (List.mem_of_getElem? h2)
  rcases ha with rfl | rfl | ⟨n, rfl, hn⟩
  ·exact h i q g hpq (hi.trans h1) h2
  ·cases h1
  ·simp only [Option.some.injEq] at h1; omega
 ·rw [if_neg hp] at h1
  have h3 := hlt g (List.mem_of_getElem? h1)
  by_cases hq : i = q
  ·subst hq
   rw [if_pos rfl, if_pos hil] at h2
   rcases ha with rfl | rfl | ⟨n, rfl, hn⟩
   ·exact h p i g hpq h1 (hi.trans h2)
   ·cases h2
   ·simp only [Option.some.injEq] at h2; omega
  ·rw [if_neg hq] at h2; exact h p q g hpq h1 h2
theorem notin_upd {l : List (Option Nat)} {i q : Nat} {a a' : Option Nat} {S : Nat} (h : some q ∉ l) (hi : l[i]? = some a) (hq : q < S) (ha : a' = a ∨ a' = none ∨ ∃ n, a' = some n ∧ S ≤ n) : some q ∉ l.set i a' := by
 intro hc
 rcases List.mem_or_eq_of_mem_set hc with h1 | h1
 ·exact h h1
 ·rcases ha with rfl | rfl | ⟨n, rfl, hn⟩
  ·exact h (h1 ▸ List.mem_of_getElem? hi)
  ·cases h1
  ·simp only [Option.some.injEq] at h1; omega
def Wi (w : World) (lo : Nat) (ow : Bool) (bl : List (Option Nat)) (A : Option Addr) (c n : Nat) (xss : List (List Int)) : Prop :=
 ∃ vals : List Value, w.ownsRow lo 24 1 (.slice A n c) n vals ∧ xss.length = n ∧ ∀ j, j < n → ∃ P d, vals[j]? = some (.slice P (gl xss j).length d) ∧ RI w P (gl xss j).length (gl xss j) ∧ (∀ q o, P = some ⟨q, o, none⟩ → some q ∉ bl ∧ q < w.heap.size) ∧ (ow = true → Own w lo w.heap.size (.slice P (gl xss j).length d) (gl xss j).length (gl xss j)) ∧ ∀ q o, P = some ⟨q, o, none⟩ → lo ≤ q
structure Cp (ow : Bool) (zs : List Value) (w : World) (lo b bc bn : Nat) (x y n0 n1 : Int) (s : Cs) (k : Nat) (G : Option Nat) (Oa : Option Addr) (oc : Nat) (Ea : Option Addr) (ec : Nat) (Wa : Option Addr) (wc : Nat) : Prop where
 mq : MkQ ⟨Oa, s.os.length, oc⟩ w lo b x y s.g G
 ou : Own w lo w.heap.size (.slice Oa s.os.length oc) s.os.length s.os
 en : Own w lo w.heap.size (.slice Ea k ec) k s.es
 wi : Wi w lo ow [some b, some bc, some bn, G, ob Oa, ob Ea, ob Wa] Wa wc k s.ws
 cs : CellsAt w bc 0 (zs ++ [.slice Wa k wc, .slice Ea k ec])
 fz : Fz w bc
 tw : Two w bn n0 n1
 dj : Dj [some b, some bc, some bn, G, ob Oa, ob Ea, ob Wa]
 lb : lo ≤ b ∧ lo ≤ bc ∧ lo ≤ bn ∧ bc < w.heap.size
theorem Zav {w w' : World} {lo n s : Nat} {v : Value} {e : TypeId} {S : Nat → Prop} {vals : List Value} (h : w.ownsRow lo e s v n vals) (k : Alt S w w') (hs : ∀ g, v.ownBlock = some g → ¬ S g) : w'.ownsRow lo e s v n vals := by
 refine ⟨h.1, ?_⟩
 rcases h.2 with h1 | ⟨g, cap, cur, rfl, hlo, hg, r⟩
 ·exact .inl h1
 ·have hl := h.lt g (by simp [Value.ownBlock])
  exact .inr ⟨g, cap, cur, rfl, hlo, by rw [k.block g hl.2 (hs g (by simp [Value.ownBlock]))]; exact hg, r⟩
theorem MkO.alt {S : Nat → Prop} {w w' : World} {lo b : Nat} {x y : Int} {Ao : Option Addr} {no co : Nat} {gs : List G3} {G : Option Nat} (h : MkO w lo b x y Ao no co gs G) (k : Alt S w w') (hb : ¬ S b) (hG : ∀ g, G = some g → ¬ S g) : MkO w' lo b x y Ao no co gs G := by
 obtain ⟨h1, h2, hf, Ag, cg, hx, ho, he⟩ := h
 exact ⟨Nat.lt_of_lt_of_le h1 k.size, h2, (show Fz w b from hf).alt k h1 hb, Ag, cg, hx.alt k hb, (ho.alt k fun g hg => hG g (he ▸ hg)).now, he⟩
theorem Zez {S : Nat → Prop} {w w' : World} {lo m d : Nat} {P : Option Addr} {xs : List Int} (k : Alt S w w') (h : Own w lo w.heap.size (.slice P m d) m xs) (hS : ∀ q o, P = some ⟨q, o, none⟩ → ¬ S q) : Own w' lo w'.heap.size (.slice P m d) m xs := by
 refine (h.alt k fun g hg => ?_).now
 rcases h.1.2 with ⟨h1, _⟩ | ⟨g', cap, cur, hv, _⟩
 ·simp only [Value.slice.injEq] at h1
  rw [h1.1] at hg; cases hg
 ·simp only [Value.slice.injEq, true_and] at hv
  obtain ⟨rfl, _⟩ := hv
  have : g' = g := by simpa [Value.ownBlock] using hg
  subst this
  exact hS _ _ rfl
section
variable {ow : Bool} {zs : List Value} {w w' : World} {lo b bc bn : Nat} {x y n0 n1 : Int} {s : Cs} {k : Nat} {G : Option Nat} {Oa : Option Addr} {oc : Nat} {Ea : Option Addr} {ec : Nat} {Wa : Option Addr} {wc : Nat}
theorem Cp.lt (h : Cp ow zs w lo b bc bn x y n0 n1 s k G Oa oc Ea ec Wa wc) : ∀ g, some g ∈ [some b, some bc, some bn, G, ob Oa, ob Ea, ob Wa] → lo ≤ g ∧ g < w.heap.size := by
 intro g hg
 simp only [List.mem_cons, List.not_mem_nil, or_false] at hg
 have hb := h.lb
 rcases hg with hg | hg | hg | hg | hg | hg | hg
 ·injection hg with hg; subst hg; exact ⟨hb.1, h.mq.1⟩
 ·injection hg with hg; subst hg; exact ⟨hb.2.1, hb.2.2.2⟩
 ·injection hg with hg; subst hg; exact ⟨hb.2.2.1, h.tw.lt⟩
 ·exact h.mq.lt g hg.symm
 ·have := h.ou.lt g (by rw [ob_eq]; exact hg.symm); exact ⟨this.1, this.2.2⟩
 ·have := h.en.lt g (by rw [ob_eq]; exact hg.symm); exact ⟨this.1, this.2.2⟩
 ·obtain ⟨vals, h1, _⟩ := h.wi
  have := h1.lt g (by rw [ob_eq]; exact hg.symm); exact ⟨this.1, this.2⟩
theorem Wi.alt {S : Nat → Prop} {bl bl' : List (Option Nat)} {A : Option Addr} {c n : Nat} {xss : List (List Int)} (h : Wi w lo ow bl A c n xss) (k : Alt S w w') (hA : ∀ g, ob A = some g → ¬ S g) (hS : ∀ q, some q ∉ bl → q < w.heap.size → ¬ S q) (hb : ∀ q, some q ∉ bl → q < w.heap.size → some q ∉ bl') : Wi w' lo ow bl' A c n xss := by
 obtain ⟨vals, h1, h2, h3⟩ := h
 refine ⟨vals, Zav h1 k (fun g hg => hA g (by rw [← hg, ob_eq])), h2, fun j hj => ?_⟩
 obtain ⟨P, d, h4, h5, h6, h7, h8⟩ := h3 j hj
 exact ⟨P, d, h4, h5.alt k (fun _ q o hP => hS q (h6 q o hP).1 (h6 q o hP).2), fun q o hP => ⟨hb q (h6 q o hP).1 (h6 q o hP).2, Nat.lt_of_lt_of_le (h6 q o hP).2 k.size⟩, fun ho => Zez k (h7 ho) (fun q o hP => hS q (h6 q o hP).1 (h6 q o hP).2), h8⟩
theorem Cp.below {B : Nat} (h : Cp ow zs w lo b bc bn x y n0 n1 s k G Oa oc Ea ec Wa wc) (hk : Below B w w') (hB : w.heap.size ≤ B) : Cp ow zs w' lo b bc bn x y n0 n1 s k G Oa oc Ea ec Wa wc := by
 have ka : Alt (fun i => B ≤ i) w w' := Alt.of_below hk fun _ _ h => h
 have hl := h.lt
 refine ⟨h.mq.below_ hk hB, (h.ou.below hk (.inl hB)).now, (h.en.below hk (.inl hB)).now, h.wi.alt ka ?_ ?_ ?_, h.cs.alt ka ?_, h.fz.alt ka h.lb.2.2.2 ?_, h.tw.alt ka ?_, h.dj, h.lb.1, h.lb.2.1, h.lb.2.2.1, Nat.lt_of_lt_of_le h.lb.2.2.2 hk.size⟩
 ·intro g hg hc; have := hl g (by rw [← hg]; simp); omega
 ·intro q _ hq hc; omega
 ·intro q hq _; exact hq
 ·intro hc; have := h.lb.2.2.2; omega
 ·intro hc; have := h.lb.2.2.2; omega
 ·intro hc; have := h.tw.lt; omega
theorem Cp.alloc (h : Cp ow zs w lo b bc bn x y n0 n1 s k G Oa oc Ea ec Wa wc) (o : Obj) : Cp ow zs (w.alloc o) lo b bc bn x y n0 n1 s k G Oa oc Ea ec Wa wc := h.below ((Below.refl _ _).alloc lR o) lR
theorem Cp.mv {g' : List G3} {G' : Option Nat} (h : Cp ow zs w lo b bc bn x y n0 n1 s k G Oa oc Ea ec Wa wc) (hm : MkQ ⟨Oa, s.os.length, oc⟩ w' lo b x y g' G') (hv : Mv b G G' w w') : Cp ow zs w' lo b bc bn x y n0 n1 ⟨g', s.os, s.ws, s.es⟩ k G' Oa oc Ea ec Wa wc := by
 have ka : Alt (fun i => i = b ∨ G = some i) w w' := ⟨hv.os, hv.tape, hv.output, hv.size, fun i hi hn => hv.block i hi (fun hc => hn (.inl hc)) (fun hc => hn (.inr hc))⟩
 have hl := h.lt
 have ho : G' = G ∨ G' = none ∨ ∃ n, G' = some n ∧ w.heap.size ≤ n := by
  rcases hv.own with h1 | h1
  ·exact .inl h1
  ·exact .inr (.inr h1)
 have off : ∀ p g, p ≠ 0 → p ≠ 3 → ([some b, some bc, some bn, G, ob Oa, ob Ea, ob Wa])[p]? = some (some g) → ¬ (g = b ∨ G = some g) := fun p g h0 h3 hp hc => by
  rcases hc with rfl | hc
  ·exact h.dj p 0 g h0 hp rfl
  ·exact h.dj p 3 g h3 hp (by rw [← hc]; rfl)
 refine ⟨hm, (h.ou.alt ka fun g hg => off 4 g (by decide) (by decide) ?_).now, (h.en.alt ka fun g hg => off 5 g (by decide) (by decide) ?_).now, h.wi.alt ka (fun g hg => off 6 g (by decide) (by decide) ?_) ?_ ?_, h.cs.alt ka (off 1 bc (by decide) (by decide) rfl), h.fz.alt ka h.lb.2.2.2 (off 1 bc (by decide) (by decide) rfl), h.tw.alt ka (off 2 bn (by decide) (by decide) rfl), ?_, h.lb.1, h.lb.2.1, h.lb.2.2.1, Nat.lt_of_lt_of_le h.lb.2.2.2 ka.size⟩
 ·rw [← hg, ob_eq]; rfl
 ·rw [← hg, ob_eq]; rfl
 ·rw [← hg]; rfl
 ·intro q hq _ hc
  rcases hc with rfl | hc
  ·exact hq (by simp)
  ·exact hq (by simp [hc])
 ·intro q hq hlt
  exact notin_upd (i := 3) (a := G) hq rfl hlt ho
 ·exact Dj.upd (i := 3) (a := G) h.dj rfl (fun g hg => (hl g hg).2) ho
theorem Cp.next {p : Nat} {v m0 m1 : Int} (h : Cp ow zs w lo b bc bn x y n0 n1 s k G Oa oc Ea ec Wa wc) (hp : p = 0 ∧ m0 = v ∧ m1 = n1 ∨ p = 1 ∧ m0 = n0 ∧ m1 = v) : Cp ow zs (w.setCell ⟨bn, p, none⟩ (.int .i64 v)) lo b bc bn x y m0 m1 s k G Oa oc Ea ec Wa wc := by
 have ka : Alt (fun i => i = bn) w (w.setCell ⟨bn, p, none⟩ (.int .i64 v)) := (Alt.refl_ _ w).set_ _ _ (fun _ => rfl)
 have off : ∀ p g, p ≠ 2 → ([some b, some bc, some bn, G, ob Oa, ob Ea, ob Wa])[p]? = some (some g) → ¬ (g = bn) := fun p g h0 hp hc => by
  subst hc; exact h.dj p 2 g h0 hp rfl
 have ht := h.tw
 refine ⟨MkO.alt h.mq ka (off 0 b (by decide) rfl) (fun g hg => off 3 g (by decide) (by rw [hg]; rfl)), (h.ou.alt ka fun g hg => off 4 g (by decide) ?_).now, (h.en.alt ka fun g hg => off 5 g (by decide) ?_).now, h.wi.alt ka (fun g hg => off 6 g (by decide) ?_) ?_ (fun q hq _ => hq), h.cs.alt ka (off 1 bc (by decide) rfl), h.fz.alt ka h.lb.2.2.2 (off 1 bc (by decide) rfl), ?_, h.dj, h.lb.1, h.lb.2.1, h.lb.2.2.1, by simpa using h.lb.2.2.2⟩
 ·rw [← hg, ob_eq]; rfl
 ·rw [← hg, ob_eq]; rfl
 ·rw [← hg]; rfl
 ·intro q hq _ hc; subst hc; exact hq (by simp)
 ·rcases hp with ⟨rfl, rfl, rfl⟩ | ⟨rfl, rfl, rfl⟩
  ·exact ⟨World.cell?_setCell_same _ _ _ ht.c0, (World.cell?_setCell_other _ _ _ _ (by simp)).trans ht.c1, fun q => (World.frozen?_setCell _ _ _ _).trans (ht.fz q), by simpa using ht.lt⟩
  ·exact ⟨(World.cell?_setCell_other _ _ _ _ (by simp)).trans ht.c0, World.cell?_setCell_same _ _ _ ht.c1, fun q => (World.frozen?_setCell _ _ _ _).trans (ht.fz q), by simpa using ht.lt⟩
theorem Cp.outs {w1 : World} {O' : Option Addr} {n' c' : Nat} {os' : List Int} (h : Cp ow zs w lo b bc bn x y n0 n1 s k G Oa oc Ea ec Wa wc) (hown : Own w1 lo w1.heap.size (.slice O' n' c') n' os') (hg : w.grownBy w1 (Value.slice Oa s.os.length oc).ownBlock)
 (hat : (Value.slice O' n' c').ownBlock = (Value.slice Oa s.os.length oc).ownBlock ∨ (Value.slice O' n' c').ownBlock = some w.heap.size) :
 Cp ow zs (w1.setCell ⟨b, 3, none⟩ (.slice O' n' c')) lo b bc bn x y n0 n1 ⟨s.g, os', s.ws, s.es⟩ k G O' c' Ea ec Wa wc := by
 have hn := hown.len
 subst hn
 rw [ob_eq, ob_eq] at hat
 rw [ob_eq] at hg
 have k1 : Alt (fun i => ob Oa = some i) w w1 := Alt.of_grown hg fun _ h => h
 have hl := h.lt
 have ho : ob O' = ob Oa ∨ ob O' = none ∨ ∃ n, ob O' = some n ∧ w.heap.size ≤ n := by
  rcases hat with h1 | h1
  ·exact .inl h1
  ·exact .inr (.inr ⟨_, h1, Nat.le_refl _⟩)
 have ka : Alt (fun i => i = b ∨ ob Oa = some i) w (w1.setCell ⟨b, 3, none⟩ (.slice O' os'.length c')) := (k1.mono_ fun _ _ h => .inr h).set_ _ _ (fun _ => .inl rfl)
 have off : ∀ p g, p ≠ 0 → p ≠ 4 → ([some b, some bc, some bn, G, ob Oa, ob Ea, ob Wa])[p]? = some (some g) → ¬ (g = b ∨ ob Oa = some g) := fun p g h0 h3 hp hc => by
  rcases hc with rfl | hc
  ·exact h.dj p 0 g h0 hp rfl
  ·exact h.dj p 4 g h3 hp (by rw [← hc]; rfl)
 have hm1 : MkO w1 lo b x y Oa s.os.length oc s.g G := MkO.alt h.mq k1 (fun hc => h.dj 4 0 b (by decide) (by rw [← hc]; rfl) rfl) (fun g hG hc => h.dj 4 3 g (by decide) (by rw [← hc]; rfl) (by rw [← hG]; rfl))
 have hOb : ∀ g, ob O' = some g → g ≠ b := fun g hg hc => by
  rcases hat with h1 | h1
  ·exact h.dj 4 0 b (by decide) (by rw [← hc, ← hg, h1]; rfl) rfl
  ·rw [h1] at hg; injection hg with hg; have := h.mq.1; omega
 refine ⟨hm1.outs O' os'.length c', ?_, (h.en.alt ka fun g hg => off 5 g (by decide) (by decide) ?_).now, h.wi.alt ka (fun g hg => off 6 g (by decide) (by decide) ?_) ?_ ?_, h.cs.alt ka (off 1 bc (by decide) (by decide) rfl), h.fz.alt ka h.lb.2.2.2 (off 1 bc (by decide) (by decide) rfl), h.tw.alt ka (off 2 bn (by decide) (by decide) rfl), ?_, h.lb.1, h.lb.2.1, h.lb.2.2.1, Nat.lt_of_lt_of_le h.lb.2.2.2 ka.size⟩
 ·exact (hown.alt ((Alt.refl_ (fun i => i = b) w1).set_ ⟨b, 3, none⟩ _ (fun _ => rfl)) (fun g hg => hOb g (by rw [← hg, ob_eq]))).now
 ·rw [← hg, ob_eq]; rfl
 ·rw [← hg]; rfl
 ·intro q hq _ hc
  rcases hc with rfl | hc
  ·exact hq (by simp)
  ·exact hq (by simp [hc])
 ·intro q hq hlt
  exact notin_upd (i := 4) (a := ob Oa) hq rfl hlt ho
 ·exact Dj.upd (i := 4) (a := ob Oa) h.dj rfl (fun g hg => (hl g hg).2) ho
theorem Cp.done {Ea' Wa' R : Option Addr} {ec' wc' rc : Nat} {e : Int} {os : List Int} {vals : List Value} (h : Cp ow zs w lo b bc bn x y n0 n1 s k G Oa oc Ea ec Wa wc)
 (hv : w.ownsRow lo 24 1 (.slice Wa k wc) k vals) (hl0 : ∀ j, j < k → ∃ P d, vals[j]? = some (.slice P (gl s.ws j).length d) ∧ RI w P (gl s.ws j).length (gl s.ws j) ∧ (∀ q o, P = some ⟨q, o, none⟩ → some q ∉ [some b, some bc, some bn, G, ob Oa, ob Ea, ob Wa] ∧ q < w.heap.size) ∧ (ow = true → Own w lo w.heap.size (.slice P (gl s.ws j).length d) (gl s.ws j).length (gl s.ws j)) ∧ ∀ q o, P = some ⟨q, o, none⟩ → lo ≤ q)
 (ka : Alt (fun i => i = bc ∨ ob Ea = some i ∨ ob Wa = some i) w w') (hen : Own w' lo w'.heap.size (.slice Ea' (k + 1) ec') (k + 1) (s.es ++ [e])) (hwi : w'.ownsRow lo 24 1 (.slice Wa' (k + 1) wc') (k + 1) (vals ++ [.slice R os.length rc]))
 (hcs : CellsAt w' bc 0 (zs ++ [.slice Wa' (k + 1) wc', .slice Ea' (k + 1) ec'])) (hfz : Fz w' bc)
 (hE : ∀ g, ob Ea' = some g → ob Wa = some g ∨ ob Ea = some g ∨ w.heap.size ≤ g) (hW : ∀ g, ob Wa' = some g → ob Wa = some g ∨ ob Ea = some g ∨ w.heap.size ≤ g) (hEW : ∀ g, ob Ea' = some g → ob Wa' ≠ some g)
 (hr : RI w R os.length os) (hrb : ∀ q o, R = some ⟨q, o, none⟩ → some q ∉ [some b, some bc, some bn, G, ob Oa, ob Ea, ob Wa] ∧ q < w.heap.size) (hro : ow = true → Own w lo w.heap.size (.slice R os.length rc) os.length os) (hrl : ∀ q o, R = some ⟨q, o, none⟩ → lo ≤ q) :
 Cp ow zs w' lo b bc bn x y n0 n1 ⟨s.g, s.os, s.ws ++ [os], s.es ++ [e]⟩ (k + 1) G Oa oc Ea' ec' Wa' wc' := by
 have hl := h.lt
 have off : ∀ p g, p ≠ 1 → p ≠ 5 → p ≠ 6 → ([some b, some bc, some bn, G, ob Oa, ob Ea, ob Wa])[p]? = some (some g) → ¬ (g = bc ∨ ob Ea = some g ∨ ob Wa = some g) := fun p g h0 h3 h4 hp hc => by
  rcases hc with rfl | hc | hc
  ·exact h.dj p 1 g h0 hp rfl
  ·exact h.dj p 5 g h3 hp (by rw [← hc]; rfl)
  ·exact h.dj p 6 g h4 hp (by rw [← hc]; rfl)
 have hS : ∀ q, some q ∉ [some b, some bc, some bn, G, ob Oa, ob Ea, ob Wa] → ¬ (q = bc ∨ ob Ea = some q ∨ ob Wa = some q) := fun q hq hc => by
  rcases hc with rfl | hc | hc
  ·exact hq (by simp)
  ·exact hq (by simp [hc])
  ·exact hq (by simp [hc])
 have hnew : ∀ q, some q ∉ [some b, some bc, some bn, G, ob Oa, ob Ea, ob Wa] → q < w.heap.size → some q ∉ [some b, some bc, some bn, G, ob Oa, ob Ea', ob Wa'] := fun q hq hlt hc => by
  have hcase : ∀ A : Option Addr, (∀ g, ob A = some g → ob Wa = some g ∨ ob Ea = some g ∨ w.heap.size ≤ g) → some q = ob A → False := fun A hA he => by
   rcases hA q he.symm with h1 | h1 | h1
   ·exact hq (by simp [h1])
   ·exact hq (by simp [h1])
   ·omega
  simp only [List.mem_cons, List.not_mem_nil, or_false] at hc
  rcases hc with hc | hc | hc | hc | hc | hc | hc
  ·exact hq (by simp [hc])
  ·exact hq (by simp [hc])
  ·exact hq (by simp [hc])
  ·exact hq (by simp [hc])
  ·exact hq (by simp [hc])
  ·exact hcase _ hE hc
  ·exact hcase _ hW hc
 have hwl : s.ws.length = k := by obtain ⟨_, _, h2, _⟩ := h.wi; exact h2
 have hvl : vals.length = k := by simpa using hv.1
 refine ⟨MkO.alt h.mq ka (off 0 b (by decide) (by decide) (by decide) rfl) (fun g hg => off 3 g (by decide) (by decide) (by decide) (by rw [hg]; rfl)), (h.ou.alt ka fun g hg => off 4 g (by decide) (by decide) (by decide) ?_).now, hen, ⟨_, hwi, by simp [hwl], fun j hj => ?_⟩, hcs, hfz, h.tw.alt ka (off 2 bn (by decide) (by decide) (by decide) rfl), ?_, h.lb.1, h.lb.2.1, h.lb.2.2.1, Nat.lt_of_lt_of_le h.lb.2.2.2 ka.size⟩
 ·rw [← hg, ob_eq]; rfl
 ·by_cases hjk : j < k
  ·obtain ⟨P, d, h4, h5, h6, h7, h8⟩ := hl0 j hjk
   dsimp only
   rw [Zeq (by omega)]
   exact ⟨P, d, by rw [List.getElem?_append_left (by omega)]; exact h4, h5.alt ka (fun _ q o hP => hS q (h6 q o hP).1), fun q o hP => ⟨hnew q (h6 q o hP).1 (h6 q o hP).2, Nat.lt_of_lt_of_le (h6 q o hP).2 ka.size⟩, fun ho => Zez ka (h7 ho) (fun q o hP => hS q (h6 q o hP).1), h8⟩
  ·obtain rfl : j = k := by omega
   dsimp only
   rw [Zdu hwl]
   exact ⟨R, rc, by rw [List.getElem?_append_right (by omega), hvl, Nat.sub_self]; rfl, hr.alt ka (fun _ q o hP => hS q (hrb q o hP).1), fun q o hP => ⟨hnew q (hrb q o hP).1 (hrb q o hP).2, Nat.lt_of_lt_of_le (hrb q o hP).2 ka.size⟩, fun ho => Zez ka (hro ho) (fun q o hP => hS q (hrb q o hP).1), hrl⟩
 ·intro p q g hpq hp hq
  have e : ∀ r, r < 5 → ([some b, some bc, some bn, G, ob Oa, ob Ea', ob Wa'] : List (Option Nat))[r]? = ([some b, some bc, some bn, G, ob Oa, ob Ea, ob Wa] : List (Option Nat))[r]? := fun r hr => by
   rcases (show r = 0 ∨ r = 1 ∨ r = 2 ∨ r = 3 ∨ r = 4 by omega) with rfl | rfl | rfl | rfl | rfl <;> rfl
  have len : ∀ r g, ([some b, some bc, some bn, G, ob Oa, ob Ea', ob Wa'] : List (Option Nat))[r]? = some (some g) → r < 5 ∨ (r = 5 ∧ ob Ea' = some g) ∨ (r = 6 ∧ ob Wa' = some g) := fun r g hr => by
   rcases Nat.lt_or_ge r 5 with h | h
   ·exact .inl h
   ·rcases Nat.lt_or_ge r 7 with h7 | h7
    ·rcases (show r = 5 ∨ r = 6 by omega) with rfl | rfl
     ·exact .inr (.inl ⟨rfl, Option.some.inj hr⟩)
     ·exact .inr (.inr ⟨rfl, Option.some.inj hr⟩)
    ·rw [List.getElem?_eq_none (by simpa using h7)] at hr; cases hr
  have one : ∀ p g, p < 5 → ([some b, some bc, some bn, G, ob Oa, ob Ea', ob Wa'] : List (Option Nat))[p]? = some (some g) → (ob Wa = some g ∨ ob Ea = some g ∨ w.heap.size ≤ g) → False := fun p g h5 hp hx => by
   rw [e p h5] at hp
   rcases hx with h1 | h1 | h1
   ·exact h.dj p 6 g (by omega) hp (by rw [← h1]; rfl)
   ·exact h.dj p 5 g (by omega) hp (by rw [← h1]; rfl)
   ·have := hl g (List.mem_of_getElem? hp); omega
  rcases len p g hp with h5 | ⟨rfl, h5⟩ | ⟨rfl, h5⟩
  ·rcases len q g hq with h6 | ⟨rfl, h6⟩ | ⟨rfl, h6⟩
   ·rw [e p h5] at hp
    rw [e q h6] at hq
    exact h.dj p q g hpq hp hq
   ·exact one p g h5 hp (hE g h6)
   ·exact one p g h5 hp (hW g h6)
  ·rcases len q g hq with h6 | ⟨rfl, h6⟩ | ⟨rfl, h6⟩
   ·exact one q g h6 hq (hE g h5)
   ·exact hpq rfl
   ·exact hEW g h5 h6
  ·rcases len q g hq with h6 | ⟨rfl, h6⟩ | ⟨rfl, h6⟩
   ·exact one q g h6 hq (hW g h5)
   ·exact hEW g h6 h5
   ·exact hpq rfl
end
end Go.Proofs.YtenknpcbbcbciaaGreat
