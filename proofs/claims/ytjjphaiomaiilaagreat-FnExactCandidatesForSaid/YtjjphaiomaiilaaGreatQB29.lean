/- What compiling holds in memory: a maker, its outs, the wires and the ends of lines, apart from each other. No condition. Steps of compiling: an append of a list of wires in a region, rows of values in a drawn region. No condition. The widths of inputs and of results. Thirty lines at most, texts below 2^21 bytes. Contracts: a circuit that is valid or not; gates moved by a closure. BesideCircuit: what it returns, in plain words; the program's own. Lengths below 2^21. -/
import Derived.Test.YtjjphaiomaiilaaGreatQB19
import Derived.Test.YtjjphaiomaiilaaGreatQB28
import Derived.Deep.RegionLaw
import Derived.Test.YtjjphaiomaiilaaGreatQB06
import Derived.Test.YtjjphaiomaiilaaGreatQB12
namespace Go.Proofs.YtjjphaiomaiilaaGreat
open Go.RowKit
set_option linter.unusedVariables false
set_option linter.unusedSimpArgs false
def ob (A : Option Addr) : Option Nat := A.map fun a => a.block
theorem ob_eq (A : Option Addr) (n c : Nat) : (Value.slice A n c).ownBlock = ob A := by cases A <;> rfl
def Dj (l : List (Option Nat)) : Prop := ∀ i j g : Nat, i ≠ j → l[i]? = some (some g) → l[j]? ≠ some (some g)
theorem Dj.upd {l : List (Option Nat)} {i : Nat} {a a' : Option Nat} {S : Nat} (h : Dj l) (hi : l[i]? = some a) (hlt : ∀ g, some g ∈ l → g < S) (ha : a' = a ∨ a' = none ∨ ∃ n, a' = some n ∧ S ≤ n) : Dj (l.set i a') := by
  intro p q g hpq h1 h2
  rw [List.getElem?_set] at h1 h2
  have hil : i < l.length := by
    rcases Nat.lt_or_ge i l.length with h | h
    · exact h
    · rw [List.getElem?_eq_none h] at hi; cases hi
  by_cases hp : i = p
  · subst hp
    rw [if_pos rfl, if_pos hil] at h1
    rw [if_neg hpq] at h2
    have h3 := hlt g (List.mem_of_getElem? h2)
    rcases ha with rfl | rfl | ⟨n, rfl, hn⟩
    · exact h i q g hpq (hi.trans h1) h2
    · cases h1
    · simp only [Option.some.injEq] at h1; omega
  · rw [if_neg hp] at h1
    have h3 := hlt g (List.mem_of_getElem? h1)
    by_cases hq : i = q
    · subst hq
      rw [if_pos rfl, if_pos hil] at h2
      rcases ha with rfl | rfl | ⟨n, rfl, hn⟩
      · exact h p i g hpq h1 (hi.trans h2)
      · cases h2
      · simp only [Option.some.injEq] at h2; omega
    · rw [if_neg hq] at h2; exact h p q g hpq h1 h2
theorem notin_upd {l : List (Option Nat)} {i q : Nat} {a a' : Option Nat} {S : Nat} (h : some q ∉ l) (hi : l[i]? = some a) (hq : q < S) (ha : a' = a ∨ a' = none ∨ ∃ n, a' = some n ∧ S ≤ n) : some q ∉ l.set i a' := by
  intro hc
  rcases List.mem_or_eq_of_mem_set hc with h1 | h1
  · exact h h1
  · rcases ha with rfl | rfl | ⟨n, rfl, hn⟩
    · exact h (h1 ▸ List.mem_of_getElem? hi)
    · cases h1
    · simp only [Option.some.injEq] at h1; omega
def Wi (w : World) (lo : Nat) (ow : Bool) (bl : List (Option Nat)) (A : Option Addr) (c n : Nat) (xss : List (List Int)) : Prop :=
  ∃ vals : List Value, w.ownsRow lo 30 1 (.slice A n c) n vals ∧ xss.length = n ∧ ∀ j, j < n → ∃ P d, vals[j]? = some (.slice P (gl xss j).length d) ∧ RI w P (gl xss j).length (gl xss j) ∧ (∀ q o, P = some ⟨q, o, none⟩ → some q ∉ bl ∧ q < w.heap.size) ∧ (ow = true → Own w lo w.heap.size (.slice P (gl xss j).length d) (gl xss j).length (gl xss j)) ∧ ∀ q o, P = some ⟨q, o, none⟩ → lo ≤ q
structure Cp (ow : Bool) (zs : List Value) (w : World) (lo b bc bn : Nat) (x y n0 n1 : Int) (s : Cs) (k : Nat) (G : Option Nat) (Oa : Option Addr) (oc : Nat) (Ea : Option Addr) (ec : Nat) (Wa : Option Addr) (wc : Nat) : Prop where
  mq : MkQ ⟨Oa, s.os.length, oc⟩ w lo b x y s.g G
  ou : Own w lo w.heap.size (.slice Oa s.os.length oc) s.os.length s.os
  en : Own w lo w.heap.size (.slice Ea k ec) k s.es
  wi : Wi w lo ow [some b, some bc, some bn, G, ob Oa, ob Ea, ob Wa] Wa wc k s.ws
  cs : CellsAt w bc 0 (zs ++ [.slice Wa k wc, .slice Ea k ec])
  fz : Fz w bc
  tw : Two w bn n0 n1
  dj : Dj [some b, some bc, some bn, G, ob Oa, ob Ea, ob Wa]
  lb : lo ≤ b ∧ lo ≤ bc ∧ lo ≤ bn ∧ bc < w.heap.size
theorem ownsRow_altV {w w' : World} {lo n s : Nat} {v : Value} {e : TypeId} {S : Nat → Prop} {vals : List Value} (h : w.ownsRow lo e s v n vals) (k : Alt S w w') (hs : ∀ g, v.ownBlock = some g → ¬ S g) : w'.ownsRow lo e s v n vals := by
  refine ⟨h.1, ?_⟩
  rcases h.2 with h1 | ⟨g, cap, cur, rfl, hlo, hg, r⟩
  · exact .inl h1
  · have hl := h.lt g (by simp [Value.ownBlock])
    exact .inr ⟨g, cap, cur, rfl, hlo, by rw [k.block g hl.2 (hs g (by simp [Value.ownBlock]))]; exact hg, r⟩
theorem MkO.alt {S : Nat → Prop} {w w' : World} {lo b : Nat} {x y : Int} {Ao : Option Addr} {no co : Nat} {gs : List G3} {G : Option Nat} (h : MkO w lo b x y Ao no co gs G) (k : Alt S w w') (hb : ¬ S b) (hG : ∀ g, G = some g → ¬ S g) : MkO w' lo b x y Ao no co gs G := by
  obtain ⟨h1, h2, hf, Ag, cg, hx, ho, he⟩ := h
  exact ⟨Nat.lt_of_lt_of_le h1 k.size, h2, (show Fz w b from hf).alt k h1 hb, Ag, cg, hx.alt k hb, (ho.alt k fun g hg => hG g (he ▸ hg)).now, he⟩
theorem own_list {S : Nat → Prop} {w w' : World} {lo m d : Nat} {P : Option Addr} {xs : List Int} (k : Alt S w w') (h : Own w lo w.heap.size (.slice P m d) m xs) (hS : ∀ q o, P = some ⟨q, o, none⟩ → ¬ S q) : Own w' lo w'.heap.size (.slice P m d) m xs := by
  refine (h.alt k fun g hg => ?_).now
  rcases h.1.2 with ⟨h1, _⟩ | ⟨g', cap, cur, hv, _⟩
  · simp only [Value.slice.injEq] at h1
    rw [h1.1] at hg; cases hg
  · simp only [Value.slice.injEq, true_and] at hv
    obtain ⟨rfl, _⟩ := hv
    have : g' = g := by simpa [Value.ownBlock] using hg
    subst this
    exact hS _ _ rfl
section
variable {ow : Bool} {zs : List Value} {w w' : World} {lo b bc bn : Nat} {x y n0 n1 : Int} {s : Cs} {k : Nat} {G : Option Nat} {Oa : Option Addr} {oc : Nat} {Ea : Option Addr} {ec : Nat} {Wa : Option Addr} {wc : Nat}
theorem Cp.lt (h : Cp ow zs w lo b bc bn x y n0 n1 s k G Oa oc Ea ec Wa wc) : ∀ g, some g ∈ [some b, some bc, some bn, G, ob Oa, ob Ea, ob Wa] → lo ≤ g ∧ g < w.heap.size := by
  intro g hg
  simp only [List.mem_cons, List.not_mem_nil, or_false] at hg
  have hb := h.lb
  rcases hg with hg | hg | hg | hg | hg | hg | hg
  · injection hg with hg; subst hg; exact ⟨hb.1, h.mq.1⟩
  · injection hg with hg; subst hg; exact ⟨hb.2.1, hb.2.2.2⟩
  · injection hg with hg; subst hg; exact ⟨hb.2.2.1, h.tw.lt⟩
  · exact h.mq.lt g hg.symm
  · have := h.ou.lt g (by rw [ob_eq]; exact hg.symm); exact ⟨this.1, this.2.2⟩
  · have := h.en.lt g (by rw [ob_eq]; exact hg.symm); exact ⟨this.1, this.2.2⟩
  · obtain ⟨vals, h1, _⟩ := h.wi
    have := h1.lt g (by rw [ob_eq]; exact hg.symm); exact ⟨this.1, this.2⟩
theorem Wi.alt {S : Nat → Prop} {bl bl' : List (Option Nat)} {A : Option Addr} {c n : Nat} {xss : List (List Int)} (h : Wi w lo ow bl A c n xss) (k : Alt S w w') (hA : ∀ g, ob A = some g → ¬ S g) (hS : ∀ q, some q ∉ bl → q < w.heap.size → ¬ S q) (hb : ∀ q, some q ∉ bl → q < w.heap.size → some q ∉ bl') : Wi w' lo ow bl' A c n xss := by
  obtain ⟨vals, h1, h2, h3⟩ := h
  refine ⟨vals, ownsRow_altV h1 k (fun g hg => hA g (by rw [← hg, ob_eq])), h2, fun j hj => ?_⟩
  obtain ⟨P, d, h4, h5, h6, h7, h8⟩ := h3 j hj
  exact ⟨P, d, h4, h5.alt k (fun _ q o hP => hS q (h6 q o hP).1 (h6 q o hP).2), fun q o hP => ⟨hb q (h6 q o hP).1 (h6 q o hP).2, Nat.lt_of_lt_of_le (h6 q o hP).2 k.size⟩, fun ho => own_list k (h7 ho) (fun q o hP => hS q (h6 q o hP).1 (h6 q o hP).2), h8⟩
theorem Cp.below {B : Nat} (h : Cp ow zs w lo b bc bn x y n0 n1 s k G Oa oc Ea ec Wa wc) (hk : Below B w w') (hB : w.heap.size ≤ B) : Cp ow zs w' lo b bc bn x y n0 n1 s k G Oa oc Ea ec Wa wc := by
  have ka : Alt (fun i => B ≤ i) w w' := Alt.of_below hk fun _ _ h => h
  have hl := h.lt
  refine ⟨h.mq.below_ hk hB, (h.ou.below hk (.inl hB)).now, (h.en.below hk (.inl hB)).now, h.wi.alt ka ?_ ?_ ?_, h.cs.alt ka ?_, h.fz.alt ka h.lb.2.2.2 ?_, h.tw.alt ka ?_, h.dj, h.lb.1, h.lb.2.1, h.lb.2.2.1, Nat.lt_of_lt_of_le h.lb.2.2.2 hk.size⟩
  · intro g hg hc; have := hl g (by rw [← hg]; simp); omega
  · intro q _ hq hc; omega
  · intro q hq _; exact hq
  · intro hc; have := h.lb.2.2.2; omega
  · intro hc; have := h.lb.2.2.2; omega
  · intro hc; have := h.tw.lt; omega
theorem Cp.alloc (h : Cp ow zs w lo b bc bn x y n0 n1 s k G Oa oc Ea ec Wa wc) (o : Obj) : Cp ow zs (w.alloc o) lo b bc bn x y n0 n1 s k G Oa oc Ea ec Wa wc := h.below ((Below.refl _ _).alloc (Nat.le_refl _) o) (Nat.le_refl _)
theorem Cp.mv {g' : List G3} {G' : Option Nat} (h : Cp ow zs w lo b bc bn x y n0 n1 s k G Oa oc Ea ec Wa wc) (hm : MkQ ⟨Oa, s.os.length, oc⟩ w' lo b x y g' G') (hv : Mv b G G' w w') : Cp ow zs w' lo b bc bn x y n0 n1 ⟨g', s.os, s.ws, s.es⟩ k G' Oa oc Ea ec Wa wc := by
  have ka : Alt (fun i => i = b ∨ G = some i) w w' := ⟨hv.os, hv.tape, hv.output, hv.size, fun i hi hn => hv.block i hi (fun hc => hn (.inl hc)) (fun hc => hn (.inr hc))⟩
  have hl := h.lt
  have ho : G' = G ∨ G' = none ∨ ∃ n, G' = some n ∧ w.heap.size ≤ n := by
    rcases hv.own with h1 | h1
    · exact .inl h1
    · exact .inr (.inr h1)
  have off : ∀ p g, p ≠ 0 → p ≠ 3 → ([some b, some bc, some bn, G, ob Oa, ob Ea, ob Wa])[p]? = some (some g) → ¬ (g = b ∨ G = some g) := fun p g h0 h3 hp hc => by
    rcases hc with rfl | hc
    · exact h.dj p 0 g h0 hp rfl
    · exact h.dj p 3 g h3 hp (by rw [← hc]; rfl)
  refine ⟨hm, (h.ou.alt ka fun g hg => off 4 g (by decide) (by decide) ?_).now, (h.en.alt ka fun g hg => off 5 g (by decide) (by decide) ?_).now, h.wi.alt ka (fun g hg => off 6 g (by decide) (by decide) ?_) ?_ ?_, h.cs.alt ka (off 1 bc (by decide) (by decide) rfl), h.fz.alt ka h.lb.2.2.2 (off 1 bc (by decide) (by decide) rfl), h.tw.alt ka (off 2 bn (by decide) (by decide) rfl), ?_, h.lb.1, h.lb.2.1, h.lb.2.2.1, Nat.lt_of_lt_of_le h.lb.2.2.2 ka.size⟩
  · rw [← hg, ob_eq]; rfl
  · rw [← hg, ob_eq]; rfl
  · rw [← hg]; rfl
  · intro q hq _ hc
    rcases hc with rfl | hc
    · exact hq (by simp)
    · exact hq (by simp [hc])
  · intro q hq hlt
    exact notin_upd (i := 3) (a := G) hq rfl hlt ho
  · exact Dj.upd (i := 3) (a := G) h.dj rfl (fun g hg => (hl g hg).2) ho
theorem Cp.next {p : Nat} {v m0 m1 : Int} (h : Cp ow zs w lo b bc bn x y n0 n1 s k G Oa oc Ea ec Wa wc) (hp : p = 0 ∧ m0 = v ∧ m1 = n1 ∨ p = 1 ∧ m0 = n0 ∧ m1 = v) : Cp ow zs (w.setCell ⟨bn, p, none⟩ (.int .i64 v)) lo b bc bn x y m0 m1 s k G Oa oc Ea ec Wa wc := by
  have ka : Alt (fun i => i = bn) w (w.setCell ⟨bn, p, none⟩ (.int .i64 v)) := (Alt.refl_ _ w).set_ _ _ (fun _ => rfl)
  have off : ∀ p g, p ≠ 2 → ([some b, some bc, some bn, G, ob Oa, ob Ea, ob Wa])[p]? = some (some g) → ¬ (g = bn) := fun p g h0 hp hc => by
    subst hc; exact h.dj p 2 g h0 hp rfl
  have ht := h.tw
  refine ⟨MkO.alt h.mq ka (off 0 b (by decide) rfl) (fun g hg => off 3 g (by decide) (by rw [hg]; rfl)), (h.ou.alt ka fun g hg => off 4 g (by decide) ?_).now, (h.en.alt ka fun g hg => off 5 g (by decide) ?_).now, h.wi.alt ka (fun g hg => off 6 g (by decide) ?_) ?_ (fun q hq _ => hq), h.cs.alt ka (off 1 bc (by decide) rfl), h.fz.alt ka h.lb.2.2.2 (off 1 bc (by decide) rfl), ?_, h.dj, h.lb.1, h.lb.2.1, h.lb.2.2.1, by simpa using h.lb.2.2.2⟩
  · rw [← hg, ob_eq]; rfl
  · rw [← hg, ob_eq]; rfl
  · rw [← hg]; rfl
  · intro q hq _ hc; subst hc; exact hq (by simp)
  · rcases hp with ⟨rfl, rfl, rfl⟩ | ⟨rfl, rfl, rfl⟩
    · exact ⟨World.cell?_setCell_same _ _ _ ht.c0, (World.cell?_setCell_other _ _ _ _ (by simp)).trans ht.c1, fun q => (World.frozen?_setCell _ _ _ _).trans (ht.fz q), by simpa using ht.lt⟩
    · exact ⟨(World.cell?_setCell_other _ _ _ _ (by simp)).trans ht.c0, World.cell?_setCell_same _ _ _ ht.c1, fun q => (World.frozen?_setCell _ _ _ _).trans (ht.fz q), by simpa using ht.lt⟩
theorem Cp.outs {w1 : World} {O' : Option Addr} {n' c' : Nat} {os' : List Int} (h : Cp ow zs w lo b bc bn x y n0 n1 s k G Oa oc Ea ec Wa wc) (hown : Own w1 lo w1.heap.size (.slice O' n' c') n' os') (hg : w.grownBy w1 (Value.slice Oa s.os.length oc).ownBlock)
    (hat : (Value.slice O' n' c').ownBlock = (Value.slice Oa s.os.length oc).ownBlock ∨ (Value.slice O' n' c').ownBlock = some w.heap.size) :
    Cp ow zs (w1.setCell ⟨b, 3, none⟩ (.slice O' n' c')) lo b bc bn x y n0 n1 ⟨s.g, os', s.ws, s.es⟩ k G O' c' Ea ec Wa wc := by
  have hn := hown.len
  subst hn
  rw [ob_eq, ob_eq] at hat
  rw [ob_eq] at hg
  have k1 : Alt (fun i => ob Oa = some i) w w1 := Alt.of_grown hg fun _ h => h
  have hl := h.lt
  have ho : ob O' = ob Oa ∨ ob O' = none ∨ ∃ n, ob O' = some n ∧ w.heap.size ≤ n := by
    rcases hat with h1 | h1
    · exact .inl h1
    · exact .inr (.inr ⟨_, h1, Nat.le_refl _⟩)
  have ka : Alt (fun i => i = b ∨ ob Oa = some i) w (w1.setCell ⟨b, 3, none⟩ (.slice O' os'.length c')) := (k1.mono_ fun _ _ h => .inr h).set_ _ _ (fun _ => .inl rfl)
  have off : ∀ p g, p ≠ 0 → p ≠ 4 → ([some b, some bc, some bn, G, ob Oa, ob Ea, ob Wa])[p]? = some (some g) → ¬ (g = b ∨ ob Oa = some g) := fun p g h0 h3 hp hc => by
    rcases hc with rfl | hc
    · exact h.dj p 0 g h0 hp rfl
    · exact h.dj p 4 g h3 hp (by rw [← hc]; rfl)
  have hm1 : MkO w1 lo b x y Oa s.os.length oc s.g G := MkO.alt h.mq k1 (fun hc => h.dj 4 0 b (by decide) (by rw [← hc]; rfl) rfl) (fun g hG hc => h.dj 4 3 g (by decide) (by rw [← hc]; rfl) (by rw [← hG]; rfl))
  have hOb : ∀ g, ob O' = some g → g ≠ b := fun g hg hc => by
    rcases hat with h1 | h1
    · exact h.dj 4 0 b (by decide) (by rw [← hc, ← hg, h1]; rfl) rfl
    · rw [h1] at hg; injection hg with hg; have := h.mq.1; omega
  refine ⟨hm1.outs O' os'.length c', ?_, (h.en.alt ka fun g hg => off 5 g (by decide) (by decide) ?_).now, h.wi.alt ka (fun g hg => off 6 g (by decide) (by decide) ?_) ?_ ?_, h.cs.alt ka (off 1 bc (by decide) (by decide) rfl), h.fz.alt ka h.lb.2.2.2 (off 1 bc (by decide) (by decide) rfl), h.tw.alt ka (off 2 bn (by decide) (by decide) rfl), ?_, h.lb.1, h.lb.2.1, h.lb.2.2.1, Nat.lt_of_lt_of_le h.lb.2.2.2 ka.size⟩
  · exact (hown.alt ((Alt.refl_ (fun i => i = b) w1).set_ ⟨b, 3, none⟩ _ (fun _ => rfl)) (fun g hg => hOb g (by rw [← hg, ob_eq]))).now
  · rw [← hg, ob_eq]; rfl
  · rw [← hg]; rfl
  · intro q hq _ hc
    rcases hc with rfl | hc
    · exact hq (by simp)
    · exact hq (by simp [hc])
  · intro q hq hlt
    exact notin_upd (i := 4) (a := ob Oa) hq rfl hlt ho
  · exact Dj.upd (i := 4) (a := ob Oa) h.dj rfl (fun g hg => (hl g hg).2) ho
theorem Cp.done {Ea' Wa' R : Option Addr} {ec' wc' rc : Nat} {e : Int} {os : List Int} {vals : List Value} (h : Cp ow zs w lo b bc bn x y n0 n1 s k G Oa oc Ea ec Wa wc)
    (hv : w.ownsRow lo 30 1 (.slice Wa k wc) k vals) (hl0 : ∀ j, j < k → ∃ P d, vals[j]? = some (.slice P (gl s.ws j).length d) ∧ RI w P (gl s.ws j).length (gl s.ws j) ∧ (∀ q o, P = some ⟨q, o, none⟩ → some q ∉ [some b, some bc, some bn, G, ob Oa, ob Ea, ob Wa] ∧ q < w.heap.size) ∧ (ow = true → Own w lo w.heap.size (.slice P (gl s.ws j).length d) (gl s.ws j).length (gl s.ws j)) ∧ ∀ q o, P = some ⟨q, o, none⟩ → lo ≤ q)
    (ka : Alt (fun i => i = bc ∨ ob Ea = some i ∨ ob Wa = some i) w w') (hen : Own w' lo w'.heap.size (.slice Ea' (k + 1) ec') (k + 1) (s.es ++ [e])) (hwi : w'.ownsRow lo 30 1 (.slice Wa' (k + 1) wc') (k + 1) (vals ++ [.slice R os.length rc]))
    (hcs : CellsAt w' bc 0 (zs ++ [.slice Wa' (k + 1) wc', .slice Ea' (k + 1) ec'])) (hfz : Fz w' bc)
    (hE : ∀ g, ob Ea' = some g → ob Wa = some g ∨ ob Ea = some g ∨ w.heap.size ≤ g) (hW : ∀ g, ob Wa' = some g → ob Wa = some g ∨ ob Ea = some g ∨ w.heap.size ≤ g) (hEW : ∀ g, ob Ea' = some g → ob Wa' ≠ some g)
    (hr : RI w R os.length os) (hrb : ∀ q o, R = some ⟨q, o, none⟩ → some q ∉ [some b, some bc, some bn, G, ob Oa, ob Ea, ob Wa] ∧ q < w.heap.size) (hro : ow = true → Own w lo w.heap.size (.slice R os.length rc) os.length os) (hrl : ∀ q o, R = some ⟨q, o, none⟩ → lo ≤ q) :
    Cp ow zs w' lo b bc bn x y n0 n1 ⟨s.g, s.os, s.ws ++ [os], s.es ++ [e]⟩ (k + 1) G Oa oc Ea' ec' Wa' wc' := by
  have hl := h.lt
  have off : ∀ p g, p ≠ 1 → p ≠ 5 → p ≠ 6 → ([some b, some bc, some bn, G, ob Oa, ob Ea, ob Wa])[p]? = some (some g) → ¬ (g = bc ∨ ob Ea = some g ∨ ob Wa = some g) := fun p g h0 h3 h4 hp hc => by
    rcases hc with rfl | hc | hc
    · exact h.dj p 1 g h0 hp rfl
    · exact h.dj p 5 g h3 hp (by rw [← hc]; rfl)
    · exact h.dj p 6 g h4 hp (by rw [← hc]; rfl)
  have hS : ∀ q, some q ∉ [some b, some bc, some bn, G, ob Oa, ob Ea, ob Wa] → ¬ (q = bc ∨ ob Ea = some q ∨ ob Wa = some q) := fun q hq hc => by
    rcases hc with rfl | hc | hc
    · exact hq (by simp)
    · exact hq (by simp [hc])
    · exact hq (by simp [hc])
  have hnew : ∀ q, some q ∉ [some b, some bc, some bn, G, ob Oa, ob Ea, ob Wa] → q < w.heap.size → some q ∉ [some b, some bc, some bn, G, ob Oa, ob Ea', ob Wa'] := fun q hq hlt hc => by
    have hcase : ∀ A : Option Addr, (∀ g, ob A = some g → ob Wa = some g ∨ ob Ea = some g ∨ w.heap.size ≤ g) → some q = ob A → False := fun A hA he => by
      rcases hA q he.symm with h1 | h1 | h1
      · exact hq (by simp [h1])
      · exact hq (by simp [h1])
      · omega
    simp only [List.mem_cons, List.not_mem_nil, or_false] at hc
    rcases hc with hc | hc | hc | hc | hc | hc | hc
    · exact hq (by simp [hc])
    · exact hq (by simp [hc])
    · exact hq (by simp [hc])
    · exact hq (by simp [hc])
    · exact hq (by simp [hc])
    · exact hcase _ hE hc
    · exact hcase _ hW hc
  have hwl : s.ws.length = k := by obtain ⟨_, _, h2, _⟩ := h.wi; exact h2
  have hvl : vals.length = k := by simpa using hv.1
  refine ⟨MkO.alt h.mq ka (off 0 b (by decide) (by decide) (by decide) rfl) (fun g hg => off 3 g (by decide) (by decide) (by decide) (by rw [hg]; rfl)), (h.ou.alt ka fun g hg => off 4 g (by decide) (by decide) (by decide) ?_).now, hen, ⟨_, hwi, by simp [hwl], fun j hj => ?_⟩, hcs, hfz, h.tw.alt ka (off 2 bn (by decide) (by decide) (by decide) rfl), ?_, h.lb.1, h.lb.2.1, h.lb.2.2.1, Nat.lt_of_lt_of_le h.lb.2.2.2 ka.size⟩
  · rw [← hg, ob_eq]; rfl
  · by_cases hjk : j < k
    · obtain ⟨P, d, h4, h5, h6, h7, h8⟩ := hl0 j hjk
      dsimp only
      rw [gl_snoc_lt (by omega)]
      exact ⟨P, d, by rw [List.getElem?_append_left (by omega)]; exact h4, h5.alt ka (fun _ q o hP => hS q (h6 q o hP).1), fun q o hP => ⟨hnew q (h6 q o hP).1 (h6 q o hP).2, Nat.lt_of_lt_of_le (h6 q o hP).2 ka.size⟩, fun ho => own_list ka (h7 ho) (fun q o hP => hS q (h6 q o hP).1), h8⟩
    · obtain rfl : j = k := by omega
      dsimp only
      rw [gl_snoc_eq hwl]
      exact ⟨R, rc, by rw [List.getElem?_append_right (by omega), hvl, Nat.sub_self]; rfl, hr.alt ka (fun _ q o hP => hS q (hrb q o hP).1), fun q o hP => ⟨hnew q (hrb q o hP).1 (hrb q o hP).2, Nat.lt_of_lt_of_le (hrb q o hP).2 ka.size⟩, fun ho => own_list ka (hro ho) (fun q o hP => hS q (hrb q o hP).1), hrl⟩
  · intro p q g hpq hp hq
    have e : ∀ r, r < 5 → ([some b, some bc, some bn, G, ob Oa, ob Ea', ob Wa'] : List (Option Nat))[r]? = ([some b, some bc, some bn, G, ob Oa, ob Ea, ob Wa] : List (Option Nat))[r]? := fun r hr => by
      rcases (show r = 0 ∨ r = 1 ∨ r = 2 ∨ r = 3 ∨ r = 4 by omega) with rfl | rfl | rfl | rfl | rfl <;> rfl
    have len : ∀ r g, ([some b, some bc, some bn, G, ob Oa, ob Ea', ob Wa'] : List (Option Nat))[r]? = some (some g) → r < 5 ∨ (r = 5 ∧ ob Ea' = some g) ∨ (r = 6 ∧ ob Wa' = some g) := fun r g hr => by
      rcases Nat.lt_or_ge r 5 with h | h
      · exact .inl h
      · rcases Nat.lt_or_ge r 7 with h7 | h7
        · rcases (show r = 5 ∨ r = 6 by omega) with rfl | rfl
          · exact .inr (.inl ⟨rfl, Option.some.inj hr⟩)
          · exact .inr (.inr ⟨rfl, Option.some.inj hr⟩)
        · rw [List.getElem?_eq_none (by simpa using h7)] at hr; cases hr
    have one : ∀ p g, p < 5 → ([some b, some bc, some bn, G, ob Oa, ob Ea', ob Wa'] : List (Option Nat))[p]? = some (some g) → (ob Wa = some g ∨ ob Ea = some g ∨ w.heap.size ≤ g) → False := fun p g h5 hp hx => by
      rw [e p h5] at hp
      rcases hx with h1 | h1 | h1
      · exact h.dj p 6 g (by omega) hp (by rw [← h1]; rfl)
      · exact h.dj p 5 g (by omega) hp (by rw [← h1]; rfl)
      · have := hl g (List.mem_of_getElem? hp); omega
    rcases len p g hp with h5 | ⟨rfl, h5⟩ | ⟨rfl, h5⟩
    · rcases len q g hq with h6 | ⟨rfl, h6⟩ | ⟨rfl, h6⟩
      · rw [e p h5] at hp
        rw [e q h6] at hq
        exact h.dj p q g hpq hp hq
      · exact one p g h5 hp (hE g h6)
      · exact one p g h5 hp (hW g h6)
    · rcases len q g hq with h6 | ⟨rfl, h6⟩ | ⟨rfl, h6⟩
      · exact one q g h6 hq (hE g h5)
      · exact hpq rfl
      · exact hEW g h5 h6
    · rcases len q g hq with h6 | ⟨rfl, h6⟩ | ⟨rfl, h6⟩
      · exact one q g h6 hq (hW g h5)
      · exact hEW g h6 h5
      · exact hpq rfl
end
theorem step_appN {w : World} {ops : Array Oper} {o : Oper} {a : Act} {K : Act → World → Prop} {Q : Exit → Act → World → Prop} {E : Prop} (hgd : o.guard = none) (s x : Operand)
    (ho : o.op = .call { callee := .builtin .append, args := #[s, x], argTypes := #[64, 64] })
    {lo n c0 m c b bq q : Nat} {G : Option Nat} {A0 A : Option Addr} {xss : List (List Int)} {ys : List Int} (hs : a.eval s = .slice A0 n c0) (hown : NL w b G lo (.slice A0 n c0) n xss) (hx : a.eval x = .slice (some ⟨bq, 0, none⟩) 1 q) (hnew : RM w b G A m ys) (hd : ∀ k o, A = some ⟨k, o, none⟩ → (Value.slice A0 n c0).ownBlock ≠ some k ∧ k < w.heap.size)
    (hc : w.cell? ⟨bq, 0, none⟩ = some (.slice A m c)) (hlen : n ≤ 4194304) (hlo : lo ≤ w.heap.size) (hb : b < w.heap.size) (hG : ∀ g, G = some g → g < w.heap.size)
    (h : ∀ A' c' w', NL w' b G lo (.slice A' (n + 1) c') (n + 1) (xss ++ [ys]) → w.grownBy w' (Value.slice A0 n c0).ownBlock → K (a.put o.dst (.slice A' (n + 1) c')) w') :
    if Region.wanted o (yielded ops a.tmps) = true then Oper.wp Tryz.prog o a w K Q else E := by
  have hw : Region.wanted o (yielded ops a.tmps) = true := by simp [Region.wanted, hgd]
  rw [if_pos hw]
  obtain ⟨A', c', w', hrun, h2, h3⟩ := run_appN w o.type lo n c0 m c b bq q G A0 A xss ys hown hnew hd hc hlen hlo hb hG
  unfold Oper.wp execOp
  simp only [ho, resolve, invoke, builtin, Sem.run_bind, Sem.run_pure, Result.andThen_ok, List.map_toArray, List.map_cons, List.map_nil, hs, hx, hrun]
  exact h A' c' w' h2 h3
theorem grown_cell {w w' : World} {r : Option Nat} {p : Addr} {v : Value} (hv : w.cell? p = some v) (hg : w.grownBy w' r) (hr : r ≠ some p.block) : w'.cell? p = some v :=
  (World.cell?_of_block (w := w) (hg.block p.block (World.block_lt_of_cell? w _ hv) (fun e => hr e.symm))).trans hv
def Res.rowV (lo n : Nat) (vals : List Value) : Res :=
  ⟨fun _ v => ∃ A c, v = .slice A n c, fun _ v w => w.ownsRow lo 30 1 v n vals, fun _ v b => v.ownBlock = some b, fun _ => ⟨.slice none n 0, none, 0, rfl⟩, fun _ v w w' S h k hb => ownsRow_altV h k fun g hg => (hb g hg).1⟩
section
variable {P : Program} {W : World} {own : Nat → Prop} {cs : List (Addr × Value)} {sk : List (Nat × List Nat × List Nat)} {ini fi : List Nat} {rs : List (Nat × Res)} {ops : Array Oper} {L : Act → (Nat → Value) → Prop} {k : Nat} {o : Oper} {rest : List Oper} {a : Act} {ρ : Nat → Value}
theorem mem_rowV1 (lo : Nat) (v0 : Value) (hr : resAt rs k = Res.rowV lo 1 [v0]) (he : effB sk k = true) (hlo : lo ≤ W.heap.size)
    (hx : ∀ w, Alt (okB W own) W w → CellsL w cs → sepAt P o a (fun v w' => v = .slice (some ⟨w.heap.size, 0, none⟩) 1 1 ∧ w' = w.alloc (.cells #[v0] 30)) w)
    (h : ∀ A c, wpSep (mkSep W own cs sk ini fi rs) P ops L (k + 1) rest (a.put o.dst (.slice A 1 c)) (upd ρ k (.slice A 1 c))) (hw : Region.wanted o (yielded ops a.tmps) = true := by first | exact wanted_none rfl | exact wanted_some rfl rfl rfl rfl) : wpSep (mkSep W own cs sk ini fi rs) P ops L k (o :: rest) a ρ :=
  mem_eff (hw := hw) _ hr he (fun w hw hc hp => sepAt_mono (hx w hw hc) fun v w' ⟨h1, h2⟩ => by
    subst h1; subst h2
    have h3 := World.ownsRow_lit (base := lo) (e := 30) (size := 1) w #[v0] 1 (Nat.le_trans hlo hw.size) (by unfold maxLen; omega) (by simp)
    refine ⟨⟨_, _, rfl⟩, h3, Alt.of_new ((Below.refl _ _).alloc (Nat.le_refl _) _), fun b hb => ?_⟩
    have hb' : w.heap.size = b := by
      have : (Value.slice (some ⟨w.heap.size, 0, none⟩) 1 1).ownBlock = some b := hb
      simpa [Value.ownBlock] using this
    exact ⟨by simp; omega, .inl (by omega)⟩) fun v hv => by
    obtain ⟨A, c, rfl⟩ := hv
    exact h A c
theorem mem_appV {ops : Array Oper} {L : Act → (Nat → Value) → Prop} (d d2 lo n : Nat) (vals : List Value) (v0 : Value) (A0 : Option Addr) (c0 : Nat) (A : Option Addr) (c : Nat) (s x : Operand) (hr : resAt rs k = Res.rowV lo (n + 1) (vals ++ [v0])) (he : effB sk k = true) (hlo : lo ≤ W.heap.size) (hrd : resAt rs d = Res.rowV lo n vals) (hd : consL sk k = [d]) (hdd : d ∈ depsL sk k) (hρ : ρ d = .slice A0 n c0)
    (hrd2 : resAt rs d2 = Res.rowV lo 1 [v0]) (hdd2 : d2 ∈ depsL sk k) (hρ2 : ρ d2 = .slice A 1 c) (h1c : v0.oneCell' = true)
    (ho : o.op = .call { callee := .builtin .append, args := #[s, x], argTypes := #[64, 64] }) (hs : a.eval s = .slice A0 n c0) (hx : a.eval x = .slice A 1 c) (hlen : n ≤ 4194304)
    (h : ∀ A' c', wpSep (mkSep W own cs sk ini fi rs) Tryz.prog ops L (k + 1) rest (a.put o.dst (.slice A' (n + 1) c')) (upd ρ k (.slice A' (n + 1) c'))) (hw : Region.wanted o (yielded ops a.tmps) = true := by first | exact wanted_none rfl | exact wanted_some rfl rfl rfl rfl) : wpSep (mkSep W own cs sk ini fi rs) Tryz.prog ops L k (o :: rest) a ρ :=
  mem_eff (hw := hw) _ hr he (fun w hw hc hp => by
    have h1 : w.ownsRow lo 30 1 (.slice A0 n c0) n vals := (has_dep hdd hp hρ hrd).1
    have h6 : w.ownsRow lo 30 1 (.slice A 1 c) 1 [v0] := (has_dep hdd2 hp hρ2 hrd2).1
    have hh : (mkSep W own cs sk ini fi rs).hit k ρ = fun b => (Value.slice A0 n c0).ownBlock = some b := hit_one hd hρ hrd
    rw [hh]
    obtain ⟨g, cap, hv, hgl, hgs⟩ := h6.form (by omega)
    simp only [Value.slice.injEq, true_and] at hv
    obtain ⟨rfl, rfl⟩ := hv
    obtain ⟨i, hi0, hz0, hz1, hz2⟩ := info_parts info_ints
    have hrv : RV w (some ⟨g, 0, none⟩) 1 1 [v0] := by
      refine ⟨rfl, fun _ => ⟨_, rfl, fun j u hu => ?_⟩⟩
      cases j with
      | zero =>
        simp at hu; subst hu; rw [addr_add]
        exact h6.cellAt 0 (by omega)
      | succ j => simp at hu
    obtain ⟨A', c', w', hrun, h2, h3, h4, h5⟩ := run_appV (P := Tryz.prog) w 64 o.type 30 i (.slice none 0 0) 1 24 Tryz.underlying64 hi0 hz0 hz1 hz2 rfl (by decide) lo n c0 1 c A0 (some ⟨g, 0, none⟩) _ _ h1 hrv (by intro u hu; simp at hu; subst hu; exact h1c) (by unfold maxLen; omega) (by omega) (Nat.le_trans hlo hw.size)
    unfold sepAt execOp
    simp only [ho, resolve, invoke, builtin, Sem.run_bind, Sem.run_pure, Result.andThen_ok, List.map_toArray, List.map_cons, List.map_nil, hs, hx, hrun]
    exact ⟨⟨A', c', rfl⟩, h2, Alt.of_grown h3 (fun i hi => hi), fun b hb => ⟨(h2.lt b hb).2, by
      rcases h4 with h4 | h4
      · exact .inr (h4 ▸ hb)
      · have hb' : (Value.slice A' (n + 1) c').ownBlock = some b := hb
        rw [h4] at hb'; injection hb' with hb'
        exact .inl (by omega)⟩⟩) fun v hv => by
    obtain ⟨A', c', rfl⟩ := hv
    exact h A' c'
end
section
variable {ow : Bool} {zs : List Value} {w w' : World} {lo b bc bn : Nat} {x y n0 n1 : Int} {s : Cs} {k : Nat} {G : Option Nat} {Oa : Option Addr} {oc : Nat} {Ea : Option Addr} {ec : Nat} {Wa : Option Addr} {wc : Nat}
theorem Cp.nexts {m0 m1 : Int} (h : Cp ow zs w lo b bc bn x y n0 n1 s k G Oa oc Ea ec Wa wc) (ka : Alt (fun i => w.heap.size ≤ i ∨ i = bn) w w') (ht : Two w' bn m0 m1) : Cp ow zs w' lo b bc bn x y m0 m1 s k G Oa oc Ea ec Wa wc := by
  have hl := h.lt
  have off : ∀ p g, p ≠ 2 → ([some b, some bc, some bn, G, ob Oa, ob Ea, ob Wa])[p]? = some (some g) → ¬ (w.heap.size ≤ g ∨ g = bn) := fun p g h0 hp hc => by
    rcases hc with hc | rfl
    · have := hl g (List.mem_of_getElem? hp); omega
    · exact h.dj p 2 _ h0 hp rfl
  refine ⟨MkO.alt h.mq ka (off 0 b (by decide) rfl) (fun g hg => off 3 g (by decide) (by rw [hg]; rfl)), (h.ou.alt ka fun g hg => off 4 g (by decide) ?_).now, (h.en.alt ka fun g hg => off 5 g (by decide) ?_).now, h.wi.alt ka (fun g hg => off 6 g (by decide) ?_) ?_ (fun q hq _ => hq), h.cs.alt ka (off 1 bc (by decide) rfl), h.fz.alt ka h.lb.2.2.2 (off 1 bc (by decide) rfl), ht, h.dj, h.lb.1, h.lb.2.1, h.lb.2.2.1, Nat.lt_of_lt_of_le h.lb.2.2.2 ka.size⟩
  · rw [← hg, ob_eq]; rfl
  · rw [← hg, ob_eq]; rfl
  · rw [← hg]; rfl
  · intro q hq hlt hc
    rcases hc with hc | rfl
    · omega
    · exact hq (by simp)
theorem Cp.wire (h : Cp ow zs w lo b bc bn x y n0 n1 s k G Oa oc Ea ec Wa wc) {j : Nat} (hj : j < k) :
    ∃ g A d, Wa = some ⟨g, 0, none⟩ ∧ w.cell? ⟨g, j, none⟩ = some (.slice A (gl s.ws j).length d) ∧ RI w A (gl s.ws j).length (gl s.ws j) ∧ g < w.heap.size ∧ ∀ q o, A = some ⟨q, o, none⟩ → some q ∉ [some b, some bc, some bn, G, ob Oa, ob Ea, ob Wa] ∧ q < w.heap.size := by
  obtain ⟨vals, h1, h2, h3⟩ := h.wi
  obtain ⟨g, cap, hv, hgl, hgs⟩ := h1.form (by omega)
  simp only [Value.slice.injEq, true_and] at hv
  obtain ⟨rfl, rfl⟩ := hv
  obtain ⟨A, d, h4, h5, h6, _⟩ := h3 j hj
  exact ⟨g, A, d, rfl, by rw [h1.cellAt j (by omega), h4], h5, hgs, h6⟩
theorem rm_of {A : Option Addr} {n : Nat} {xs : List Int} (h : RI w A n xs) (hA : ∀ q o, A = some ⟨q, o, none⟩ → some q ∉ [some b, some bc, some bn, G, ob Oa, ob Ea, ob Wa] ∧ q < w.heap.size) : RM w b G A n xs :=
  ⟨h, fun hn q o hq => by
    have := (hA q o hq).1
    exact ⟨fun hc => this (by subst hc; simp), fun hc => this (by simp [hc])⟩⟩
end
theorem psL_take {l : List Ln} {ws : List (List Int)} {X : Ln} {j : Nat} (h : j < X.parts.length) : (psL l ws X).take (j + 1) = (psL l ws X).take j ++ [gl ws (sFind l (sx X.parts j)).toNat] := by
  have hl : (psL l ws X).length = X.parts.length := by simp [psL]
  rw [List.take_succ_eq_append_getElem (by omega)]
  congr 2
  simp [psL, sx, h]
theorem InputWidths_any (A : Option Addr) (n c : Nat) (p : Int) (l : List Ln) (w : World) (ha : RLn w A n l) (hn : n ≤ 2097152) (hcap : n ≤ c) (hsh : ∀ x ∈ l, shortL x) :
    Calls Tryz.prog 69 #[.slice A n c, .int .i64 p] w (RetO w (if inB 0 1 p = true then byO (fun x => decide (x.kind = 1) && decide (x.party = p)) l else none)) := by
  have hB : Below w.heap.size w (w.alloc (.cells #[.int .i64 p] 3)) := (Below.refl _ _).alloc (Nat.le_refl _) _
  have hc : (w.alloc (.cells #[.int .i64 p] 3)).cell? ⟨w.heap.size, 0, none⟩ = some (.int .i64 p) := box_cell _ _ 0 _ rfl
  cases h : inB 0 1 p with
  | false =>
    have HP := Lib.hid h
    rw [if_neg (by simp)]
    clear h
    go_enter Tryz.func69, Tryz.ntmps69
    go_wp2_with fail
    refine (isBit_any p _).mono ?_
    rintro e w1 ⟨rfl, rfl⟩
    rw [HP.out]
    go_wp2
    go_ret2
    exact RetO.none_ hB rfl rfl
  | true =>
    have HP := Lib.hid h
    rw [if_pos rfl]
    clear h
    go_enter Tryz.func69, Tryz.ntmps69
    go_wp2_with fail
    refine (isBit_any p _).mono ?_
    rintro e w1 ⟨rfl, rfl⟩
    rw [HP.out]
    go_wp2_with fail
    refine (widthsBy_any 111 Tryz.call111 #[.pointer (some ⟨w.heap.size, 0, none⟩)] (fun x => decide (x.kind = 1) && decide (x.party = p)) A n c l _ (ha.below hB (Nat.le_refl _)) hn hcap hsh (Lib.hid fun x P q w1 hb1 => InputWidths1_any x P q w.heap.size p w1 ((hb1.cell (p := ⟨w.heap.size, 0, none⟩) (by simp)).trans hc))).mono ?_
    rintro e w1 ⟨A1, c1, rfl, hown, hb⟩
    go_wp2
    go_ret2
    exact ⟨A1, c1, rfl, hown.lo_ (by simp), hB.trans (hb.mono hB.size)⟩
def BxG (w : World) (b : Nat) (k a c : Int) : Prop := w.cell? ⟨b, 0, none⟩ = some (.int .i64 k) ∧ w.cell? ⟨b, 1, none⟩ = some (.int .i64 a) ∧ w.cell? ⟨b, 2, none⟩ = some (.int .i64 c)
section
variable {w w' : World} {b : Nat} {k a c : Int}
theorem BxG.new (w : World) (T : TypeId) : BxG (w.alloc (.cells #[.int .i64 k, .int .i64 a, .int .i64 c] T)) w.heap.size k a c := ⟨box_cell w _ 0 _ rfl, box_cell w _ 1 _ rfl, box_cell w _ 2 _ rfl⟩
theorem BxG.below (h : BxG w b k a c) (hb : Below w.heap.size w w') : BxG w' b k a c := ⟨cell_bel h.1 hb, cell_bel h.2.1 hb, cell_bel h.2.2 hb⟩
theorem BxG.far (h : BxG w b k a c) (q : Addr) (v : Value) (hq : q.block ≠ b) : BxG (w.setCell q v) b k a c := by
  have hc : ∀ {r : Nat} {u : Value}, w.cell? ⟨b, r, none⟩ = some u → (w.setCell q v).cell? ⟨b, r, none⟩ = some u := fun {r u} hu => (World.cell?_setCell_other _ _ _ _ (fun he => hq (by rw [he]))).trans hu
  exact ⟨hc h.1, hc h.2.1, hc h.2.2⟩
end
theorem GateIs.mono {g : G3} {n m : Int} (h : GateIs g n) (hm : n ≤ m) : GateIs g m := by
  cases h with
  | xor_ hk a0 a1 b0 b1 => exact .xor_ hk a0 (by omega) b0 (by omega)
  | and_ hk a0 a1 b0 b1 => exact .and_ hk a0 (by omega) b0 (by omega)
  | not_ hk a0 a1 b0 => exact .not_ hk a0 (by omega) b0
  | one_ hk a0 b0 => exact .one_ hk a0 b0
end Go.Proofs.YtjjphaiomaiilaaGreat
