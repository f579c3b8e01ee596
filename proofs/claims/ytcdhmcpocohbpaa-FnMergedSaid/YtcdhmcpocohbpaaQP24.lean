/- Words for the reference's MergeGates: the circuit in the making, the row of the wires' new places. No condition. -/
import Derived.Test.YtcdhmcpocohbpaaQP22
import Derived.Test.YtcdhmcpocohbpaaQP15
import Derived.Test.YtcdhmcpocohbpaaQP07
namespace Go.Proofs.Ytcdhmcpocohbpaa
open Go.RowKit
set_option linter.unusedVariables false
set_option linter.unusedSimpArgs false
structure MsI (w : World) (lo b : Nat) (x y : Int) (G : Option Addr) (k cG : Nat) (gs : List G3) (F : Option Addr) (n cF : Nat) (fs : List Int) : Prop where
  bx : BxC w b x y G k cG none 0 0
  f4 : Fz w b
  g : OwnG w lo w.heap.size (.slice G k cG) k gs
  f : Own w lo w.heap.size (.slice F n cF) n fs
  ap : Apart (.slice G k cG) (.slice F n cF)
  g4 : (Value.slice G k cG).ownBlock ≠ some b
  r4 : (Value.slice F n cF).ownBlock ≠ some b
  lo4 : lo ≤ b
  lt4 : b < w.heap.size
section
variable {w w' W w6 : World} {lo b : Nat} {x y : Int} {G G' : Option Addr} {k cG c' : Nat} {gs : List G3} {F : Option Addr} {n cF : Nat} {fs : List Int}
theorem MsI.below (h : MsI w lo b x y G k cG gs F n cF fs) (hb : Below w.heap.size w w') : MsI w' lo b x y G k cG gs F n cF fs :=
  ⟨h.bx.below hb, h.f4.below hb h.lt4, (h.g.below hb (.inl (Nat.le_refl _))).now, (h.f.below hb (.inl (Nat.le_refl _))).now, h.ap, h.g4, h.r4, h.lo4, Nat.lt_of_lt_of_le h.lt4 hb.size⟩
theorem MsI.setF {fB : Nat} (h : MsI w lo b x y G k cG gs (some ⟨fB, 0, none⟩) n cF fs) (j : Nat) (u : Int) : MsI (w.setCell ⟨fB, j, none⟩ (.int .i64 u)) lo b x y G k cG gs (some ⟨fB, 0, none⟩) n cF (fs.set j u) := by
  have hfb : (Value.slice (some ⟨fB, 0, none⟩) n cF).ownBlock = some fB := by simp [Value.ownBlock]
  have k1 : Alt (fun i => i = fB) w (w.setCell ⟨fB, j, none⟩ (.int .i64 u)) := (Alt.refl_ _ w).set_ _ _ (fun _ => rfl)
  have hne : ¬ b = fB := fun hc => h.r4 (hc ▸ hfb)
  exact ⟨h.bx.alt k1 hne, h.f4.set _ _, (h.g.alt k1 (fun g hg hc => h.ap g hg (hc ▸ hfb))).now, (h.f.stored j u).1.now, h.ap, h.g4, h.r4, h.lo4, by simpa using h.lt4⟩
theorem MsI.app {M : G3} (h : MsI W lo b x y G k cG gs F n cF fs) (ho : OwnG w6 lo w6.heap.size (.slice G' (k + 1) c') (k + 1) (gs ++ [M])) (hg : W.grownBy w6 (Value.slice G k cG).ownBlock)
    (hat : (Value.slice G' (k + 1) c').ownBlock = (Value.slice G k cG).ownBlock ∨ (Value.slice G' (k + 1) c').ownBlock = some W.heap.size) :
    BxC w6 b x y G k cG none 0 0 ∧ Fz w6 b ∧ MsI (w6.setCell ⟨b, 2, none⟩ (.slice G' (k + 1) c')) lo b x y G' (k + 1) c' (gs ++ [M]) F n cF fs := by
  have ka := Alt.of_grown (S := fun i => (Value.slice G k cG).ownBlock = some i) hg (fun _ h => h)
  have hx6 := h.bx.alt ka h.g4
  have f6 := h.f4.alt ka h.lt4 h.g4
  have hf6 := (h.f.alt ka (fun g hg hc => h.ap g hc hg)).now
  have k1 : Alt (fun i => i = b) w6 (w6.setCell ⟨b, 2, none⟩ (.slice G' (k + 1) c')) := (Alt.refl_ _ w6).set_ _ _ (fun _ => rfl)
  have hn : (Value.slice G' (k + 1) c').ownBlock ≠ some b := fun hc => by
    rcases hat with h1 | h1
    · exact h.g4 (h1.symm.trans hc)
    · rw [h1] at hc; injection hc with hc; have := h.lt4; omega
  refine ⟨hx6, f6, hx6.setG G' (k + 1) c', f6.set _ _, (ho.alt k1 (fun g hg hc => hn (hc ▸ hg))).now, (hf6.alt k1 (fun g hg hc => h.r4 (hc ▸ hg))).now, fun g h1 h2 => ?_, hn, h.r4, h.lo4, ?_⟩
  · rcases hat with h3 | h3
    · exact h.ap g (h3.symm.trans h1) h2
    · rw [h3] at h1; injection h1 with h1; have := h.f.lt g h2; omega
  · have := ka.size; have := h.lt4; simp; omega
end
theorem spn_cons (a : Int) (n : Nat) : spn a (n + 1) = a :: spn (a + 1) n := by
  unfold spn
  rw [List.range_succ_eq_map]
  simp only [List.map_cons, List.map_map, List.cons.injEq]
  refine ⟨by simp, List.map_congr_left fun i _ => ?_⟩
  simp only [Function.comp]
  omega
theorem spn_append (a : Int) (n m : Nat) : spn a (n + m) = spn a n ++ spn (a + n) m := by
  induction m with
  | zero => simp [spn]
  | succ m ih =>
    rw [← Nat.add_assoc, spn_snoc, ih, spn_snoc, List.append_assoc]
    congr 3; omega
def frow (X ng : Nat) (gs : List G3) (k : Nat) : List Int := (mrg X gs k).2 ++ spn ((X : Int) + k) (ng - k)
def rowV (X ng : Nat) (gs : List G3) (k : Nat) (v : Int) : List Int := (mrg X gs k).2 ++ v :: spn ((X : Int) + k + 1) (ng - k - 1)
theorem frow_zero (X ng : Nat) (gs : List G3) : frow X ng gs 0 = spn 0 (X + ng) := by
  unfold frow
  rw [show (mrg X gs 0).2 = spn 0 X from rfl, spn_append]
  simp
theorem frow_end (X ng : Nat) (gs : List G3) : frow X ng gs ng = (mrg X gs ng).2 := by
  unfold frow; rw [Nat.sub_self]; simp [spn]
theorem frow_row {X ng : Nat} {gs : List G3} {k : Nat} (h : k < ng) : frow X ng gs k = rowV X ng gs k ((X : Int) + k) := by
  unfold frow rowV
  obtain ⟨m, hm⟩ : ∃ m, ng - k = m + 1 := ⟨ng - k - 1, by omega⟩
  rw [hm, spn_cons]; simp
theorem row_set {X ng : Nat} {gs : List G3} {k : Nat} (v u : Int) : (rowV X ng gs k v).set (X + k) u = rowV X ng gs k u := by
  have hl := (mrg_len X gs k).2
  unfold rowV
  rw [List.set_append_right _ _ (by omega)]
  rw [show X + k - (mrg X gs k).2.length = 0 by omega]
  rfl
theorem rowV_next {X ng : Nat} {gs : List G3} {k : Nat} (v : Int) (hv : v = (X : Int) + (same1 (mrg X gs k).1 (mvG (fun w => gi (mrg X gs k).2 w.toNat) (gg gs k)) : Nat)) : rowV X ng gs k v = frow X ng gs (k + 1) := by
  unfold rowV frow
  rw [show (mrg X gs (k + 1)).2 = (mrg X gs k).2 ++ [v] by rw [hv]; rfl, List.append_assoc]
  have e1 : (X : Int) + k + 1 = (X : Int) + ((k + 1 : Nat) : Int) := by omega
  have e2 : ng - k - 1 = ng - (k + 1) := by omega
  rw [e1, e2]; rfl
theorem row_at {X ng : Nat} {gs : List G3} {k : Nat} (v : Int) {j : Nat} (h : j < X + k) : gi (rowV X ng gs k v) j = gi (mrg X gs k).2 j := by
  have hl := (mrg_len X gs k).2
  unfold rowV; exact gi_append_l (by omega)
theorem row_len {X ng : Nat} {gs : List G3} {k : Nat} (v : Int) (h : k < ng) : (rowV X ng gs k v).length = X + ng := by
  have hl := (mrg_len X gs k).2
  unfold rowV
  simp only [List.length_append, List.length_cons, spn_len, hl]; omega
def same2 (hs : List G3) (g : G3) (j : Nat) : Nat := j + (hs.drop j).findIdx fun o => sameG o g
theorem same2_zero (hs : List G3) (g : G3) : same2 hs g 0 = same1 hs g := by simp [same2, same1]
theorem same2_end {hs : List G3} {g : G3} {k : Nat} (h : hs.length = k) : same2 hs g k = k := by
  subst h; simp [same2]
theorem same2_yes {hs : List G3} {g : G3} {j : Nat} (hj : j < hs.length) (h : sameG (gg hs j) g = true) : same2 hs g j = j := by
  unfold same2
  rw [List.drop_eq_getElem_cons hj, List.findIdx_cons, ← gg_lt hj, h]; rfl
theorem same2_no {hs : List G3} {g : G3} {j : Nat} (hj : j < hs.length) (h : sameG (gg hs j) g = false) : same2 hs g j = same2 hs g (j + 1) := by
  unfold same2
  rw [List.drop_eq_getElem_cons hj, List.findIdx_cons, ← gg_lt hj, h]
  simp only [cond_false]; omega
end Go.Proofs.Ytcdhmcpocohbpaa
