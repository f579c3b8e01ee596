/- Rows of records of the call's own (what wires become), beside a maker whose outs may grow. Lengths below 2^21. -/
import Derived.Test.YtgpfiefhhlejfaaQSmp
import Derived.Test.YtgpfiefhhlejfaaQMk2
import Derived.Test.YtgpfiefhhlejfaaQAlt
namespace Go.Proofs.Ytgpfiefhhlejfaa
open Go.RowKit
set_option linter.unusedVariables false
set_option linter.unusedSimpArgs false

/-- The cells of a list. -/
def encs (f : Tb → List Value) (l : List Tb) : List Value := l.flatMap f
section
variable {f : Tb → List Value} {s : Nat}
theorem encs_len (hf : ∀ x, (f x).length = s) (l : List Tb) : (encs f l).length = l.length * s := by
  induction l with
  | nil => simp [encs]
  | cons x l ih => simp only [encs, List.flatMap_cons, List.length_append, List.length_cons] at ih ⊢; rw [ih, hf, Nat.succ_mul]; omega
theorem encs_append (l m : List Tb) : encs f (l ++ m) = encs f l ++ encs f m := by simp [encs]
theorem encs_one (x : Tb) : encs f [x] = f x := by simp [encs]
theorem encs_at (hf : ∀ x, (f x).length = s) : ∀ (l : List Tb) (j i : Nat), j < l.length → i < s → (encs f l)[j * s + i]? = (f (tt l j))[i]? := by
  intro l
  induction l with
  | nil => intro j i hj; simp at hj
  | cons x l ih =>
    intro j i hj hi
    have hc : encs f (x :: l) = f x ++ encs f l := rfl
    rw [hc]
    cases j with
    | zero =>
      rw [Nat.zero_mul, Nat.zero_add, List.getElem?_append_left (by rw [hf]; exact hi)]; rfl
    | succ j =>
      rw [List.getElem?_append_right (by rw [hf, Nat.succ_mul]; omega), hf, show (j + 1) * s + i - s = j * s + i by rw [Nat.succ_mul]; omega, ih j i (by simpa using hj) hi]; rfl
end
/-- The slice value v is a row of the call's own between the blocks lo and hi, which holds the records l. -/
def OwnT (T : TypeId) (s : Nat) (f : Tb → List Value) (w : World) (lo hi : Nat) (v : Value) (n : Nat) (l : List Tb) : Prop :=
  w.ownsRow lo T s v n (encs f l) ∧ l.length = n ∧ ∀ g, v.ownBlock = some g → g < hi
section
variable {T : TypeId} {s : Nat} {f : Tb → List Value} {w w' : World} {lo hi n : Nat} {v : Value} {l : List Tb}
theorem OwnT.len (h : OwnT T s f w lo hi v n l) : l.length = n := h.2.1
theorem OwnT.lt (h : OwnT T s f w lo hi v n l) : ∀ g, v.ownBlock = some g → lo ≤ g ∧ g < hi ∧ g < w.heap.size := fun g hg => ⟨(h.1.lt g hg).1, h.2.2 g hg, (h.1.lt g hg).2⟩
theorem OwnT.none_ (T : TypeId) (s : Nat) (f : Tb → List Value) (w : World) (lo hi : Nat) : OwnT T s f w lo hi (.slice none 0 0) 0 [] := ⟨World.ownsRow_nil w lo _ _, rfl, fun g hg => by simp [Value.ownBlock] at hg⟩
theorem OwnT.new0 (T : TypeId) (s : Nat) (f : Tb → List Value) (w : World) (lo : Nat) (hl : lo ≤ w.heap.size) : OwnT T s f (w.alloc (.cells #[] T)) lo (w.heap.size + 1) (.slice (some ⟨w.heap.size, 0, none⟩) 0 0) 0 [] := by
  have h := World.ownsRow_lit (base := lo) (e := T) (size := s) w #[] 0 hl (by unfold maxLen; omega) (by simp)
  exact ⟨by simpa [encs] using h, rfl, fun g hg => by simp [Value.ownBlock] at hg; omega⟩
theorem OwnT.now (h : OwnT T s f w lo hi v n l) : OwnT T s f w lo w.heap.size v n l := ⟨h.1, h.2.1, fun g hg => (h.lt g hg).2.2⟩
theorem OwnT.alt {S : Nat → Prop} (h : OwnT T s f w lo hi v n l) (k : Alt S w w') (hs : ∀ g, v.ownBlock = some g → ¬ S g) : OwnT T s f w' lo hi v n l := by
  refine ⟨⟨h.1.1, ?_⟩, h.2⟩
  rcases h.1.2 with h1 | ⟨g, cap, cur, rfl, hlo, hg, r⟩
  · exact .inl h1
  · have hl := h.lt g (by simp [Value.ownBlock])
    exact .inr ⟨g, cap, cur, rfl, hlo, by rw [k.block g hl.2.2 (hs g (by simp [Value.ownBlock]))]; exact hg, r⟩
theorem OwnT.below {B : Nat} (h : OwnT T s f w lo hi v n l) (hb : Below B w w') (hB : w.heap.size ≤ B ∨ hi ≤ B) : OwnT T s f w' lo hi v n l :=
  h.alt (Alt.of_below (S := fun i => B ≤ i) hb fun _ _ h => h) fun g hg => by have := h.lt g hg; omega
/-- An element's cells. -/
theorem OwnT.at_ {c : Nat} {A : Option Addr} (hf : ∀ x, (f x).length = s) (h : OwnT T s f w lo hi (.slice A n c) n l) {k : Nat} (hk : k < n) :
    ∃ g, A = some ⟨g, 0, none⟩ ∧ lo ≤ g ∧ g < hi ∧ g < w.heap.size ∧ ∀ i u, (f (tt l k))[i]? = some u → w.cell? ⟨g, k * s + i, none⟩ = some u := by
  have hlen := h.len
  obtain ⟨g, cap, hv, h1, h2⟩ := h.1.form (by omega)
  simp only [Value.slice.injEq, true_and] at hv
  obtain ⟨rfl, rfl⟩ := hv
  refine ⟨g, rfl, h1, h.2.2 g rfl, h2, fun i u hu => ?_⟩
  have hi' : i < s := by
    rcases Nat.lt_or_ge i s with h | h
    · exact h
    · rw [List.getElem?_eq_none (by rw [hf]; exact h)] at hu; cases hu
  have hb : k * s + i < n * s := by
    have := Nat.mul_le_mul_right s (show k + 1 ≤ n by omega)
    rw [Nat.succ_mul] at this; omega
  rw [h.1.cellAt (k * s + i) (by omega), encs_at hf l k i (by omega) hi', hu]
end
section
variable (w : World)
theorem run_appT (P : Program) (t ty T : TypeId) (z : Value) (s bytes : Nat) (f : Tb → List Value) (hf : ∀ x, (f x).length = s) (h1c : ∀ x, ∀ u ∈ f x, u.oneCell' = true) (ht : P.underlying t = some (.slice T)) (hinfo : (P.info? T).map (fun i => (i.zero, i.size, i.bytes)) = some (some z, s, bytes)) (hzs : z.cells.size = s) (hs0 : 0 < s) (hby : bytes ≤ 64)
    (lo hi n c0 c b : Nat) (A0 : Option Addr) (l : List Tb) (x : Tb) (hown : OwnT T s f w lo hi (.slice A0 n c0) n l) (hr : ∀ i u, (f x)[i]? = some u → w.cell? ⟨b, i, none⟩ = some u) (hlen : n ≤ 1048576) (hlo : lo ≤ w.heap.size) :
    ∃ A' c' w', (Builtin.append_ #[t, t] ty #[.slice A0 n c0, .slice (some ⟨b, 0, none⟩) 1 c]).run P w = .ok (.slice A' (n + 1) c') w' ∧
      OwnT T s f w' lo w'.heap.size (.slice A' (n + 1) c') (n + 1) (l ++ [x]) ∧ w.grownBy w' (Value.slice A0 n c0).ownBlock ∧
      ((Value.slice A' (n + 1) c').ownBlock = (Value.slice A0 n c0).ownBlock ∨ (Value.slice A' (n + 1) c').ownBlock = some w.heap.size) ∧ StayA A0 (n * s) w w' := by
  obtain ⟨i, hi0, hz0, hz1, hz2⟩ := info_parts hinfo
  have hrv : RV w (some ⟨b, 0, none⟩) 1 s (f x) := ⟨by rw [hf]; omega, fun _ => ⟨_, rfl, fun j u hu => by rw [addr_add, Nat.zero_add]; exact hr j u hu⟩⟩
  obtain ⟨A', c', w', hrun, h2, h3, h4, h5⟩ := run_appV (P := P) w t ty T i z s bytes ht hi0 hz0 hz1 hz2 hzs hs0 lo n c0 1 c A0 _ _ _ hown.1 hrv (h1c x) (by unfold maxLen; omega) (Nat.le_trans (Nat.mul_le_mul_left _ hby) (by omega)) hlo
  have he : encs f l ++ f x = encs f (l ++ [x]) := by rw [encs_append, encs_one]
  rw [he] at h2
  exact ⟨A', c', w', hrun, ⟨h2, by have := hown.len; simp; omega, fun g hg => (h2.lt g hg).2⟩, h3, h4, h5⟩
end

/-- The maker in block b: its inputs are x and y, its gates gs, a row in the block G; its outs are the slice (Ao, no, co). -/
def MkO (w : World) (lo b : Nat) (x y : Int) (Ao : Option Addr) (no co : Nat) (gs : List G3) (G : Option Nat) : Prop :=
  b < w.heap.size ∧ G ≠ some b ∧ (∀ q, w.frozen? ⟨b, q, none⟩ = false) ∧ ∃ Ag cg, BxC w b x y Ag gs.length cg Ao no co ∧ OwnG w lo w.heap.size (.slice Ag gs.length cg) gs.length gs ∧ (Value.slice Ag gs.length cg).ownBlock = G
section
variable {w w' : World} {lo b : Nat} {x y : Int} {Ao : Option Addr} {no co : Nat} {gs : List G3} {G : Option Nat}
theorem MkO.lt (h : MkO w lo b x y Ao no co gs G) : ∀ g, G = some g → lo ≤ g ∧ g < w.heap.size := by
  obtain ⟨_, _, _, Ag, cg, _, ho, he⟩ := h
  intro g hg; have := ho.lt g (he.trans hg); omega
theorem MkO.below_ {B : Nat} (h : MkO w lo b x y Ao no co gs G) (k : Below B w w') (hB : w.heap.size ≤ B) : MkO w' lo b x y Ao no co gs G := by
  obtain ⟨h1, h2, hf, Ag, cg, hx, ho, he⟩ := h
  exact ⟨Nat.lt_of_lt_of_le h1 k.size, h2, fun q => (k.frozen (p := ⟨b, q, none⟩) (by show b < B; omega)).trans (hf q), Ag, cg, hx.below (k.mono hB), (ho.below k (.inl hB)).now, he⟩
theorem MkO.alloc_ (h : MkO w lo b x y Ao no co gs G) (o : Obj) : MkO (w.alloc o) lo b x y Ao no co gs G := h.below_ ((Below.refl _ _).alloc (Nat.le_refl _) o) (Nat.le_refl _)
theorem MkO.drewN_ (h : MkO w lo b x y Ao no co gs G) (k : Nat) : MkO (w.drewN k) lo b x y Ao no co gs G := h
theorem MkO.grown_ {r : Option Nat} (h : MkO w lo b x y Ao no co gs G) (k : w.grownBy w' r) (hb : r ≠ some b) (hG : ∀ g, r = some g → G ≠ some g) : MkO w' lo b x y Ao no co gs G := by
  obtain ⟨h1, h2, hf, Ag, cg, hx, ho, he⟩ := h
  have hc : ∀ {q : Nat} {v : Value}, w.cell? ⟨b, q, none⟩ = some v → w'.cell? ⟨b, q, none⟩ = some v := fun {q v} hv => (World.cell?_of_block (w := w) (k.block b h1 (fun e => hb e.symm))).trans hv
  refine ⟨Nat.lt_of_lt_of_le h1 k.size, h2, fun q => (World.frozen?_of_block (w := w) (a := ⟨b, q, none⟩) (k.block b h1 (fun e => hb e.symm))).trans (hf q), Ag, cg, ⟨hc hx.1, hc hx.2.1, hc hx.2.2.1, hc hx.2.2.2⟩, (ho.grown k ?_).now, he⟩
  cases hr : (Value.slice Ag gs.length cg).ownBlock with
  | none => exact .inl rfl
  | some g => exact .inr (fun hq => hG g hq.symm (he ▸ hr))
/-- A new maker. -/
theorem MkO.new (w : World) (lo : Nat) (x y : Int) (T : TypeId) : MkO (w.alloc (.cells #[.int .i64 x, .int .i64 y, .slice none 0 0, .slice none 0 0] T)) lo w.heap.size x y none 0 0 [] none :=
  ⟨by simp, by simp, fun q => World.frozen?_alloc_at _ _ _ _ rfl, none, 0, BxC.new w T, OwnG.none_ _ _ _, rfl⟩
/-- What a gate's making has done. -/
theorem MkO.made {w5 : World} {gs' : List G3} {Ag A5 : Option Addr} {n cg c5 : Nat} (h1 : b < w.heap.size) (h2 : (Value.slice Ag gs.length cg).ownBlock ≠ some b) (hf : ∀ q, w.frozen? ⟨b, q, none⟩ = false)
    (hbx : BxC w b x y Ag gs.length cg Ao no co) (hown : OwnG w5 lo w5.heap.size (.slice A5 n c5) n gs') (hg : w.grownBy w5 (Value.slice Ag gs.length cg).ownBlock)
    (hat : (Value.slice A5 n c5).ownBlock = (Value.slice Ag gs.length cg).ownBlock ∨ (Value.slice A5 n c5).ownBlock = some w.heap.size) :
    MkO (w5.setCell ⟨b, 2, none⟩ (.slice A5 n c5)) lo b x y Ao no co gs' (Value.slice A5 n c5).ownBlock ∧ Mv b (Value.slice Ag gs.length cg).ownBlock (Value.slice A5 n c5).ownBlock w (w5.setCell ⟨b, 2, none⟩ (.slice A5 n c5)) := by
  have hl := hown.len
  have hne : (Value.slice A5 n c5).ownBlock ≠ some b := by
    rcases hat with h | h
    · rw [h]; exact h2
    · rw [h]; intro hc; injection hc with hc; omega
  have hsz : w.heap.size ≤ w5.heap.size := hg.size
  subst hl
  refine ⟨⟨by simp; omega, hne, fun q => (World.frozen?_setCell _ _ _ _).trans ((World.frozen?_of_block (w := w) (a := ⟨b, q, none⟩) (hg.block b h1 (fun e => h2 e.symm))).trans (hf q)), A5, c5, (hbx.grown hg h2).setG _ _ _, ?_, rfl⟩, ?_⟩
  · simpa using hown.far1 ⟨b, 2, none⟩ (.slice A5 gs'.length c5) hne
  · refine ⟨hg.os, hg.tape, hg.output, by simpa using hsz, fun k hk hkb hkG => ?_, ?_⟩
    · rw [Below.heap_setCell _ _ _ _ hkb]; exact hg.block k hk (fun e => hkG e.symm)
    · rcases hat with h | h
      · exact .inl h
      · exact .inr ⟨_, h, Nat.le_refl _⟩
/-- New outs. -/
theorem MkO.outs (h : MkO w lo b x y Ao no co gs G) (A' : Option Addr) (n' c' : Nat) : MkO (w.setCell ⟨b, 3, none⟩ (.slice A' n' c')) lo b x y A' n' c' gs G := by
  obtain ⟨h1, h2, hf, Ag, cg, hx, ho, he⟩ := h
  refine ⟨by simpa using h1, h2, fun q => (World.frozen?_setCell _ _ _ _).trans (hf q), Ag, cg, hx.setO _ _ _, ?_, he⟩
  simpa using ho.far1 ⟨b, 3, none⟩ (.slice A' n' c') (he ▸ h2)
theorem Mv.outs {W : World} {G1 : Option Nat} (h : Mv b G G1 W w) (v : Value) (q : Nat) : Mv b G G1 W (w.setCell ⟨b, q, none⟩ v) :=
  ⟨h.os, h.tape, h.output, by simpa using h.size, fun k hk hkb hkG => by rw [Below.heap_setCell _ _ _ _ hkb]; exact h.block k hk hkb hkG, h.own⟩
end
/-- What a maker's word returns: a wire; the maker has grown. -/
def RetWO (lo b : Nat) (x y : Int) (Ao : Option Addr) (no co : Nat) (gs : List G3) (G : Option Nat) (v : Int) (w : World) (e : Ending) (w' : World) : Prop :=
  ∃ G', e = .returned (.int .i64 v) ∧ MkO w' lo b x y Ao no co gs G' ∧ Mv b G G' w w'
/-- Own records apart from the maker. -/
def OMT (T : TypeId) (s : Nat) (f : Tb → List Value) (w : World) (b : Nat) (G : Option Nat) (lo : Nat) (v : Value) (n : Nat) (l : List Tb) : Prop :=
  OwnT T s f w lo w.heap.size v n l ∧ ∀ g, v.ownBlock = some g → g ≠ b ∧ G ≠ some g
section
variable {T : TypeId} {s : Nat} {f : Tb → List Value} {w w' : World} {lo lo' b n : Nat} {v : Value} {l : List Tb} {G G' : Option Nat} {x y : Int} {Ao : Option Addr} {no co : Nat} {gs : List G3}
theorem OMT.mv (h : OMT T s f w b G lo v n l) (k : Mv b G G' w w') : OMT T s f w' b G' lo v n l := by
  have hal : Alt (fun i => i = b ∨ G = some i) w w' := ⟨k.os, k.tape, k.output, k.size, fun i hi hn => k.block i hi (fun hc => hn (.inl hc)) (fun hc => hn (.inr hc))⟩
  exact ⟨(h.1.alt hal (fun g hg hc => hc.elim (h.2 g hg).1 (h.2 g hg).2)).now, fun g hg => ⟨(h.2 g hg).1, k.off (h.1.lt g hg).2.2 (h.2 g hg).2⟩⟩
theorem OMT.below_ {B : Nat} (h : OMT T s f w b G lo v n l) (k : Below B w w') (hB : w.heap.size ≤ B) : OMT T s f w' b G lo v n l := ⟨(h.1.below k (.inl hB)).now, h.2⟩
theorem OMT.alloc_ (h : OMT T s f w b G lo v n l) (o : Obj) : OMT T s f (w.alloc o) b G lo v n l := h.below_ ((Below.refl _ _).alloc (Nat.le_refl _) o) (Nat.le_refl _)
/-- The row behind an append. -/
theorem OMT.app {m c c' : Nat} {A A' : Option Addr} {l' : List Tb} (h : OMT T s f w b G lo (.slice A n c) n l) (hm : MkO w lo' b x y Ao no co gs G)
    (ho : OwnT T s f w' lo w'.heap.size (.slice A' m c') m l') (hat : (Value.slice A' m c').ownBlock = (Value.slice A n c).ownBlock ∨ (Value.slice A' m c').ownBlock = some w.heap.size) : OMT T s f w' b G lo (.slice A' m c') m l' := by
  refine ⟨ho, fun g hg => ?_⟩
  rcases hat with h1 | h1
  · exact h.2 g (h1 ▸ hg)
  · rw [h1] at hg; injection hg with hg; subst hg
    exact ⟨by have := hm.1; omega, fun hc => by have := hm.lt _ hc; omega⟩
theorem MkO.app {c : Nat} {A : Option Addr} (hm : MkO w lo' b x y Ao no co gs G) (h : OMT T s f w b G lo (.slice A n c) n l) (hg : w.grownBy w' (Value.slice A n c).ownBlock) : MkO w' lo' b x y Ao no co gs G :=
  hm.grown_ hg (fun hc => (h.2 b hc).1 rfl) (fun g hc => (h.2 g hc).2)
theorem Mv.appT {W : World} {G1 : Option Nat} {c : Nat} {A : Option Addr} (k : Mv b G G1 W w) (h : OMT T s f w b G1 lo (.slice A n c) n l) (hlo : W.heap.size ≤ lo) (hg : w.grownBy w' (Value.slice A n c).ownBlock) : Mv b G G1 W w' :=
  k.grown_ hg (fun g hc => Nat.le_trans hlo (h.1.lt g hc).1)
end

end Go.Proofs.Ytgpfiefhhlejfaa
