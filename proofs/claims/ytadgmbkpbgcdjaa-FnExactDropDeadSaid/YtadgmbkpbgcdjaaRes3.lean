/- Drawn regions, more kinds of operations: a new row of gates; an append onto an empty one; two rows in one value; a store of one row into a box of the region's own. Lengths as the lemmas say. -/
import Derived.Test.YtadgmbkpbgcdjaaRes2
namespace Go.Proofs.Ytadgmbkpbgcdjaa
open Go.RowKit
set_option linter.unusedVariables false
set_option linter.unusedSimpArgs false

theorem postRowG.new0 (w : World) : postRowG w 0 [] (.slice (some ⟨w.heap.size, 0, none⟩) 0 0) (w.alloc (.cells #[] 60)) :=
  ⟨_, _, rfl, (OwnG_new0 w w.heap.size (Nat.le_refl _)).hi_ (by simp), (Below.refl _ _).alloc (Nat.le_refl _) _⟩
theorem postRow.new0 (w : World) : postRow w 0 [] (.slice (some ⟨w.heap.size, 0, none⟩) 0 0) (w.alloc (.cells #[] 3)) := by simpa using postRow.new w [] 0 rfl (by omega)
section
variable {W : World} {own : Nat → Prop} {cs : List (Addr × Value)} {sk : List (Nat × List Nat × List Nat)} {ini fi : List Nat} {rs : List (Nat × Res)} {ops : Array Oper} {L : Act → (Nat → Value) → Prop} {k : Nat} {o : Oper} {rest : List Oper} {a : Act} {ρ : Nat → Value}
/-- An append of gates onto an empty row of the region's own. -/
theorem mem_appG0 (d lo m : Nat) (ys : List G3) (A0 : Option Addr) (c0 : Nat) (A : Option Addr) (c : Nat) (s x : Operand) (hr : resAt rs k = Res.rowG lo m ys) (he : effB sk k = true) (hlo : lo ≤ W.heap.size) (hrd : resAt rs d = Res.rowG lo 0 []) (hd : consL sk k = [d]) (hdd : d ∈ depsL sk k) (hρ : ρ d = .slice A0 0 c0)
    (ho : o.op = .call { callee := .builtin .append, args := #[s, x], argTypes := #[27, 27] }) (hs : a.eval s = .slice A0 0 c0) (hx : a.eval x = .slice A m c)
    (hlen : m ≤ 8388608) (hread : ∀ w, Alt (okB W own) W w → CellsL w cs → (mkSep W own cs sk ini fi rs).pre k ρ w → RG w A m ys)
    (h : ∀ A' c', wpSep (mkSep W own cs sk ini fi rs) Try.prog ops L (k + 1) rest (a.put o.dst (.slice A' m c')) (upd ρ k (.slice A' m c'))) (hw : Region.wanted o (yielded ops a.tmps) = true := by first | exact wanted_none rfl | exact wanted_some rfl rfl rfl rfl) : wpSep (mkSep W own cs sk ini fi rs) Try.prog ops L k (o :: rest) a ρ := by
  refine mem_appG (hw := hw) d lo 0 m [] ys A0 c0 A c s x ?_ he hlo hrd hd hdd hρ ho hs hx (by omega) hread fun A' c' => ?_
  · rw [hr, Nat.zero_add, List.nil_append]
  · rw [Nat.zero_add]; exact h A' c'
/-- Two rows in one value, of whatever form. -/
def Res.two (lo ng no : Nat) (gs : List G3) (os : List Int) (V : Option Addr → Nat → Option Addr → Nat → Value) : Res :=
  ⟨fun _ v => ∃ A c O d, v = V A c O d, fun _ v w => ∀ A c O d, v = V A c O d → OwnC w lo w.heap.size A ng c O no d gs os,
    fun _ v b => ∃ A c O d, v = V A c O d ∧ ((Value.slice A ng c).ownBlock = some b ∨ (Value.slice O no d).ownBlock = some b), fun _ => ⟨V none 0 none 0, none, 0, none, 0, rfl⟩,
    fun _ v w w' S h k hb A c O d hv => by
      have h1 := h A c O d hv
      exact ⟨(h1.1.alt k fun g hg => (hb g ⟨A, c, O, d, hv, .inl hg⟩).1).now, (h1.2.1.alt k fun g hg => (hb g ⟨A, c, O, d, hv, .inr hg⟩).1).now, h1.2.2⟩⟩
def postTwo (w : World) (ng no : Nat) (gs : List G3) (os : List Int) (V : Option Addr → Nat → Option Addr → Nat → Value) (v : Value) (w' : World) : Prop := ∃ A c O d, v = V A c O d ∧ OwnC w' w.heap.size w'.heap.size A ng c O no d gs os ∧ Below w.heap.size w w'
theorem postTwo.mk_ {w w' : World} {ng no : Nat} {gs : List G3} {os : List Int} {V : Option Addr → Nat → Option Addr → Nat → Value} {v : Value} (A : Option Addr) (c : Nat) (O : Option Addr) (d : Nat) (hv : v = V A c O d) (h : OwnC w' w.heap.size w'.heap.size A ng c O no d gs os) (hb : Below w.heap.size w w') : postTwo w ng no gs os V v w' := ⟨A, c, O, d, hv, h, hb⟩
theorem mem_two (lo ng no : Nat) (gs : List G3) (os : List Int) (V : Option Addr → Nat → Option Addr → Nat → Value) (hV : ∀ {A A' : Option Addr} {c c' : Nat} {O O' : Option Addr} {d d' : Nat}, V A c O d = V A' c' O' d' → A = A' ∧ c = c' ∧ O = O' ∧ d = d') {P : Program} (hr : resAt rs k = Res.two lo ng no gs os V) (he : effB sk k = true) (hlo : lo ≤ W.heap.size)
    (hx : ∀ w, Alt (okB W own) W w → CellsL w cs → (mkSep W own cs sk ini fi rs).pre k ρ w → sepAt P o a (postTwo w ng no gs os V) w)
    (h : ∀ A c O d, wpSep (mkSep W own cs sk ini fi rs) P ops L (k + 1) rest (a.put o.dst (V A c O d)) (upd ρ k (V A c O d))) (hw : Region.wanted o (yielded ops a.tmps) = true := by first | exact wanted_none rfl | exact wanted_some rfl rfl rfl rfl) : wpSep (mkSep W own cs sk ini fi rs) P ops L k (o :: rest) a ρ :=
  mem_eff (hw := hw) _ hr he (fun w hw hc hp => sepAt_mono (hx w hw hc hp) fun v w' ⟨A, c, O, d, h1, h2, h3⟩ => by
    subst h1
    refine ⟨⟨A, c, O, d, rfl⟩, fun A' c' O' d' hv => ?_, Alt.of_new h3, fun b ⟨A', c', O', d', hv, hb⟩ => ?_⟩
    · obtain ⟨rfl, rfl, rfl, rfl⟩ := hV hv
      exact h2.lo_ (Nat.le_trans hlo hw.size)
    · obtain ⟨rfl, rfl, rfl, rfl⟩ := hV hv
      exact ⟨hb.elim (fun h => (h2.1.lt b h).2.2) (fun h => (h2.2.1.lt b h).2.2), .inl (hb.elim (fun h => (h2.1.lt b h).1) (fun h => (h2.2.1.lt b h).1))⟩) fun v hv => by
    obtain ⟨A, c, O, d, rfl⟩ := hv
    exact h A c O d
/-- A row of gates that has been stored, with two numbers and no outs, into a box of the region's own. -/
def Res.stG (lo : Nat) (x y : Int) (ng : Nat) (gs : List G3) : Res :=
  ⟨fun _ v => v = undef, fun ds _ w => ∀ A c b, ds = [.slice A ng c, .pointer (some ⟨b, 0, none⟩)] → BxC w b x y A ng c none 0 0 ∧ Fz w b ∧ b < w.heap.size ∧ OwnG w lo w.heap.size (.slice A ng c) ng gs ∧ (Value.slice A ng c).ownBlock ≠ some b,
    fun ds _ g => ∃ A c b, ds = [.slice A ng c, .pointer (some ⟨b, 0, none⟩)] ∧ (g = b ∨ (Value.slice A ng c).ownBlock = some g), fun _ => ⟨undef, rfl⟩,
    fun ds v w w' S h k hb A c b hv => by
      obtain ⟨h1, h2, h3, h4, h5⟩ := h A c b hv
      have hbS := (hb b ⟨A, c, b, hv, .inl rfl⟩).1
      exact ⟨h1.alt k hbS, h2.alt k h3 hbS, Nat.lt_of_lt_of_le h3 k.size, (h4.alt k fun g hg => (hb g ⟨A, c, b, hv, .inr hg⟩).1).now, h5⟩⟩
theorem mem_stG (d1 d2 lo : Nat) (x y : Int) (ng : Nat) (gs : List G3) (A : Option Addr) (c b : Nat) {P : Program}
    (hr : resAt rs k = Res.stG lo x y ng gs) (he : effB sk k = true) (h1 : resAt rs d1 = Res.rowG lo ng gs) (h2 : resAt rs d2 = Res.box [.int .i64 0, .int .i64 0, .slice none 0 0, .slice none 0 0]) (hdp : depsL sk k = [d1, d2]) (hcn : consL sk k = [d1, d2]) (hne : d1 ≠ d2) (hρ1 : ρ d1 = .slice A ng c) (hρ2 : ρ d2 = .pointer (some ⟨b, 0, none⟩))
    (hx : ∀ w, Alt (okB W own) W w → CellsL w cs → BxC w b 0 0 none 0 0 none 0 0 → Fz w b → sepAt P o a (postSet undef ((((w.setCell ⟨b, 0, none⟩ (.int .i64 x)).setCell ⟨b, 1, none⟩ (.int .i64 y)).setCell ⟨b, 2, none⟩ (.slice A ng c)).setCell ⟨b, 3, none⟩ (.slice none 0 0))) w)
    (h : wpSep (mkSep W own cs sk ini fi rs) P ops L (k + 1) rest (a.put o.dst undef) (upd ρ k undef)) (hw : Region.wanted o (yielded ops a.tmps) = true := by first | exact wanted_none rfl | exact wanted_some rfl rfl rfl rfl) : wpSep (mkSep W own cs sk ini fi rs) P ops L k (o :: rest) a ρ :=
  mem_eff (hw := hw) _ hr he (fun w hw hc hp => by
    have hd1 : d1 ∈ depsL sk k := by rw [hdp]; simp
    have hd2 : d2 ∈ depsL sk k := by rw [hdp]; simp
    have q1 := has_dep hd1 hp hρ1 h1
    have q2 := has_dep hd2 hp hρ2 h2
    have hO : OwnG w lo w.heap.size (.slice A ng c) ng gs := q1.1
    obtain ⟨hbl, hcl, hfz⟩ := q2.1 b rfl
    have hap : ∀ g, (Value.slice A ng c).ownBlock = some g → g ≠ b := fun g hg hgb => by
      subst hgb
      have := hp.2 d1 hd1 d2 hd2 hne g (show (resAt rs d1).blk ((depsL sk d1).map ρ) (ρ d1) g by rw [h1, hρ1]; exact hg)
      exact this (show (resAt rs d2).blk ((depsL sk d2).map ρ) (ρ d2) g by rw [h2, hρ2]; exact rfl)
    have hz : BxC w b 0 0 none 0 0 none 0 0 := ⟨hcl.1, hcl.2.1, hcl.2.2.1, hcl.2.2.2.1⟩
    have hin : ∀ {g : Nat}, (g = b ∨ (Value.slice A ng c).ownBlock = some g) → (mkSep W own cs sk ini fi rs).hit k ρ g := fun {g} hg => by
      rcases hg with hg | hg
      · subst hg
        exact ⟨d2, by show d2 ∈ consL sk k; rw [hcn]; simp, show (resAt rs d2).blk ((depsL sk d2).map ρ) (ρ d2) g by rw [h2, hρ2]; exact rfl⟩
      · exact ⟨d1, by show d1 ∈ consL sk k; rw [hcn]; simp, show (resAt rs d1).blk ((depsL sk d1).map ρ) (ρ d1) g by rw [h1, hρ1]; exact hg⟩
    have hds : (depsL sk k).map ρ = [.slice A ng c, .pointer (some ⟨b, 0, none⟩)] := by rw [hdp]; simp [hρ1, hρ2]
    refine sepAt_mono (hx w hw hc hz hfz) fun v w' ⟨e1, e2⟩ => ?_
    subst e1; subst e2
    have ka : Alt (fun i => i = b) w ((((w.setCell ⟨b, 0, none⟩ (.int .i64 x)).setCell ⟨b, 1, none⟩ (.int .i64 y)).setCell ⟨b, 2, none⟩ (.slice A ng c)).setCell ⟨b, 3, none⟩ (.slice none 0 0)) := alt_set4 (Alt.refl_ (fun i => i = b) w) (fun _ => rfl) x y A ng c none 0 0
    have hsz := set4_size (w := w) (b := b) x y A ng c none 0 0
    refine ⟨rfl, fun A' c' b' hv => ?_, ka.mono_ fun i _ hi => hin (.inl hi), fun g ⟨A', c', b', hv, hg⟩ => ?_⟩
    · rw [hds] at hv
      simp only [List.cons.injEq, Value.pointer.injEq, Option.some.injEq, Addr.mk.injEq, and_true, Value.slice.injEq, true_and] at hv
      obtain ⟨⟨rfl, rfl⟩, rfl⟩ := hv
      exact ⟨BxC.set4 hz x y A ng c none 0 0, (((hfz.set _ _).set _ _).set _ _).set _ _, by rw [hsz]; exact hbl, (hO.alt ka fun g hg => hap g hg).now, fun hc => hap b hc rfl⟩
    · rw [hds] at hv
      simp only [List.cons.injEq, Value.pointer.injEq, Option.some.injEq, Addr.mk.injEq, and_true, Value.slice.injEq, true_and] at hv
      obtain ⟨⟨rfl, rfl⟩, rfl⟩ := hv
      refine ⟨?_, .inr (hin hg)⟩
      rw [hsz]
      rcases hg with hg | hg
      · subst hg; exact hbl
      · exact (hO.lt g hg).2.2) fun v hv => by
    obtain rfl : v = undef := hv
    exact h
end
def tupV (ng no : Nat) (A : Option Addr) (c : Nat) (O : Option Addr) (d : Nat) : Value := .tuple #[.slice A ng c, .slice O no d]
theorem tupV_inj {ng no : Nat} {A A' : Option Addr} {c c' : Nat} {O O' : Option Addr} {d d' : Nat} (h : tupV ng no A c O d = tupV ng no A' c' O' d') : A = A' ∧ c = c' ∧ O = O' ∧ d = d' := by
  unfold tupV at h
  simpa [and_assoc] using h

/-- A row of numbers that is not empty: it has a place. -/
def Res.rowS (lo n : Nat) (xs : List Int) : Res :=
  ⟨fun _ v => ∃ g c, v = .slice (some ⟨g, 0, none⟩) n c, fun _ v w => Own w lo w.heap.size v n xs, fun _ v b => v.ownBlock = some b, fun _ => ⟨.slice (some ⟨0, 0, none⟩) n 0, 0, 0, rfl⟩, fun _ v w w' S h k hb => (h.alt k fun g hg => (hb g hg).1).now⟩
section
variable {P : Program} {W : World} {own : Nat → Prop} {cs : List (Addr × Value)} {sk : List (Nat × List Nat × List Nat)} {ini fi : List Nat} {rs : List (Nat × Res)} {ops : Array Oper} {L : Act → (Nat → Value) → Prop} {k : Nat} {o : Oper} {rest : List Oper} {a : Act} {ρ : Nat → Value}
theorem mem_rowS (lo n : Nat) (xs : List Int) (hr : resAt rs k = Res.rowS lo n xs) (he : effB sk k = true) (hlo : lo ≤ W.heap.size) (hn : 0 < n) (hx : ∀ w, Alt (okB W own) W w → CellsL w cs → (mkSep W own cs sk ini fi rs).pre k ρ w → sepAt P o a (postRow w n xs) w)
    (h : ∀ g c, wpSep (mkSep W own cs sk ini fi rs) P ops L (k + 1) rest (a.put o.dst (.slice (some ⟨g, 0, none⟩) n c)) (upd ρ k (.slice (some ⟨g, 0, none⟩) n c))) (hw : Region.wanted o (yielded ops a.tmps) = true := by first | exact wanted_none rfl | exact wanted_some rfl rfl rfl rfl) : wpSep (mkSep W own cs sk ini fi rs) P ops L k (o :: rest) a ρ :=
  mem_eff (hw := hw) _ hr he (fun w hw hc hp => sepAt_mono (hx w hw hc hp) fun v w' ⟨A, c, h1, h2, h3⟩ => by
    subst h1
    obtain ⟨g, rfl, _⟩ := h2.some_ hn
    exact ⟨⟨g, c, rfl⟩, h2.lo_ (Nat.le_trans hlo hw.size), Alt.of_new h3, fun b hb => ⟨(h2.lt b hb).2.2, .inl (h2.lt b hb).1⟩⟩) fun v hv => by
    obtain ⟨g, c, rfl⟩ := hv
    exact h g c
end

end Go.Proofs.Ytadgmbkpbgcdjaa
