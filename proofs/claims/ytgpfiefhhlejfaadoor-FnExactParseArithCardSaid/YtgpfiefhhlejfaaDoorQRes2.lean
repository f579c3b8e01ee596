/- Drawn regions, more kinds of operations: an append onto a row of the region's own; a callee that hands on a circuit's two rows. Lengths as the lemmas say. -/
import Derived.Test.YtgpfiefhhlejfaaDoorQRes
namespace Go.Proofs.YtgpfiefhhlejfaaDoor
open Go.RowKit
set_option linter.unusedVariables false
set_option linter.unusedSimpArgs false

section
variable {W : World} {own : Nat → Prop} {cs : List (Addr × Value)} {sk : List (Nat × List Nat × List Nat)} {ini fi : List Nat} {rs : List (Nat × Res)} {ops : Array Oper} {L : Act → (Nat → Value) → Prop} {k : Nat} {o : Oper} {rest : List Oper} {a : Act} {ρ : Nat → Value}
theorem hit_one {d : Nat} (hd : consL sk k = [d]) {v : Value} (hρ : ρ d = v) {r : Res} (hrd : resAt rs d = r) : (mkSep W own cs sk ini fi rs).hit k ρ = r.blk ((depsL sk d).map ρ) v := by
  subst hρ; subst hrd
  funext b; apply propext
  show (∃ d', d' ∈ consL sk k ∧ (resAt rs d').blk ((depsL sk d').map ρ) (ρ d') b) ↔ _
  rw [hd]; simp
theorem has_dep {d : Nat} {w : World} (hd : d ∈ depsL sk k) (hp : (mkSep W own cs sk ini fi rs).pre k ρ w) {v : Value} (hρ : ρ d = v) {r : Res} (hrd : resAt rs d = r) : r.R ((depsL sk d).map ρ) v w ∧ ∀ b, r.blk ((depsL sk d).map ρ) v b → okB W own b ∧ b < w.heap.size := by
  subst hρ; subst hrd
  exact Sep.hasAll_iff.1 hp.1 d hd
/-- An append of gates onto a row of the region's own. -/
theorem mem_appG (d lo n m : Nat) (xs ys : List G3) (A0 : Option Addr) (c0 : Nat) (A : Option Addr) (c : Nat) (s x : Operand) (hr : resAt rs k = Res.rowG lo (n + m) (xs ++ ys)) (he : effB sk k = true) (hlo : lo ≤ W.heap.size) (hrd : resAt rs d = Res.rowG lo n xs) (hd : consL sk k = [d]) (hdd : d ∈ depsL sk k) (hρ : ρ d = .slice A0 n c0)
    (ho : o.op = .call { callee := .builtin .append, args := #[s, x], argTypes := #[29, 29] }) (hs : a.eval s = .slice A0 n c0) (hx : a.eval x = .slice A m c)
    (hlen : n + m ≤ 8388608) (hread : ∀ w, Alt (okB W own) W w → CellsL w cs → (mkSep W own cs sk ini fi rs).pre k ρ w → RG w A m ys)
    (h : ∀ A' c', wpSep (mkSep W own cs sk ini fi rs) Tryd.prog ops L (k + 1) rest (a.put o.dst (.slice A' (n + m) c')) (upd ρ k (.slice A' (n + m) c'))) (hw : Region.wanted o (yielded ops a.tmps) = true := by first | exact wanted_none rfl | exact wanted_some rfl rfl rfl rfl) : wpSep (mkSep W own cs sk ini fi rs) Tryd.prog ops L k (o :: rest) a ρ :=
  mem_eff (hw := hw) _ hr he (fun w hw hc hp => by
    have h1 : OwnG w lo w.heap.size (.slice A0 n c0) n xs := (has_dep hdd hp hρ hrd).1
    have hh : (mkSep W own cs sk ini fi rs).hit k ρ = fun b => (Value.slice A0 n c0).ownBlock = some b := hit_one hd hρ hrd
    rw [hh]
    obtain ⟨A', c', w', hrun, h2, h3, h4, h5⟩ := run_appG w o.type lo w.heap.size n c0 m c A0 A xs ys h1 (hread w hw hc hp) hlen (Nat.le_trans hlo hw.size)
    unfold sepAt execOp
    simp only [ho, resolve, invoke, builtin, Sem.run_bind, Sem.run_pure, Result.andThen_ok, List.map_toArray, List.map_cons, List.map_nil, hs, hx, hrun]
    exact ⟨⟨A', c', rfl⟩, h2, Alt.of_grown h3 (fun i hi => hi), fun b hb => ⟨(h2.lt b hb).2.2, by
      rcases h4 with h4 | h4
      · exact .inr (h4 ▸ hb)
      · have hb' : (Value.slice A' (n + m) c').ownBlock = some b := hb
        rw [h4] at hb'; injection hb' with hb'
        exact .inl (by omega)⟩⟩) fun v hv => by
    obtain ⟨A', c', rfl⟩ := hv
    exact h A' c'
theorem mem_appI (d lo n m : Nat) (xs ys : List Int) (A0 : Option Addr) (c0 : Nat) (A : Option Addr) (c : Nat) (s x : Operand) (hr : resAt rs k = Res.row lo (n + m) (xs ++ ys)) (he : effB sk k = true) (hlo : lo ≤ W.heap.size) (hrd : resAt rs d = Res.row lo n xs) (hd : consL sk k = [d]) (hdd : d ∈ depsL sk k) (hρ : ρ d = .slice A0 n c0)
    (ho : o.op = .call { callee := .builtin .append, args := #[s, x], argTypes := #[23, 23] }) (hs : a.eval s = .slice A0 n c0) (hx : a.eval x = .slice A m c)
    (hlen : n + m ≤ 8388608) (hread : ∀ w, Alt (okB W own) W w → CellsL w cs → (mkSep W own cs sk ini fi rs).pre k ρ w → RI w A m ys)
    (h : ∀ A' c', wpSep (mkSep W own cs sk ini fi rs) Tryd.prog ops L (k + 1) rest (a.put o.dst (.slice A' (n + m) c')) (upd ρ k (.slice A' (n + m) c'))) (hw : Region.wanted o (yielded ops a.tmps) = true := by first | exact wanted_none rfl | exact wanted_some rfl rfl rfl rfl) : wpSep (mkSep W own cs sk ini fi rs) Tryd.prog ops L k (o :: rest) a ρ :=
  mem_eff (hw := hw) _ hr he (fun w hw hc hp => by
    have h1 : Own w lo w.heap.size (.slice A0 n c0) n xs := (has_dep hdd hp hρ hrd).1
    have hh : (mkSep W own cs sk ini fi rs).hit k ρ = fun b => (Value.slice A0 n c0).ownBlock = some b := hit_one hd hρ hrd
    rw [hh]
    obtain ⟨A', c', w', hrun, h2, h3, h4, h5⟩ := run_appI w o.type lo w.heap.size n c0 m c A0 A xs ys h1 (hread w hw hc hp) hlen (Nat.le_trans hlo hw.size)
    unfold sepAt execOp
    simp only [ho, resolve, invoke, builtin, Sem.run_bind, Sem.run_pure, Result.andThen_ok, List.map_toArray, List.map_cons, List.map_nil, hs, hx, hrun]
    exact ⟨⟨A', c', rfl⟩, h2, Alt.of_grown h3 (fun i hi => hi), fun b hb => ⟨(h2.lt b hb).2.2, by
      rcases h4 with h4 | h4
      · exact .inr (h4 ▸ hb)
      · have hb' : (Value.slice A' (n + m) c').ownBlock = some b := hb
        rw [h4] at hb'; injection hb' with hb'
        exact .inl (by omega)⟩⟩) fun v hv => by
    obtain ⟨A', c', rfl⟩ := hv
    exact h A' c'
end
/-- The value of a circuit and a bool. -/
def circV (x y : Int) (A : Option Addr) (ng c : Nat) (O : Option Addr) (no d : Nat) (tb : Bool) : Value := .tuple #[.agg #[.int .i64 x, .int .i64 y, .slice A ng c, .slice O no d], .bool tb]
theorem circV_inj {x y : Int} {A A' : Option Addr} {ng c c' : Nat} {O O' : Option Addr} {no d d' : Nat} {tb : Bool} (h : circV x y A ng c O no d tb = circV x y A' ng c' O' no d' tb) : A = A' ∧ c = c' ∧ O = O' ∧ d = d' := by
  unfold circV at h
  simpa [and_assoc] using h
/-- The two rows of a circuit, in a tuple with a bool. -/
def Res.circ (lo : Nat) (x y : Int) (ng no : Nat) (gs : List G3) (os : List Int) (tb : Bool) : Res :=
  ⟨fun _ v => ∃ A c O d, v = circV x y A ng c O no d tb, fun _ v w => ∀ A c O d, v = circV x y A ng c O no d tb → OwnC w lo w.heap.size A ng c O no d gs os,
    fun _ v b => ∃ A c O d, v = circV x y A ng c O no d tb ∧ ((Value.slice A ng c).ownBlock = some b ∨ (Value.slice O no d).ownBlock = some b), fun _ => ⟨circV x y none ng 0 none no 0 tb, none, 0, none, 0, rfl⟩,
    fun _ v w w' S h k hb A c O d hv => by
      have h1 := h A c O d hv
      exact ⟨(h1.1.alt k fun g hg => (hb g ⟨A, c, O, d, hv, .inl hg⟩).1).now, (h1.2.1.alt k fun g hg => (hb g ⟨A, c, O, d, hv, .inr hg⟩).1).now, h1.2.2⟩⟩
section
variable {P : Program} {W : World} {own : Nat → Prop} {cs : List (Addr × Value)} {sk : List (Nat × List Nat × List Nat)} {ini fi : List Nat} {rs : List (Nat × Res)} {ops : Array Oper} {L : Act → (Nat → Value) → Prop} {k : Nat} {o : Oper} {rest : List Oper} {a : Act} {ρ : Nat → Value}
def postIs (w : World) (u v : Value) (w' : World) : Prop := v = u ∧ Below w.heap.size w w'
theorem postIs.mk_ {w w' : World} {u : Value} (hb : Below w.heap.size w w') : postIs w u u w' := ⟨rfl, hb⟩
/-- A callee that hands on two rows of the region's own as a circuit. -/
theorem mem_circ (d1 d2 lo : Nat) (x y : Int) (ng no : Nat) (gs : List G3) (os : List Int) (tb : Bool) (A : Option Addr) (c : Nat) (O : Option Addr) (d : Nat) (hr : resAt rs k = Res.circ lo x y ng no gs os tb) (he : effB sk k = true) (h1 : resAt rs d1 = Res.rowG lo ng gs) (h2 : resAt rs d2 = Res.row lo no os) (hd : consL sk k = [d1, d2]) (hd1 : d1 ∈ depsL sk k) (hd2 : d2 ∈ depsL sk k) (hne : d1 ≠ d2) (hρ1 : ρ d1 = .slice A ng c) (hρ2 : ρ d2 = .slice O no d)
    (hx : ∀ w, Alt (okB W own) W w → CellsL w cs → (mkSep W own cs sk ini fi rs).pre k ρ w → OwnC w lo w.heap.size A ng c O no d gs os → sepAt P o a (postIs w (circV x y A ng c O no d tb)) w)
    (h' : ∀ A c O d, wpSep (mkSep W own cs sk ini fi rs) P ops L (k + 1) rest (a.put o.dst (circV x y A ng c O no d tb)) (upd ρ k (circV x y A ng c O no d tb))) (hw : Region.wanted o (yielded ops a.tmps) = true := by first | exact wanted_none rfl | exact wanted_some rfl rfl rfl rfl) : wpSep (mkSep W own cs sk ini fi rs) P ops L k (o :: rest) a ρ :=
  mem_eff (hw := hw) _ hr he (fun w hw hc hp => by
    have q1 := has_dep hd1 hp hρ1 h1
    have q2 := has_dep hd2 hp hρ2 h2
    have ha : Apart (.slice A ng c) (.slice O no d) := fun g e1 e2 => by
      have := hp.2 d1 hd1 d2 hd2 hne g (show (resAt rs d1).blk ((depsL sk d1).map ρ) (ρ d1) g by rw [h1, hρ1]; exact e1)
      exact this (show (resAt rs d2).blk ((depsL sk d2).map ρ) (ρ d2) g by rw [h2, hρ2]; exact e2)
    have hO : OwnC w lo w.heap.size A ng c O no d gs os := ⟨q1.1, q2.1, ha⟩
    refine sepAt_mono (hx w hw hc hp hO) fun v w' ⟨e1, e2⟩ => ?_
    subst e1
    have hin : ∀ {b : Nat}, ((Value.slice A ng c).ownBlock = some b ∨ (Value.slice O no d).ownBlock = some b) → (mkSep W own cs sk ini fi rs).hit k ρ b := fun {b} hb => by
      rcases hb with hb | hb
      · exact ⟨d1, by show d1 ∈ consL sk k; rw [hd]; simp, show (resAt rs d1).blk ((depsL sk d1).map ρ) (ρ d1) b by rw [h1, hρ1]; exact hb⟩
      · exact ⟨d2, by show d2 ∈ consL sk k; rw [hd]; simp, show (resAt rs d2).blk ((depsL sk d2).map ρ) (ρ d2) b by rw [h2, hρ2]; exact hb⟩
    have hsz := e2.size
    refine ⟨⟨A, c, O, d, rfl⟩, fun A' c' O' d' hv => ?_, Alt.of_new e2, fun b ⟨A', c', O', d', hv, hb⟩ => ?_⟩
    · obtain ⟨rfl, rfl, rfl, rfl⟩ := circV_inj hv
      exact (hO.below e2 (.inl (Nat.le_refl _))).hi_ hsz
    · obtain ⟨rfl, rfl, rfl, rfl⟩ := circV_inj hv
      exact ⟨Nat.lt_of_lt_of_le (hb.elim (fun h => (hO.1.lt b h).2.2) (fun h => (hO.2.1.lt b h).2.2)) hsz, .inr (hin hb)⟩) fun v hv => by
    obtain ⟨A, c, O, d, rfl⟩ := hv
    exact h' A c O d
end

/-- A circuit by value. -/
def aggV (x y : Int) (A : Option Addr) (ng c : Nat) (O : Option Addr) (no d : Nat) : Value := .agg #[.int .i64 x, .int .i64 y, .slice A ng c, .slice O no d]
theorem aggV_inj {x y : Int} {A A' : Option Addr} {ng c c' : Nat} {O O' : Option Addr} {no d d' : Nat} (h : aggV x y A ng c O no d = aggV x y A' ng c' O' no d') : A = A' ∧ c = c' ∧ O = O' ∧ d = d' := by
  unfold aggV at h
  simpa [and_assoc] using h
def Res.aggC (lo : Nat) (x y : Int) (ng no : Nat) (gs : List G3) (os : List Int) : Res :=
  ⟨fun _ v => ∃ A c O d, v = aggV x y A ng c O no d, fun _ v w => ∀ A c O d, v = aggV x y A ng c O no d → OwnC w lo w.heap.size A ng c O no d gs os,
    fun _ v b => ∃ A c O d, v = aggV x y A ng c O no d ∧ ((Value.slice A ng c).ownBlock = some b ∨ (Value.slice O no d).ownBlock = some b), fun _ => ⟨aggV x y none ng 0 none no 0, none, 0, none, 0, rfl⟩,
    fun _ v w w' S h k hb A c O d hv => by
      have h1 := h A c O d hv
      exact ⟨(h1.1.alt k fun g hg => (hb g ⟨A, c, O, d, hv, .inl hg⟩).1).now, (h1.2.1.alt k fun g hg => (hb g ⟨A, c, O, d, hv, .inr hg⟩).1).now, h1.2.2⟩⟩
section
variable {P : Program} {W : World} {own : Nat → Prop} {cs : List (Addr × Value)} {sk : List (Nat × List Nat × List Nat)} {ini fi : List Nat} {rs : List (Nat × Res)} {ops : Array Oper} {L : Act → (Nat → Value) → Prop} {k : Nat} {o : Oper} {rest : List Oper} {a : Act} {ρ : Nat → Value}
def postAgg (w : World) (x y : Int) (ng no : Nat) (gs : List G3) (os : List Int) (v : Value) (w' : World) : Prop := ∃ A c O d, v = aggV x y A ng c O no d ∧ OwnC w' w.heap.size w'.heap.size A ng c O no d gs os ∧ Below w.heap.size w w'
theorem postAgg.mk_ {w w' : World} {x y : Int} {ng no : Nat} {gs : List G3} {os : List Int} {A : Option Addr} {c : Nat} {O : Option Addr} {d : Nat} (h : OwnC w' w.heap.size w'.heap.size A ng c O no d gs os) (hb : Below w.heap.size w w') : postAgg w x y ng no gs os (.agg #[.int .i64 x, .int .i64 y, .slice A ng c, .slice O no d]) w' := ⟨A, c, O, d, rfl, h, hb⟩
def postCirc (w : World) (x y : Int) (ng no : Nat) (gs : List G3) (os : List Int) (tb : Bool) (v : Value) (w' : World) : Prop := ∃ A c O d, v = circV x y A ng c O no d tb ∧ OwnC w' w.heap.size w'.heap.size A ng c O no d gs os ∧ Below w.heap.size w w'
theorem postCirc.mk_ {w w' : World} {x y : Int} {ng no : Nat} {gs : List G3} {os : List Int} {tb : Bool} {A : Option Addr} {c : Nat} {O : Option Addr} {d : Nat} (h : OwnC w' w.heap.size w'.heap.size A ng c O no d gs os) (hb : Below w.heap.size w w') : postCirc w x y ng no gs os tb (.tuple #[.agg #[.int .i64 x, .int .i64 y, .slice A ng c, .slice O no d], .bool tb]) w' := ⟨A, c, O, d, rfl, h, hb⟩
/-- A callee that returns a new circuit by value. -/
theorem mem_agg (lo : Nat) (x y : Int) (ng no : Nat) (gs : List G3) (os : List Int) (hr : resAt rs k = Res.aggC lo x y ng no gs os) (he : effB sk k = true) (hlo : lo ≤ W.heap.size)
    (hx : ∀ w, Alt (okB W own) W w → CellsL w cs → (mkSep W own cs sk ini fi rs).pre k ρ w → sepAt P o a (postAgg w x y ng no gs os) w)
    (h : ∀ A c O d, wpSep (mkSep W own cs sk ini fi rs) P ops L (k + 1) rest (a.put o.dst (aggV x y A ng c O no d)) (upd ρ k (aggV x y A ng c O no d))) (hw : Region.wanted o (yielded ops a.tmps) = true := by first | exact wanted_none rfl | exact wanted_some rfl rfl rfl rfl) : wpSep (mkSep W own cs sk ini fi rs) P ops L k (o :: rest) a ρ :=
  mem_eff (hw := hw) _ hr he (fun w hw hc hp => sepAt_mono (hx w hw hc hp) fun v w' ⟨A, c, O, d, h1, h2, h3⟩ => by
    subst h1
    refine ⟨⟨A, c, O, d, rfl⟩, fun A' c' O' d' hv => ?_, Alt.of_new h3, fun b ⟨A', c', O', d', hv, hb⟩ => ?_⟩
    · obtain ⟨rfl, rfl, rfl, rfl⟩ := aggV_inj hv
      exact h2.lo_ (Nat.le_trans hlo hw.size)
    · obtain ⟨rfl, rfl, rfl, rfl⟩ := aggV_inj hv
      exact ⟨hb.elim (fun h => (h2.1.lt b h).2.2) (fun h => (h2.2.1.lt b h).2.2), .inl (hb.elim (fun h => (h2.1.lt b h).1) (fun h => (h2.2.1.lt b h).1))⟩) fun v hv => by
    obtain ⟨A, c, O, d, rfl⟩ := hv
    exact h A c O d
/-- A callee that returns a new circuit and a bool. -/
theorem mem_circN (lo : Nat) (x y : Int) (ng no : Nat) (gs : List G3) (os : List Int) (tb : Bool) (hr : resAt rs k = Res.circ lo x y ng no gs os tb) (he : effB sk k = true) (hlo : lo ≤ W.heap.size)
    (hx : ∀ w, Alt (okB W own) W w → CellsL w cs → (mkSep W own cs sk ini fi rs).pre k ρ w → sepAt P o a (postCirc w x y ng no gs os tb) w)
    (h : ∀ A c O d, wpSep (mkSep W own cs sk ini fi rs) P ops L (k + 1) rest (a.put o.dst (circV x y A ng c O no d tb)) (upd ρ k (circV x y A ng c O no d tb))) (hw : Region.wanted o (yielded ops a.tmps) = true := by first | exact wanted_none rfl | exact wanted_some rfl rfl rfl rfl) : wpSep (mkSep W own cs sk ini fi rs) P ops L k (o :: rest) a ρ :=
  mem_eff (hw := hw) _ hr he (fun w hw hc hp => sepAt_mono (hx w hw hc hp) fun v w' ⟨A, c, O, d, h1, h2, h3⟩ => by
    subst h1
    refine ⟨⟨A, c, O, d, rfl⟩, fun A' c' O' d' hv => ?_, Alt.of_new h3, fun b ⟨A', c', O', d', hv, hb⟩ => ?_⟩
    · obtain ⟨rfl, rfl, rfl, rfl⟩ := circV_inj hv
      exact h2.lo_ (Nat.le_trans hlo hw.size)
    · obtain ⟨rfl, rfl, rfl, rfl⟩ := circV_inj hv
      exact ⟨hb.elim (fun h => (h2.1.lt b h).2.2) (fun h => (h2.2.1.lt b h).2.2), .inl (hb.elim (fun h => (h2.1.lt b h).1) (fun h => (h2.2.1.lt b h).1))⟩) fun v hv => by
    obtain ⟨A, c, O, d, rfl⟩ := hv
    exact h A c O d
end
theorem postBox.circ (w : World) (T) : postBox w [.int .i64 0, .int .i64 0, .slice none 0 0, .slice none 0 0] (.pointer (some ⟨w.heap.size, 0, none⟩)) (w.alloc (.cells #[.int .i64 0, .int .i64 0, .slice none 0 0, .slice none 0 0] T)) :=
  postBox.new w [.int .i64 0, .int .i64 0, .slice none 0 0, .slice none 0 0] T ⟨box_cell _ _ 0 _ rfl, box_cell _ _ 1 _ rfl, box_cell _ _ 2 _ rfl, box_cell _ _ 3 _ rfl, trivial⟩

/-- A circuit that has been stored into a box of the region's own. -/
def Res.stC (lo : Nat) (x y : Int) (ng no : Nat) (gs : List G3) (os : List Int) (V : Option Addr → Nat → Option Addr → Nat → Value) : Res :=
  ⟨fun _ v => v = undef, fun ds _ w => ∀ A c O d b, ds = [V A c O d, .pointer (some ⟨b, 0, none⟩)] → BxC w b x y A ng c O no d ∧ Fz w b ∧ b < w.heap.size ∧ OwnC w lo w.heap.size A ng c O no d gs os,
    fun ds _ g => ∃ A c O d b, ds = [V A c O d, .pointer (some ⟨b, 0, none⟩)] ∧ (g = b ∨ (Value.slice A ng c).ownBlock = some g ∨ (Value.slice O no d).ownBlock = some g), fun _ => ⟨undef, rfl⟩,
    fun ds v w w' S h k hb A c O d b hv => by
      obtain ⟨h1, h2, h3, h4⟩ := h A c O d b hv
      have hbS := (hb b ⟨A, c, O, d, b, hv, .inl rfl⟩).1
      exact ⟨h1.alt k hbS, h2.alt k h3 hbS, Nat.lt_of_lt_of_le h3 k.size, (h4.1.alt k fun g hg => (hb g ⟨A, c, O, d, b, hv, .inr (.inl hg)⟩).1).now, (h4.2.1.alt k fun g hg => (hb g ⟨A, c, O, d, b, hv, .inr (.inr hg)⟩).1).now, h4.2.2⟩⟩
def postSet (v0 : Value) (w0 : World) (v : Value) (w' : World) : Prop := v = v0 ∧ w' = w0
theorem postSet.mk_ (v : Value) (w : World) : postSet v w v w := ⟨rfl, rfl⟩
section
variable {P : Program} {W : World} {own : Nat → Prop} {cs : List (Addr × Value)} {sk : List (Nat × List Nat × List Nat)} {ini fi : List Nat} {rs : List (Nat × Res)} {ops : Array Oper} {L : Act → (Nat → Value) → Prop} {k : Nat} {o : Oper} {rest : List Oper} {a : Act} {ρ : Nat → Value}
/-- The store of a circuit that a callee has made into a new box. -/
theorem mem_stC (d1 d2 lo : Nat) (x y : Int) (ng no : Nat) (gs : List G3) (os : List Int) (V : Option Addr → Nat → Option Addr → Nat → Value) (r1 : Res) (A : Option Addr) (c : Nat) (O : Option Addr) (d b : Nat)
    (hr : resAt rs k = Res.stC lo x y ng no gs os V) (he : effB sk k = true) (h1 : resAt rs d1 = r1) (h2 : resAt rs d2 = Res.box [.int .i64 0, .int .i64 0, .slice none 0 0, .slice none 0 0]) (hdp : depsL sk k = [d1, d2]) (hcn : consL sk k = [d1, d2]) (hn1 : depsL sk d1 = depsL sk d1) (hne : d1 ≠ d2) (hρ1 : ρ d1 = V A c O d) (hρ2 : ρ d2 = .pointer (some ⟨b, 0, none⟩))
    (hV : ∀ {A A' : Option Addr} {c c' : Nat} {O O' : Option Addr} {d d' : Nat}, V A c O d = V A' c' O' d' → A = A' ∧ c = c' ∧ O = O' ∧ d = d')
    (hR : ∀ ds w, r1.R ds (V A c O d) w → OwnC w lo w.heap.size A ng c O no d gs os) (hB : ∀ ds g, ((Value.slice A ng c).ownBlock = some g ∨ (Value.slice O no d).ownBlock = some g) → r1.blk ds (V A c O d) g)
    (hx : ∀ w, Alt (okB W own) W w → CellsL w cs → BxC w b 0 0 none 0 0 none 0 0 → Fz w b → sepAt P o a (postSet undef ((((w.setCell ⟨b, 0, none⟩ (.int .i64 x)).setCell ⟨b, 1, none⟩ (.int .i64 y)).setCell ⟨b, 2, none⟩ (.slice A ng c)).setCell ⟨b, 3, none⟩ (.slice O no d))) w)
    (h : wpSep (mkSep W own cs sk ini fi rs) P ops L (k + 1) rest (a.put o.dst undef) (upd ρ k undef)) (hw : Region.wanted o (yielded ops a.tmps) = true := by first | exact wanted_none rfl | exact wanted_some rfl rfl rfl rfl) : wpSep (mkSep W own cs sk ini fi rs) P ops L k (o :: rest) a ρ :=
  mem_eff (hw := hw) _ hr he (fun w hw hc hp => by
    have hd1 : d1 ∈ depsL sk k := by rw [hdp]; simp
    have hd2 : d2 ∈ depsL sk k := by rw [hdp]; simp
    have q1 := has_dep hd1 hp hρ1 h1
    have q2 := has_dep hd2 hp hρ2 h2
    have hO := hR _ w q1.1
    obtain ⟨hbl, hcl, hfz⟩ := q2.1 b rfl
    have hap : ∀ g, ((Value.slice A ng c).ownBlock = some g ∨ (Value.slice O no d).ownBlock = some g) → g ≠ b := fun g hg hgb => by
      subst hgb
      have := hp.2 d1 hd1 d2 hd2 hne g (show (resAt rs d1).blk ((depsL sk d1).map ρ) (ρ d1) g by rw [h1, hρ1]; exact hB _ g hg)
      exact this (show (resAt rs d2).blk ((depsL sk d2).map ρ) (ρ d2) g by rw [h2, hρ2]; exact rfl)
    have hz : BxC w b 0 0 none 0 0 none 0 0 := ⟨hcl.1, hcl.2.1, hcl.2.2.1, hcl.2.2.2.1⟩
    have hin : ∀ {g : Nat}, (g = b ∨ (Value.slice A ng c).ownBlock = some g ∨ (Value.slice O no d).ownBlock = some g) → (mkSep W own cs sk ini fi rs).hit k ρ g := fun {g} hg => by
      rcases hg with hg | hg
      · subst hg
        exact ⟨d2, by show d2 ∈ consL sk k; rw [hcn]; simp, show (resAt rs d2).blk ((depsL sk d2).map ρ) (ρ d2) g by rw [h2, hρ2]; exact rfl⟩
      · exact ⟨d1, by show d1 ∈ consL sk k; rw [hcn]; simp, show (resAt rs d1).blk ((depsL sk d1).map ρ) (ρ d1) g by rw [h1, hρ1]; exact hB _ g hg⟩
    have hds : (depsL sk k).map ρ = [V A c O d, .pointer (some ⟨b, 0, none⟩)] := by rw [hdp]; simp [hρ1, hρ2]
    refine sepAt_mono (hx w hw hc hz hfz) fun v w' ⟨e1, e2⟩ => ?_
    subst e1; subst e2
    have ka : Alt (fun i => i = b) w ((((w.setCell ⟨b, 0, none⟩ (.int .i64 x)).setCell ⟨b, 1, none⟩ (.int .i64 y)).setCell ⟨b, 2, none⟩ (.slice A ng c)).setCell ⟨b, 3, none⟩ (.slice O no d)) := alt_set4 (Alt.refl_ (fun i => i = b) w) (fun _ => rfl) x y A ng c O no d
    have hsz := set4_size (w := w) (b := b) x y A ng c O no d
    refine ⟨rfl, fun A' c' O' d' b' hv => ?_, ka.mono_ fun i _ hi => hin (.inl hi), fun g ⟨A', c', O', d', b', hv, hg⟩ => ?_⟩
    · rw [hds] at hv
      simp only [List.cons.injEq, Value.pointer.injEq, Option.some.injEq, Addr.mk.injEq, and_true] at hv
      obtain ⟨hv1, rfl⟩ := hv
      obtain ⟨rfl, rfl, rfl, rfl⟩ := hV hv1
      refine ⟨BxC.set4 hz x y A ng c O no d, (((hfz.set _ _).set _ _).set _ _).set _ _, by rw [hsz]; exact hbl, ?_⟩
      exact ⟨(hO.1.alt ka fun g hg => hap g (.inl hg)).now, (hO.2.1.alt ka fun g hg => hap g (.inr hg)).now, hO.2.2⟩
    · rw [hds] at hv
      simp only [List.cons.injEq, Value.pointer.injEq, Option.some.injEq, Addr.mk.injEq, and_true] at hv
      obtain ⟨hv1, rfl⟩ := hv
      obtain ⟨rfl, rfl, rfl, rfl⟩ := hV hv1
      refine ⟨?_, .inr (hin hg)⟩
      rw [hsz]
      rcases hg with hg | hg | hg
      · subst hg; exact hbl
      · exact (hO.1.lt g hg).2.2
      · exact (hO.2.1.lt g hg).2.2) fun v hv => by
    obtain rfl : v = undef := hv
    exact h
end

end Go.Proofs.YtgpfiefhhlejfaaDoor
