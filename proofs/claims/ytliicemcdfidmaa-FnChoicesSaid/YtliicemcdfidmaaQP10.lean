/- What the operations of a drawn region leave (plain values, rows of numbers and of gates, boxes), and the steps of its walk. No condition. Drawn regions, more kinds of operations: an append onto a row of the region's own; a callee that hands on a circuit's two rows. Lengths as the lemmas say. A circuit in the making in a box of a call's own: what its stores and appends leave. No condition. The reader of choices in a drawn region: each choice takes the reader over from the one before. No condition. Drawn widths and numbers: a small number comes back. Drawn regions, more kinds of operations: a new row of gates; an append onto an empty one; two rows in one value; a store of one row into a box of the region's own. Lengths as the lemmas say. -/
import Derived.Test.YtliicemcdfidmaaQP09
import Derived.Test.YtliicemcdfidmaaQP08
import Derived.Test.YtliicemcdfidmaaQP04
namespace Go.Proofs.Ytliicemcdfidmaa
open Go.RowKit
set_option linter.unusedVariables false
set_option linter.unusedSimpArgs false
structure Res where
  vals : List Value → Value → Prop
  R : List Value → Value → World → Prop
  blk : List Value → Value → Nat → Prop
  inh : ∀ ds, ∃ v, vals ds v
  st : ∀ ds v w w' S, R ds v w → Alt S w w' → (∀ b, blk ds v b → ¬ S b ∧ b < w.heap.size) → R ds v w'
def Res.plain (u : Value) : Res := ⟨fun _ v => v = u, fun _ _ _ => True, fun _ _ _ => False, fun _ => ⟨u, rfl⟩, fun _ _ _ _ _ _ _ _ => trivial⟩
def Res.row (lo n : Nat) (xs : List Int) : Res :=
  ⟨fun _ v => ∃ A c, v = .slice A n c, fun _ v w => Own w lo w.heap.size v n xs, fun _ v b => v.ownBlock = some b, fun _ => ⟨.slice none n 0, none, 0, rfl⟩, fun _ v w w' S h k hb => (h.alt k fun g hg => (hb g hg).1).now⟩
def Res.rowG (lo n : Nat) (xs : List G3) : Res :=
  ⟨fun _ v => ∃ A c, v = .slice A n c, fun _ v w => OwnG w lo w.heap.size v n xs, fun _ v b => v.ownBlock = some b, fun _ => ⟨.slice none n 0, none, 0, rfl⟩, fun _ v w w' S h k hb => (h.alt k fun g hg => (hb g hg).1).now⟩
def CellsAt (w : World) (b : Nat) : Nat → List Value → Prop
  | _, [] => True
  | o, v :: l => w.cell? ⟨b, o, none⟩ = some v ∧ CellsAt w b (o + 1) l
theorem CellsAt.alt {S : Nat → Prop} {w w' : World} {b : Nat} (k : Alt S w w') (hb : ¬ S b) : ∀ {o : Nat} {l : List Value}, CellsAt w b o l → CellsAt w' b o l
  | _, [], _ => trivial
  | o, v :: l, h => ⟨k.cell_ h.1 hb, CellsAt.alt k hb h.2⟩
def Res.box (cs : List Value) : Res :=
  ⟨fun _ v => ∃ b, v = .pointer (some ⟨b, 0, none⟩), fun _ v w => ∀ b, v = .pointer (some ⟨b, 0, none⟩) → b < w.heap.size ∧ CellsAt w b 0 cs ∧ Fz w b, fun _ v b => v = .pointer (some ⟨b, 0, none⟩), fun _ => ⟨.pointer (some ⟨0, 0, none⟩), 0, rfl⟩,
    fun _ v w w' S h k hb b hv => ⟨Nat.lt_of_lt_of_le (h b hv).1 k.size, (h b hv).2.1.alt k (hb b hv).1, (h b hv).2.2.alt k (hb b hv).2 (hb b hv).1⟩⟩
def resAt (rs : List (Nat × Res)) (k : Nat) : Res := ((rs.find? fun e => e.1 == k).map fun e => e.2).getD (Res.plain undef)
def okB (W : World) (own : Nat → Prop) : Nat → Prop := fun b => W.heap.size ≤ b ∨ own b
def CellsL (w : World) (cs : List (Addr × Value)) : Prop := ∀ q ∈ cs, w.cell? q.1 = some q.2
def mkSep (W : World) (own : Nat → Prop) (cs : List (Addr × Value)) (sk : List (Nat × List Nat × List Nat)) (ini fi : List Nat) (rs : List (Nat × Res)) : Sep where
  C w := Alt (okB W own) W w ∧ CellsL w cs
  Ok := okB W own
  sk := sk
  inits := ini
  fin := fi
  vals k := (resAt rs k).vals
  R k := (resAt rs k).R
  blk k := (resAt rs k).blk
theorem sepAt_mono {P : Program} {o : Oper} {a : Act} {post post' : Value → World → Prop} {w : World} (h : sepAt P o a post w) (hp : ∀ v w', post v w' → post' v w') : sepAt P o a post' w := by
  unfold sepAt at *
  generalize (execOp a.eval o).run P w = r at *
  cases r with
  | ok n w' =>
    cases n <;> simp only [sepUpon] at h ⊢
    case value u => exact hp _ _ h
    case skip => exact hp _ _ h
    case enter f args => exact h.mono fun e w'' ⟨v, he, h9⟩ => ⟨v, he, hp _ _ h9⟩
  | halt x w' => simp only [sepUpon] at h
section
variable {P : Program} {W : World} {own : Nat → Prop} {cs : List (Addr × Value)} {sk : List (Nat × List Nat × List Nat)} {ini fi : List Nat} {rs : List (Nat × Res)} {ops : Array Oper} {L : Act → (Nat → Value) → Prop} {k : Nat} {o : Oper} {rest : List Oper} {a : Act} {ρ : Nat → Value}
theorem firm_mk (hcs : ∀ q ∈ cs, ¬ own q.1.block ∧ q.1.block < W.heap.size) : Firm (mkSep W own cs sk ini fi rs) where
  C w w' S h k hS := by
    refine ⟨h.1.trans_ k fun i _ hi => hS i hi, fun q hq => ?_⟩
    obtain ⟨h1, h2⟩ := hcs q hq
    refine k.cell_ (h.2 q hq) fun hb => ?_
    rcases hS _ hb with h3 | h3
    · omega
    · exact h1 h3
  new w b h hb := .inl (Nat.le_trans h.1.size hb)
  R k ds v w w' S _ h ka _ hb := (resAt rs k).st ds v w w' S h ka hb
  vals k := (resAt rs k).inh
theorem wp_region_mem (n : Nat) (own : Nat → Prop) (cs : List (Addr × Value)) (sk : List (Nat × List Nat × List Nat)) (ini fi : List Nat) (rs : List (Nat × Res)) (ρ0 : Nat → Value) {id : Nat} {Q : Exit → Act → World → Prop} {l : List Oper} {w : World}
    (hm : P.follows .mixedOrders = true) (hB : tailB .any l.toArray n = true) (hG : (goodB .any l.toArray sk ini fi && sk.all fun e => decide (e.1 < n)) = true) (hcs : CellsL w cs) (hown : ∀ q ∈ cs, ¬ own q.1.block)
    (hi : (mkSep w own cs sk ini fi rs).hasAll ρ0 (World.drew w) ini) (ha : (mkSep w own cs sk ini fi rs).apart ρ0 ini)
    (h : wpSep (mkSep w own cs sk ini fi rs) P l.toArray (fun a ρ => ∀ w', Alt (okB w own) w w' → CellsL w' cs → (mkSep w own cs sk ini fi rs).hasAll ρ w' fi → (mkSep w own cs sk ini fi rs).apart ρ fi → wpList P l.toArray Q (l.drop n) a w') 0 (l.take n) a ρ0) : (Code.region id l.toArray true).wp P Q a w :=
  wp_region_sep (mkSep w own cs sk ini fi rs) n ρ0 hm hB hG (firm_mk fun q hq => ⟨hown q hq, World.block_lt_of_cell? w _ (hcs q hq)⟩)
    ⟨(Alt.refl_ _ w).drewN_ 1, fun q hq => hcs q hq⟩ hi ha (by
      have key : ∀ (l' : List Oper) (k : Nat) (a : Act) (ρ : Nat → Value), wpSep (mkSep w own cs sk ini fi rs) P l.toArray (fun a ρ => ∀ w', Alt (okB w own) w w' → CellsL w' cs → (mkSep w own cs sk ini fi rs).hasAll ρ w' fi → (mkSep w own cs sk ini fi rs).apart ρ fi → wpList P l.toArray Q (l.drop n) a w') k l' a ρ →
          wpSep (mkSep w own cs sk ini fi rs) P l.toArray (fun a ρ => ∀ w', (mkSep w own cs sk ini fi rs).C w' → (mkSep w own cs sk ini fi rs).hasAll ρ w' fi → (mkSep w own cs sk ini fi rs).apart ρ fi → wpList P l.toArray Q (l.drop n) a w') k l' a ρ := by
        intro l'
        induction l' with
        | nil => intro k a ρ h w' hw h1 h2; exact h w' hw.1 hw.2 h1 h2
        | cons o l' ih => intro k a ρ h; exact sepNode_mono (fun a ρ => ih (k + 1) a ρ) h
      exact key _ _ _ _ h)
theorem wp_region_mem0 (n : Nat) (cs : List (Addr × Value)) (sk : List (Nat × List Nat × List Nat)) (fi : List Nat) (rs : List (Nat × Res)) {id : Nat} {Q : Exit → Act → World → Prop} {l : List Oper} {w : World}
    (hm : P.follows .mixedOrders = true) (hB : tailB .any l.toArray n = true) (hG : (goodB .any l.toArray sk [] fi && sk.all fun e => decide (e.1 < n)) = true) (hcs : CellsL w cs)
    (h : wpSep (mkSep w (fun _ => False) cs sk [] fi rs) P l.toArray (fun a ρ => ∀ w', Alt (okB w (fun _ => False)) w w' → CellsL w' cs → (mkSep w (fun _ => False) cs sk [] fi rs).hasAll ρ w' fi → (mkSep w (fun _ => False) cs sk [] fi rs).apart ρ fi → wpList P l.toArray Q (l.drop n) a w') 0 (l.take n) a (fun _ => undef)) : (Code.region id l.toArray true).wp P Q a w :=
  wp_region_mem n (fun _ => False) cs sk [] fi rs _ hm hB hG hcs (fun _ _ h => h) trivial (fun d hd => by cases hd) h
theorem alt_below {w : World} (h : Alt (okB W (fun _ => False)) W w) : Below W.heap.size W w := h.below_ (Nat.le_refl _) fun i hi hn => by rcases hn with h | h <;> first | omega | exact h
theorem wanted_none {f : Nat → Option Bool} (h : o.guard = none) : Region.wanted o f = true := by unfold Region.wanted; rw [h]
theorem wanted_some {l : List Oper} {ts : List Value} {g t : Nat} {want b : Bool} (hg : o.guard = some (g, want)) (ho : (l[g]?).bind (·.dst) = some t) (ht : ts[t]? = some (.bool b)) (hb : (b == want) = true) : Region.wanted o (yielded l.toArray ts.toArray) = true := by
  simp only [beq_iff_eq] at hb
  simp [Region.wanted, hg, yielded, ho, ht, hb]
theorem wanted_not {l : List Oper} {ts : List Value} {g t : Nat} {want b : Bool} (hg : o.guard = some (g, want)) (ho : (l[g]?).bind (·.dst) = some t) (ht : ts[t]? = some (.bool b)) (hb : (b == want) = false) : Region.wanted o (yielded l.toArray ts.toArray) = false := by
  simp only [beq_eq_false_iff_ne] at hb
  simp [Region.wanted, hg, yielded, ho, ht, hb]
theorem wpSep_end (h : L a ρ) : wpSep (mkSep W own cs sk ini fi rs) P ops L k [] a ρ := h
theorem mem_pure0 (he : effB sk k = false) (hg : o.guard = none) (h : ∀ K : Act → Prop, (∀ a, wpSep (mkSep W own cs sk ini fi rs) P ops L (k + 1) rest a ρ → K a) → ∃ v, (∀ w, CellsL w cs → pureAt P o a w v) ∧ K (a.put o.dst v)) : wpSep (mkSep W own cs sk ini fi rs) P ops L k (o :: rest) a ρ := by
  show sepNode _ _ _ _ _ _ _ _
  unfold sepNode
  rw [if_neg (by show ¬ effB sk k = true; rw [he]; simp), if_pos (wanted_none hg)]
  obtain ⟨v, h1, h2⟩ := h _ (fun _ h => h)
  exact ⟨v, fun w hw => h1 w hw.2, h2⟩
theorem mem_pure (he : effB sk k = false) (hw : Region.wanted o (yielded ops a.tmps) = true) (h : ∀ K : Act → Prop, (∀ a, wpSep (mkSep W own cs sk ini fi rs) P ops L (k + 1) rest a ρ → K a) → ∃ v, (∀ w, CellsL w cs → pureAt P o a w v) ∧ K (a.put o.dst v)) : wpSep (mkSep W own cs sk ini fi rs) P ops L k (o :: rest) a ρ := by
  show sepNode _ _ _ _ _ _ _ _
  unfold sepNode
  rw [if_neg (by show ¬ effB sk k = true; rw [he]; simp), if_pos hw]
  obtain ⟨v, h1, h2⟩ := h _ (fun _ h => h)
  exact ⟨v, fun w hw => h1 w hw.2, h2⟩
theorem mem_skip (he : effB sk k = false) (hw : Region.wanted o (yielded ops a.tmps) = false) (h : wpSep (mkSep W own cs sk ini fi rs) P ops L (k + 1) rest (a.put o.dst undef) ρ) : wpSep (mkSep W own cs sk ini fi rs) P ops L k (o :: rest) a ρ := by
  show sepNode _ _ _ _ _ _ _ _
  unfold sepNode
  rw [if_neg (by show ¬ effB sk k = true; rw [he]; simp), if_neg (by rw [hw]; simp)]
  exact h
theorem mem_eff (r : Res) (hr : resAt rs k = r) (he : effB sk k = true)
    (hx : ∀ w, Alt (okB W own) W w → CellsL w cs → (mkSep W own cs sk ini fi rs).pre k ρ w → sepAt P o a (fun v w' => r.vals ((depsL sk k).map ρ) v ∧ r.R ((depsL sk k).map ρ) v w' ∧ Alt ((mkSep W own cs sk ini fi rs).hit k ρ) w w' ∧ ∀ b, r.blk ((depsL sk k).map ρ) v b → b < w'.heap.size ∧ (w.heap.size ≤ b ∨ (mkSep W own cs sk ini fi rs).hit k ρ b)) w)
    (h : ∀ v, r.vals ((depsL sk k).map ρ) v → wpSep (mkSep W own cs sk ini fi rs) P ops L (k + 1) rest (a.put o.dst v) (upd ρ k v)) (hw : Region.wanted o (yielded ops a.tmps) = true := by first | exact wanted_none rfl | exact wanted_some rfl rfl rfl rfl) : wpSep (mkSep W own cs sk ini fi rs) P ops L k (o :: rest) a ρ := by
  subst hr
  show sepNode _ _ _ _ _ _ _ _
  unfold sepNode
  have he' : effB (mkSep W own cs sk ini fi rs).sk k = true := he
  rw [if_pos he']
  exact ⟨hw, fun w hw hp => sepAt_mono (hx w hw.1 hw.2 hp) fun v w' h => h, fun v hv => h v hv⟩
def postPlain (w : World) (u v : Value) (w' : World) : Prop := v = u ∧ Below w.heap.size w w'
def postRow (w : World) (n : Nat) (xs : List Int) (v : Value) (w' : World) : Prop := ∃ A c, v = .slice A n c ∧ Own w' w.heap.size w'.heap.size (.slice A n c) n xs ∧ Below w.heap.size w w'
def postRowG (w : World) (n : Nat) (xs : List G3) (v : Value) (w' : World) : Prop := ∃ A c, v = .slice A n c ∧ OwnG w' w.heap.size w'.heap.size (.slice A n c) n xs ∧ Below w.heap.size w w'
def postBox (w : World) (cs : List Value) (v : Value) (w' : World) : Prop := ∃ b, v = .pointer (some ⟨b, 0, none⟩) ∧ w.heap.size ≤ b ∧ b < w'.heap.size ∧ CellsAt w' b 0 cs ∧ Fz w' b ∧ Below w.heap.size w w'
theorem mem_plain (u : Value) (hr : resAt rs k = Res.plain u) (he : effB sk k = true) (hx : ∀ w, Alt (okB W own) W w → CellsL w cs → (mkSep W own cs sk ini fi rs).pre k ρ w → sepAt P o a (postPlain w u) w)
    (h : wpSep (mkSep W own cs sk ini fi rs) P ops L (k + 1) rest (a.put o.dst u) (upd ρ k u)) (hw : Region.wanted o (yielded ops a.tmps) = true := by first | exact wanted_none rfl | exact wanted_some rfl rfl rfl rfl) : wpSep (mkSep W own cs sk ini fi rs) P ops L k (o :: rest) a ρ :=
  mem_eff (hw := hw) _ hr he (fun w hw hc hp => sepAt_mono (hx w hw hc hp) fun v w' ⟨h1, h2⟩ => ⟨h1, trivial, Alt.of_new h2, fun b hb => hb.elim⟩) fun v hv => by
    obtain rfl : v = u := hv
    exact h
theorem mem_row (lo n : Nat) (xs : List Int) (hr : resAt rs k = Res.row lo n xs) (he : effB sk k = true) (hlo : lo ≤ W.heap.size) (hx : ∀ w, Alt (okB W own) W w → CellsL w cs → (mkSep W own cs sk ini fi rs).pre k ρ w → sepAt P o a (postRow w n xs) w)
    (h : ∀ A c, wpSep (mkSep W own cs sk ini fi rs) P ops L (k + 1) rest (a.put o.dst (.slice A n c)) (upd ρ k (.slice A n c))) (hw : Region.wanted o (yielded ops a.tmps) = true := by first | exact wanted_none rfl | exact wanted_some rfl rfl rfl rfl) : wpSep (mkSep W own cs sk ini fi rs) P ops L k (o :: rest) a ρ :=
  mem_eff (hw := hw) _ hr he (fun w hw hc hp => sepAt_mono (hx w hw hc hp) fun v w' ⟨A, c, h1, h2, h3⟩ => by
    subst h1
    exact ⟨⟨A, c, rfl⟩, h2.lo_ (Nat.le_trans hlo hw.size), Alt.of_new h3, fun b hb => ⟨(h2.lt b hb).2.2, .inl (h2.lt b hb).1⟩⟩) fun v hv => by
    obtain ⟨A, c, rfl⟩ := hv
    exact h A c
end
theorem postBox.new (w : World) (vs : List Value) (T) (h : CellsAt (w.alloc (.cells vs.toArray T)) w.heap.size 0 vs) : postBox w vs (.pointer (some ⟨w.heap.size, 0, none⟩)) (w.alloc (.cells vs.toArray T)) :=
  ⟨w.heap.size, rfl, Nat.le_refl _, by simp, h, Fz.new w _ _, (Below.refl _ _).alloc (Nat.le_refl _) _⟩
theorem postRow.mk_ {w w' : World} {n c : Nat} {A : Option Addr} {xs : List Int} (h : Own w' w.heap.size w'.heap.size (.slice A n c) n xs) (hb : Below w.heap.size w w') : postRow w n xs (.slice A n c) w' := ⟨A, c, rfl, h, hb⟩
theorem postRowG.mk_ {w w' : World} {n c : Nat} {A : Option Addr} {xs : List G3} (h : OwnG w' w.heap.size w'.heap.size (.slice A n c) n xs) (hb : Below w.heap.size w w') : postRowG w n xs (.slice A n c) w' := ⟨A, c, rfl, h, hb⟩
theorem postPlain.mk_ {w w' : World} {u : Value} (hb : Below w.heap.size w w') : postPlain w u u w' := ⟨rfl, hb⟩
theorem postRow.new (w : World) (ys : List Int) (n : Nat) (hn : ys.length = n) (hm : n ≤ 4194304) : postRow w n ys (.slice (some ⟨w.heap.size, 0, none⟩) n n) (w.alloc (.cells (ys.map (Value.int .i64)).toArray 3)) :=
  ⟨_, _, rfl, (Own_new w ys n w.heap.size hn (Nat.le_refl _) hm).hi_ (by simp), (Below.refl _ _).alloc (Nat.le_refl _) _⟩
theorem postRow.new1 (w : World) (x : Int) : postRow w 1 [x] (.slice (some ⟨w.heap.size, 0, none⟩) 1 1) (w.alloc (.cells #[.int .i64 x] 3)) := by simpa using postRow.new w [x] 1 rfl (by omega)
section
variable {W : World} {own : Nat → Prop} {cs : List (Addr × Value)} {sk : List (Nat × List Nat × List Nat)} {ini fi : List Nat} {rs : List (Nat × Res)} {ops : Array Oper} {L : Act → (Nat → Value) → Prop} {k : Nat} {o : Oper} {rest : List Oper} {a : Act} {ρ : Nat → Value}
end
def circV (x y : Int) (A : Option Addr) (ng c : Nat) (O : Option Addr) (no d : Nat) (tb : Bool) : Value := .tuple #[.agg #[.int .i64 x, .int .i64 y, .slice A ng c, .slice O no d], .bool tb]
section
variable {P : Program} {W : World} {own : Nat → Prop} {cs : List (Addr × Value)} {sk : List (Nat × List Nat × List Nat)} {ini fi : List Nat} {rs : List (Nat × Res)} {ops : Array Oper} {L : Act → (Nat → Value) → Prop} {k : Nat} {o : Oper} {rest : List Oper} {a : Act} {ρ : Nat → Value}
def postIs (w : World) (u v : Value) (w' : World) : Prop := v = u ∧ Below w.heap.size w w'
theorem postIs.mk_ {w w' : World} {u : Value} (hb : Below w.heap.size w w') : postIs w u u w' := ⟨rfl, hb⟩
end
def aggV (x y : Int) (A : Option Addr) (ng c : Nat) (O : Option Addr) (no d : Nat) : Value := .agg #[.int .i64 x, .int .i64 y, .slice A ng c, .slice O no d]
section
variable {P : Program} {W : World} {own : Nat → Prop} {cs : List (Addr × Value)} {sk : List (Nat × List Nat × List Nat)} {ini fi : List Nat} {rs : List (Nat × Res)} {ops : Array Oper} {L : Act → (Nat → Value) → Prop} {k : Nat} {o : Oper} {rest : List Oper} {a : Act} {ρ : Nat → Value}
def postAgg (w : World) (x y : Int) (ng no : Nat) (gs : List G3) (os : List Int) (v : Value) (w' : World) : Prop := ∃ A c O d, v = aggV x y A ng c O no d ∧ OwnC w' w.heap.size w'.heap.size A ng c O no d gs os ∧ Below w.heap.size w w'
theorem postAgg.mk_ {w w' : World} {x y : Int} {ng no : Nat} {gs : List G3} {os : List Int} {A : Option Addr} {c : Nat} {O : Option Addr} {d : Nat} (h : OwnC w' w.heap.size w'.heap.size A ng c O no d gs os) (hb : Below w.heap.size w w') : postAgg w x y ng no gs os (.agg #[.int .i64 x, .int .i64 y, .slice A ng c, .slice O no d]) w' := ⟨A, c, O, d, rfl, h, hb⟩
def postCirc (w : World) (x y : Int) (ng no : Nat) (gs : List G3) (os : List Int) (tb : Bool) (v : Value) (w' : World) : Prop := ∃ A c O d, v = circV x y A ng c O no d tb ∧ OwnC w' w.heap.size w'.heap.size A ng c O no d gs os ∧ Below w.heap.size w w'
theorem postCirc.mk_ {w w' : World} {x y : Int} {ng no : Nat} {gs : List G3} {os : List Int} {tb : Bool} {A : Option Addr} {c : Nat} {O : Option Addr} {d : Nat} (h : OwnC w' w.heap.size w'.heap.size A ng c O no d gs os) (hb : Below w.heap.size w w') : postCirc w x y ng no gs os tb (.tuple #[.agg #[.int .i64 x, .int .i64 y, .slice A ng c, .slice O no d], .bool tb]) w' := ⟨A, c, O, d, rfl, h, hb⟩
end
def postSet (v0 : Value) (w0 : World) (v : Value) (w' : World) : Prop := v = v0 ∧ w' = w0
theorem postSet.mk_ (v : Value) (w : World) : postSet v w v w := ⟨rfl, rfl⟩
section
variable {P : Program} {W : World} {own : Nat → Prop} {cs : List (Addr × Value)} {sk : List (Nat × List Nat × List Nat)} {ini fi : List Nat} {rs : List (Nat × Res)} {ops : Array Oper} {L : Act → (Nat → Value) → Prop} {k : Nat} {o : Oper} {rest : List Oper} {a : Act} {ρ : Nat → Value}
end
structure PX (w : World) (lo b : Nat) (c : Ci) (A : Option Addr) (ca : Nat) (O : Option Addr) (co : Nat) : Prop where
  bx : BxC w b c.i0 c.i1 A c.gs.length ca O c.os.length co
  fz : Fz w b
  ox : OwnX w lo b A c.gs.length ca O c.os.length co c.gs c.os
section
variable {w w' : World} {lo b : Nat} {c : Ci} {A : Option Addr} {ca : Nat} {O : Option Addr} {co : Nat}
theorem PX.lt (h : PX w lo b c A ca O co) : b < w.heap.size := h.bx.lt
theorem PX.below {B : Nat} (h : PX w lo b c A ca O co) (k : Below B w w') (hB : w.heap.size ≤ B) : PX w' lo b c A ca O co :=
  ⟨h.bx.below (k.mono hB), h.fz.below k (Nat.lt_of_lt_of_le h.lt hB), h.ox.below_ k hB⟩
theorem PX.new (w : World) (lo : Nat) (T : TypeId) : PX (w.alloc (.cells #[.int .i64 0, .int .i64 0, .slice none 0 0, .slice none 0 0] T)) lo w.heap.size ⟨0, 0, [], []⟩ none 0 none 0 :=
  ⟨BxC.new w T, Fz.new w _ _, OwnC.none_ _ _ _, by simp [Value.ownBlock], by simp [Value.ownBlock]⟩
theorem PX.outs (h : PX w lo b c A ca O co) {O' : Option Addr} {n d lo' : Nat} {os : List Int} (ho : Own w lo' w.heap.size (.slice O' n d) n os) (hlo : lo ≤ lo') (hA : ∀ g, (Value.slice A c.gs.length ca).ownBlock = some g → g < lo') (hb : b < lo') :
    PX (w.setCell ⟨b, 3, none⟩ (.slice O' n d)) lo b { c with os := os } A ca O' d := by
  obtain rfl : os.length = n := ho.len
  have hne : (Value.slice O' os.length d).ownBlock ≠ some b := fun hc => by have := ho.lt b hc; omega
  have hx : OwnX w lo b A c.gs.length ca O' os.length d c.gs os := ⟨⟨h.ox.1.1, (ho.lo_ hlo), fun g h1 h2 => by have := ho.lt g h2; have := hA g h1; omega⟩, h.ox.2.1, hne⟩
  exact ⟨h.bx.setO _ _ _, h.fz.set _ _, hx.store 3 _⟩
theorem PX.gate {wy : World} {A' : Option Addr} {ca' : Nat} {M : G3} (h : PX w lo b c A ca O co) (k : Alt (okB w (fun i => (Value.slice A c.gs.length ca).ownBlock = some i)) w wy)
    (hG : OwnG wy lo wy.heap.size (.slice A' (c.gs.length + 1) ca') (c.gs.length + 1) (c.gs ++ [M])) (hok : ∀ i, (Value.slice A' (c.gs.length + 1) ca').ownBlock = some i → okB w (fun i => (Value.slice A c.gs.length ca).ownBlock = some i) i) :
    PX (wy.setCell ⟨b, 2, none⟩ (.slice A' (c.gs.length + 1) ca')) lo b { c with gs := c.gs ++ [M] } A' ca' O co := by
  have hbS : ¬ okB w (fun i => (Value.slice A c.gs.length ca).ownBlock = some i) b := fun hc => hc.elim (fun h1 => by have := h.lt; omega) (fun h1 => h.ox.2.1 h1)
  have hOS : ∀ g, (Value.slice O c.os.length co).ownBlock = some g → ¬ okB w (fun i => (Value.slice A c.gs.length ca).ownBlock = some i) g := fun g hg hc => hc.elim (fun h1 => by have := h.ox.1.2.1.lt g hg; omega) (fun h1 => h.ox.1.2.2 g h1 hg)
  have hx : OwnX wy lo b A' (c.gs.length + 1) ca' O c.os.length co (c.gs ++ [M]) c.os := by
    refine ⟨⟨hG, (h.ox.1.2.1.alt k hOS).now, fun g h1 h2 => hOS g h2 (hok g h1)⟩, fun hc => hbS (hok b hc), h.ox.2.2⟩
  have hl : (c.gs ++ [M]).length = c.gs.length + 1 := by simp
  refine ⟨?_, (h.fz.alt k h.lt hbS).set _ _, ?_⟩
  · have := (h.bx.alt k hbS).setG A' (c.gs.length + 1) ca'
    show BxC _ b c.i0 c.i1 A' (c.gs ++ [M]).length ca' O c.os.length co
    rw [hl]; exact this
  · show OwnX _ lo b A' (c.gs ++ [M]).length ca' O c.os.length co (c.gs ++ [M]) c.os
    rw [hl]; exact hx.store 2 _
theorem PX.out {wy : World} {O' : Option Addr} {co' : Nat} {z : Int} (h : PX w lo b c A ca O co) (k : Alt (okB w (fun i => (Value.slice O c.os.length co).ownBlock = some i)) w wy)
    (hG : Own wy lo wy.heap.size (.slice O' (c.os.length + 1) co') (c.os.length + 1) (c.os ++ [z])) (hok : ∀ i, (Value.slice O' (c.os.length + 1) co').ownBlock = some i → okB w (fun i => (Value.slice O c.os.length co).ownBlock = some i) i) :
    PX (wy.setCell ⟨b, 3, none⟩ (.slice O' (c.os.length + 1) co')) lo b { c with os := c.os ++ [z] } A ca O' co' := by
  have hbS : ¬ okB w (fun i => (Value.slice O c.os.length co).ownBlock = some i) b := fun hc => hc.elim (fun h1 => by have := h.lt; omega) (fun h1 => h.ox.2.2 h1)
  have hOS : ∀ g, (Value.slice A c.gs.length ca).ownBlock = some g → ¬ okB w (fun i => (Value.slice O c.os.length co).ownBlock = some i) g := fun g hg hc => hc.elim (fun h1 => by have := h.ox.1.1.lt g hg; omega) (fun h1 => h.ox.1.2.2 g hg h1)
  have hx : OwnX wy lo b A c.gs.length ca O' (c.os.length + 1) co' c.gs (c.os ++ [z]) := by
    refine ⟨⟨(h.ox.1.1.alt k hOS).now, hG, fun g h1 h2 => hOS g h1 (hok g h2)⟩, h.ox.2.1, fun hc => hbS (hok b hc)⟩
  have hl : (c.os ++ [z]).length = c.os.length + 1 := by simp
  refine ⟨?_, (h.fz.alt k h.lt hbS).set _ _, ?_⟩
  · have := (h.bx.alt k hbS).setO O' (c.os.length + 1) co'
    show BxC _ b c.i0 c.i1 A c.gs.length ca O' (c.os ++ [z]).length co'
    rw [hl]; exact this
  · show OwnX _ lo b A c.gs.length ca O' (c.os ++ [z]).length co' c.gs (c.os ++ [z])
    rw [hl]; exact hx.store 3 _
end
section
variable {W : World} {own : Nat → Prop} {cs : List (Addr × Value)} {sk : List (Nat × List Nat × List Nat)} {fi : List Nat} {rs : List (Nat × Res)} {ρ : Nat → Value}
end
def Res.cur (W : World) (b : Nat) (R : Nat → Prop) (T : Nat) (n : Int) : Res :=
  ⟨fun _ v => ∃ x : Nat, ((x : Int) < n ∨ x = 0) ∧ v = .int .i64 x, fun _ _ w => Cur w b R T ∧ ∀ i, R i → i < w.heap.size ∧ w.heap[i]? = W.heap[i]?, fun _ _ c => c = b ∨ R c, fun _ => ⟨.int .i64 (0 : Nat), 0, .inr rfl, rfl⟩,
    fun _ v w w' S h k hb => ⟨h.1.alt k (hb b (.inl rfl)).1 (fun i hi => (hb i (.inr hi)).1), fun i hi => ⟨Nat.lt_of_lt_of_le (h.2 i hi).1 k.size, (k.block i (h.2 i hi).1 (hb i (.inr hi)).1).trans (h.2 i hi).2⟩⟩⟩
section
variable {P : Program} {W : World} {own : Nat → Prop} {cs : List (Addr × Value)} {sk : List (Nat × List Nat × List Nat)} {ini fi : List Nat} {rs : List (Nat × Res)} {ops : Array Oper} {L : Act → (Nat → Value) → Prop} {k : Nat} {o : Oper} {rest : List Oper} {a : Act} {ρ : Nat → Value}
end
attribute [local go_sem] sepAt sepUpon pureAt pureUpon
def tblkW (A : Option Addr) (n : Nat) : Nat → Prop := fun i => 0 < n ∧ ∃ o, A = some ⟨i, o, none⟩
theorem tblkW_lt {w : World} {Y : Option Addr} {n : Nat} (hY : RY w Y n) : ∀ i, tblkW Y n i → i < w.heap.size := by
  rintro i ⟨hn, o, hq⟩
  obtain ⟨b, o', h1, h2, _⟩ := hY.2 hn
  rw [hq] at h1; injection h1 with h1; injection h1 with h3 h4; omega
theorem Cur.newW {w : World} {Y : Option Addr} {n c : Nat} (hY : RY w Y n) : Cur (w.alloc (.cells #[.slice Y n c, .int .i64 0, .int .u64 0] 63)) w.heap.size (tblkW Y n) 0 := by
  have h2 := hY.alt (Alt.of_new (S := fun _ => False) ((Below.refl w.heap.size w).alloc (Nat.le_refl _) (.cells #[.slice Y n c, .int .i64 0, .int .u64 0] 63))) (fun _ _ _ _ h => h)
  refine ⟨Fz.new w _ _, by simp, Y, n, c, 0, 0, box_cell _ _ 0 _ rfl, box_cell _ _ 1 _ rfl, box_cell _ _ 2 _ rfl, Nat.le_refl _, h2, fun hn q o hA => ⟨⟨hn, o, hA⟩, ?_⟩⟩
  have := tblkW_lt hY q ⟨hn, o, hA⟩
  omega
theorem RI_lit (w : World) (xs : List Int) (t : TypeId) : RI (w.alloc (.cells (xs.map (Value.int .i64)).toArray t)) (some ⟨w.heap.size, 0, none⟩) xs.length xs :=
  ⟨rfl, fun _ => ⟨_, 0, rfl, by simp, fun j hj => by rw [Nat.zero_add]; exact box_cell _ _ j _ (by simp [gi_lt hj, hj])⟩⟩
def RetIb (lo hi : Int) (w : World) (e : Ending) (w' : World) : Prop := ∃ x : Int, lo ≤ x ∧ x ≤ hi ∧ e = .returned (.int .i64 x) ∧ Below w.heap.size w w'
def RetIb2 (lo hi lo2 hi2 : Int) (w : World) (e : Ending) (w' : World) : Prop := ∃ x y : Int, (lo ≤ x ∧ x ≤ hi) ∧ (lo2 ≤ y ∧ y ≤ hi2) ∧ e = .returned (.tuple #[.int .i64 x, .int .i64 y]) ∧ Below w.heap.size w w'
def RetIc (lo hi : Int) (b : Nat) (R : Nat → Prop) (T : Nat) (w : World) (e : Ending) (w' : World) : Prop := ∃ x : Int, lo ≤ x ∧ x ≤ hi ∧ e = .returned (.int .i64 x) ∧ Cur w' b R T ∧ Alt (fun i => i = b) w w'
set_option maxRecDepth 100000 in
set_option maxHeartbeats 1000000 in
theorem width_any (b : Nat) (R : Nat → Prop) (T : Nat) (w : World) (h : Cur w b R T) (hT : T < 800000000) (hR : ∀ i, R i → i < w.heap.size) (hRb : ¬ R b) :
    Calls Try.prog 48 #[.pointer (some ⟨b, 0, none⟩)] w (RetIc (-1) 9 b R (T + 4) w) := by
  have hb := h.lt
  have al1 : Below w.heap.size w (w.alloc (.cells #[.int .i64 0, .int .i64 9, .int .i64 (-1)] 3)) := (Below.refl _ _).alloc (Nat.le_refl _) _
  have ua := h.alt (Alt.of_new (S := fun _ => False) al1) (fun h => h) (fun _ _ h => h)
  have hra : RI (w.alloc (.cells #[.int .i64 0, .int .i64 9, .int .i64 (-1)] 3)) (some ⟨w.heap.size, 0, none⟩) 3 [0, 9, -1] := by
    simpa using RI_lit w [0, 9, -1] 3
  go_enter Try.func48, Try.ntmps48
  go_wp2_with fail
  refine (among_any _ 3 3 [0, 9, -1] b R _ _ ua (by omega) hra (by omega) (by omega) (fun q o hA => by simp only [Option.some.injEq, Addr.mk.injEq, and_true] at hA; omega)).mono ?_
  rintro e a4 ⟨x, hxm, rfl, u4, k4, z4⟩
  have hxb : -1 ≤ x ∧ x ≤ 9 := by simp only [List.mem_cons, List.not_mem_nil, or_false] at hxm; omega
  have kw := (Alt.of_new (S := fun i => i = b) al1).trans_ k4 (fun _ _ h => h)
  have hz4 : a4.heap.size = w.heap.size + 1 := by simpa using z4
  have al2 : Below a4.heap.size a4 (a4.alloc (.cells #[.int .i64 1, .int .i64 2, .int .i64 3, .int .i64 4, .int .i64 5, .int .i64 6, .int .i64 8, .int .i64 x] 3)) := (Below.refl _ _).alloc (Nat.le_refl _) _
  have ub := u4.alt (Alt.of_new (S := fun _ => False) al2) (fun h => h) (fun _ _ h => h)
  have hrb : RI (a4.alloc (.cells #[.int .i64 1, .int .i64 2, .int .i64 3, .int .i64 4, .int .i64 5, .int .i64 6, .int .i64 8, .int .i64 x] 3)) (some ⟨a4.heap.size, 0, none⟩) 8 [1, 2, 3, 4, 5, 6, 8, x] := by
    simpa using RI_lit a4 [1, 2, 3, 4, 5, 6, 8, x] 3
  rw [hz4] at hrb
  have k5 := kw.trans_ (Alt.of_new (S := fun i => i = b) al2) (fun _ _ h => h)
  clear al1 ua hra hxm u4 k4 z4 kw
  go_wp2_with fail
  refine (among_any _ 8 8 [1, 2, 3, 4, 5, 6, 8, x] b R _ _ ub (by omega) hrb (by omega) (by omega) (fun q o hA => by simp only [Option.some.injEq, Addr.mk.injEq, and_true] at hA; omega)).mono ?_
  rintro e a6 ⟨y, hym, rfl, u6, k6, z6⟩
  have hyb : -1 ≤ y ∧ y ≤ 9 := by simp only [List.mem_cons, List.not_mem_nil, or_false] at hym; omega
  go_wp2
  go_ret
  exact ⟨y, hyb.1, hyb.2, rfl, u6, k5.trans_ k6 (fun _ _ h => h)⟩
set_option maxRecDepth 100000 in
set_option maxHeartbeats 1000000 in
theorem DrawAdderCircuit_any (Y : Option Addr) (n c : Nat) (w : World) (hY : RY w Y n) :
    Calls Try.prog 22 #[.slice Y n c] w (RetIb (-1) 9 w) := by
  have hc0 := Cur.newW (c := c) hY
  have hA2 : Below w.heap.size w (w.alloc (.cells #[.slice Y n c, .int .i64 0, .int .u64 0] 63)) := (Below.refl _ _).alloc (Nat.le_refl _) _
  have hR := tblkW_lt hY
  have hRb : ¬ tblkW Y n w.heap.size := fun h => by have := hR _ h; omega
  go_enter Try.func22, Try.ntmps22
  go_wp2_with fail
  refine (width_any w.heap.size (tblkW Y n) 0 _ hc0 (by omega) (fun i hi => by have := hR i hi; simp; omega) hRb).mono ?_
  rintro e a1 ⟨x, h1, h2, rfl, c1, k1⟩
  have kw : Alt (fun i => i = w.heap.size) w a1 := (Alt.of_new (S := fun i => i = w.heap.size) hA2).trans_ k1 (fun _ _ h => h)
  go_wp2
  go_ret
  exact ⟨x, h1, h2, rfl, kw.below_ (Nat.le_refl _) (fun i hi e => by omega)⟩
theorem DrawGreatestCircuit_any (Y : Option Addr) (n c : Nat) (w : World) (hY : RY w Y n) :
    Calls Try.prog 5 #[.slice Y n c] w (RetIb (-1) 9 w) := by
  go_enter Try.func5, Try.ntmps5
  go_wp2_with fail
  refine (DrawAdderCircuit_any Y n c w hY).mono ?_
  rintro e a1 ⟨x, h1, h2, rfl, B1⟩
  go_wp2
  go_ret
  exact ⟨x, h1, h2, rfl, B1⟩
set_option maxRecDepth 100000 in
set_option maxHeartbeats 1000000 in
theorem DrawConstantCircuit_any (Y : Option Addr) (n c : Nat) (w : World) (hY : RY w Y n) :
    Calls Try.prog 16 #[.slice Y n c] w (RetIb2 (-1) 65536 (-1) 17 w) := by
  have hc0 := Cur.newW (c := c) hY
  have hA2 : Below w.heap.size w (w.alloc (.cells #[.slice Y n c, .int .i64 0, .int .u64 0] 63)) := (Below.refl _ _).alloc (Nat.le_refl _) _
  have hR := tblkW_lt hY
  have hs1 : (w.alloc (.cells #[.slice Y n c, .int .i64 0, .int .u64 0] 63)).heap.size = w.heap.size + 1 := by simp
  generalize tblkW Y n = R at *
  have al1 : Below (w.alloc (.cells #[.slice Y n c, .int .i64 0, .int .u64 0] 63)).heap.size (w.alloc (.cells #[.slice Y n c, .int .i64 0, .int .u64 0] 63)) ((w.alloc (.cells #[.slice Y n c, .int .i64 0, .int .u64 0] 63)).alloc (.cells #[.int .i64 1, .int .i64 3, .int .i64 8, .int .i64 16, .int .i64 17, .int .i64 0, .int .i64 (-1)] 3)) := (Below.refl _ _).alloc (Nat.le_refl _) _
  have ua := hc0.alt (Alt.of_new (S := fun _ => False) al1) (fun h => h) (fun _ _ h => h)
  have hra : RI ((w.alloc (.cells #[.slice Y n c, .int .i64 0, .int .u64 0] 63)).alloc (.cells #[.int .i64 1, .int .i64 3, .int .i64 8, .int .i64 16, .int .i64 17, .int .i64 0, .int .i64 (-1)] 3)) (some ⟨(w.alloc (.cells #[.slice Y n c, .int .i64 0, .int .u64 0] 63)).heap.size, 0, none⟩) 7 [1, 3, 8, 16, 17, 0, -1] := by simpa using RI_lit (w.alloc (.cells #[.slice Y n c, .int .i64 0, .int .u64 0] 63)) [1, 3, 8, 16, 17, 0, -1] 3
  rw [hs1] at hra
  go_enter Try.func16, Try.ntmps16
  go_wp2_with fail
  refine (among_any _ 7 7 [1, 3, 8, 16, 17, 0, -1] w.heap.size R _ _ ua (by omega) hra (by omega) (by omega) (fun q o hA => by simp only [Option.some.injEq, Addr.mk.injEq, and_true] at hA; omega)).mono ?_
  rintro e a4 ⟨x, hxm, rfl, u4, k4, z4⟩
  have hxb : -1 ≤ x ∧ x ≤ 17 := by simp only [List.mem_cons, List.not_mem_nil, or_false] at hxm; omega
  have k1 : Alt (fun i => i = w.heap.size) w a4 := ((Alt.of_new (S := fun i => i = w.heap.size) hA2).trans_ (Alt.of_new (S := fun i => i = w.heap.size) al1) (fun _ _ h => h)).trans_ k4 (fun _ _ h => h)
  have hz4 : a4.heap.size = w.heap.size + 2 := by simpa using z4
  have al2 : Below a4.heap.size a4 (a4.alloc (.cells #[.int .i64 0, .int .i64 1, .int .i64 5, .int .i64 200, .int .i64 65535, .int .i64 65536, .int .i64 (-1)] 3)) := (Below.refl _ _).alloc (Nat.le_refl _) _
  have ub := u4.alt (Alt.of_new (S := fun _ => False) al2) (fun h => h) (fun _ _ h => h)
  have hrb : RI (a4.alloc (.cells #[.int .i64 0, .int .i64 1, .int .i64 5, .int .i64 200, .int .i64 65535, .int .i64 65536, .int .i64 (-1)] 3)) (some ⟨a4.heap.size, 0, none⟩) 7 [0, 1, 5, 200, 65535, 65536, -1] := by simpa using RI_lit a4 [0, 1, 5, 200, 65535, 65536, -1] 3
  rw [hz4] at hrb
  clear ua hra hxm u4 k4 z4 hc0 al1
  go_wp2_with fail
  refine (among_any _ 7 7 [0, 1, 5, 200, 65535, 65536, -1] w.heap.size R _ _ ub (by omega) hrb (by omega) (by omega) (fun q o hA => by simp only [Option.some.injEq, Addr.mk.injEq, and_true] at hA; omega)).mono ?_
  rintro e a6 ⟨y, hym, rfl, u6, k6, z6⟩
  have hyb : -1 ≤ y ∧ y ≤ 65536 := by simp only [List.mem_cons, List.not_mem_nil, or_false] at hym; omega
  have k7 := (k1.trans_ (Alt.of_new (S := fun i => i = w.heap.size) al2) (fun _ _ h => h)).trans_ k6 (fun _ _ h => h)
  go_wp2
  go_ret2
  exact ⟨y, x, hyb, hxb, rfl, k7.below_ (Nat.le_refl _) (fun i hi e => by omega)⟩
set_option maxRecDepth 100000 in
set_option maxHeartbeats 1000000 in
theorem DrawAndsOf_any (Y : Option Addr) (n c : Nat) (w : World) (hY : RY w Y n) :
    Calls Try.prog 19 #[.slice Y n c] w (RetIb2 (-1) 7 (-1) 9 w) := by
  have hc0 := Cur.newW (c := c) hY
  have hA2 : Below w.heap.size w (w.alloc (.cells #[.slice Y n c, .int .i64 0, .int .u64 0] 63)) := (Below.refl _ _).alloc (Nat.le_refl _) _
  have hR := tblkW_lt hY
  have hs1 : (w.alloc (.cells #[.slice Y n c, .int .i64 0, .int .u64 0] 63)).heap.size = w.heap.size + 1 := by simp
  have hRb : ¬ tblkW Y n w.heap.size := fun h => by have := hR _ h; omega
  generalize tblkW Y n = R at *
  go_enter Try.func19, Try.ntmps19
  go_wp2_with fail
  refine (pick_any 8 w.heap.size R _ _ hc0 (by omega) (by omega)).mono ?_
  rintro e a1 ⟨v, hv, hv2, rfl, c1, k1, z1⟩
  go_wp2_with fail
  refine (pick_any 24 w.heap.size R _ _ c1 (by omega) (by omega)).mono ?_
  rintro e a2 ⟨u, hu, hu2, rfl, c2, k2, z2⟩
  have kw := ((Alt.of_new (S := fun i => i = w.heap.size) hA2).trans_ k1 (fun _ _ h => h)).trans_ k2 (fun _ _ h => h)
  have hz2 : a2.heap.size = w.heap.size + 1 := by omega
  obtain ⟨q, hq⟩ : ∃ q : Int, (v : Int) - (u : Int) / 23 = q := ⟨_, rfl⟩
  have hqb : -1 ≤ q ∧ q ≤ 7 := by omega
  have hw1 : IntKind.i64.wrap ((v : Int) - (u : Int) / 23) = q := by rw [IntKind.wrap_i64] <;> omega
  clear c1 k1 k2 hc0 hq
  go_wp2_with fail
  refine (width_any w.heap.size R _ _ c2 (by omega) (fun i hi => by have := hR i hi; omega) hRb).mono ?_
  rintro e a3 ⟨x, h1, h2, rfl, c3, k3⟩
  have k9 := kw.trans_ k3 (fun _ _ h => h)
  go_wp2
  go_ret2
  exact ⟨q, x, hqb, ⟨h1, h2⟩, rfl, k9.below_ (Nat.le_refl _) (fun i hi e => by omega)⟩
end Go.Proofs.Ytliicemcdfidmaa
namespace Go.Proofs.Ytliicemcdfidmaa
open Go.RowKit
set_option linter.unusedVariables false
set_option linter.unusedSimpArgs false
theorem postRowG.new0 (w : World) : postRowG w 0 [] (.slice (some ⟨w.heap.size, 0, none⟩) 0 0) (w.alloc (.cells #[] 53)) :=
  ⟨_, _, rfl, (OwnG_new0 w w.heap.size (Nat.le_refl _)).hi_ (by simp), (Below.refl _ _).alloc (Nat.le_refl _) _⟩
theorem postRow.new0 (w : World) : postRow w 0 [] (.slice (some ⟨w.heap.size, 0, none⟩) 0 0) (w.alloc (.cells #[] 3)) := by simpa using postRow.new w [] 0 rfl (by omega)
section
variable {W : World} {own : Nat → Prop} {cs : List (Addr × Value)} {sk : List (Nat × List Nat × List Nat)} {ini fi : List Nat} {rs : List (Nat × Res)} {ops : Array Oper} {L : Act → (Nat → Value) → Prop} {k : Nat} {o : Oper} {rest : List Oper} {a : Act} {ρ : Nat → Value}
def Res.two (lo ng no : Nat) (gs : List G3) (os : List Int) (V : Option Addr → Nat → Option Addr → Nat → Value) : Res :=
  ⟨fun _ v => ∃ A c O d, v = V A c O d, fun _ v w => ∀ A c O d, v = V A c O d → OwnC w lo w.heap.size A ng c O no d gs os,
    fun _ v b => ∃ A c O d, v = V A c O d ∧ ((Value.slice A ng c).ownBlock = some b ∨ (Value.slice O no d).ownBlock = some b), fun _ => ⟨V none 0 none 0, none, 0, none, 0, rfl⟩,
    fun _ v w w' S h k hb A c O d hv => by
      have h1 := h A c O d hv
      exact ⟨(h1.1.alt k fun g hg => (hb g ⟨A, c, O, d, hv, .inl hg⟩).1).now, (h1.2.1.alt k fun g hg => (hb g ⟨A, c, O, d, hv, .inr hg⟩).1).now, h1.2.2⟩⟩
def postTwo (w : World) (ng no : Nat) (gs : List G3) (os : List Int) (V : Option Addr → Nat → Option Addr → Nat → Value) (v : Value) (w' : World) : Prop := ∃ A c O d, v = V A c O d ∧ OwnC w' w.heap.size w'.heap.size A ng c O no d gs os ∧ Below w.heap.size w w'
theorem postTwo.mk_ {w w' : World} {ng no : Nat} {gs : List G3} {os : List Int} {V : Option Addr → Nat → Option Addr → Nat → Value} {v : Value} (A : Option Addr) (c : Nat) (O : Option Addr) (d : Nat) (hv : v = V A c O d) (h : OwnC w' w.heap.size w'.heap.size A ng c O no d gs os) (hb : Below w.heap.size w w') : postTwo w ng no gs os V v w' := ⟨A, c, O, d, hv, h, hb⟩
end
section
variable {P : Program} {W : World} {own : Nat → Prop} {cs : List (Addr × Value)} {sk : List (Nat × List Nat × List Nat)} {ini fi : List Nat} {rs : List (Nat × Res)} {ops : Array Oper} {L : Act → (Nat → Value) → Prop} {k : Nat} {o : Oper} {rest : List Oper} {a : Act} {ρ : Nat → Value}
end
end Go.Proofs.Ytliicemcdfidmaa
