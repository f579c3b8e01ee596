/- What the operations of a drawn region leave (plain values, rows of numbers and of gates, boxes), and the steps of its walk. No condition. Drawn regions, more kinds of operations: an append onto a row of the region's own; a callee that hands on a circuit's two rows. Lengths as the lemmas say. A circuit in the making in a box of a call's own: what its stores and appends leave. No condition. The reader of choices in a drawn region: each choice takes the reader over from the one before. No condition. Drawn circuits: whatever the bytes are, a circuit of few gates comes back and the reader stays one. Drawn circuits with constants, equal gates and dead gates: whatever the bytes are, a circuit comes back and the reader stays one. Drawn circuits handed on: DrawIsCircuit and its like return some circuit of the call's own, DrawBesideCircuit two. A maker whose outs are any slice. Lengths below 2^21. -/
import Derived.Test.YtenknpcbbcbciaaGreatQP09
import Derived.Test.YtenknpcbbcbciaaGreatQP06
import Derived.Test.YtenknpcbbcbciaaGreatQP05
import Derived.Laws.MakeOwn
namespace Go.Proofs.YtenknpcbbcbciaaGreat
open Go.RowKit
set_option linter.unusedVariables false
set_option linter.unusedSimpArgs false
structure Res where
  vals : List Value → Value → Prop
  R : List Value → Value → World → Prop
  blk : List Value → Value → Nat → Prop
  inh : ∀ ds, ∃ v, vals ds v
  st : ∀ ds v w w' S, R ds v w → Alt S w w' → (∀ b, blk ds v b → ¬ S b ∧ b < w.heap.size) → R ds v w'
def Res.plain (u : Value) : Res := ⟨fun _ v => v = u, fun _ _ _ => True, fun _ _ _ => False, fun _ => ⟨u, rfl⟩, fun _ _ _ _ _ _ _ _ => trivial⟩
def Res.row (lo n : Nat) (xs : List Int) : Res :=
  ⟨fun _ v => ∃ A c, v = .slice A n c, fun _ v w => Own w lo w.heap.size v n xs, fun _ v b => v.ownBlock = some b, fun _ => ⟨.slice none n 0, none, 0, rfl⟩, fun _ v w w' S h k hb => (h.alt k fun g hg => (hb g hg).1).now⟩
def Res.rowG (lo n : Nat) (xs : List G3) : Res :=
  ⟨fun _ v => ∃ A c, v = .slice A n c, fun _ v w => OwnG w lo w.heap.size v n xs, fun _ v b => v.ownBlock = some b, fun _ => ⟨.slice none n 0, none, 0, rfl⟩, fun _ v w w' S h k hb => (h.alt k fun g hg => (hb g hg).1).now⟩
def CellsAt (w : World) (b : Nat) : Nat → List Value → Prop
  | _, [] => True
  | o, v :: l => w.cell? ⟨b, o, none⟩ = some v ∧ CellsAt w b (o + 1) l
theorem CellsAt.alt {S : Nat → Prop} {w w' : World} {b : Nat} (k : Alt S w w') (hb : ¬ S b) : ∀ {o : Nat} {l : List Value}, CellsAt w b o l → CellsAt w' b o l
  | _, [], _ => trivial
  | o, v :: l, h => ⟨k.cell_ h.1 hb, CellsAt.alt k hb h.2⟩
def Res.box (cs : List Value) : Res :=
  ⟨fun _ v => ∃ b, v = .pointer (some ⟨b, 0, none⟩), fun _ v w => ∀ b, v = .pointer (some ⟨b, 0, none⟩) → b < w.heap.size ∧ CellsAt w b 0 cs ∧ Fz w b, fun _ v b => v = .pointer (some ⟨b, 0, none⟩), fun _ => ⟨.pointer (some ⟨0, 0, none⟩), 0, rfl⟩,
    fun _ v w w' S h k hb b hv => ⟨Nat.lt_of_lt_of_le (h b hv).1 k.size, (h b hv).2.1.alt k (hb b hv).1, (h b hv).2.2.alt k (hb b hv).2 (hb b hv).1⟩⟩
def resAt (rs : List (Nat × Res)) (k : Nat) : Res := ((rs.find? fun e => e.1 == k).map fun e => e.2).getD (Res.plain undef)
def okB (W : World) (own : Nat → Prop) : Nat → Prop := fun b => W.heap.size ≤ b ∨ own b
def CellsL (w : World) (cs : List (Addr × Value)) : Prop := ∀ q ∈ cs, w.cell? q.1 = some q.2
def mkSep (W : World) (own : Nat → Prop) (cs : List (Addr × Value)) (sk : List (Nat × List Nat × List Nat)) (ini fi : List Nat) (rs : List (Nat × Res)) : Sep where
  C w := Alt (okB W own) W w ∧ CellsL w cs
  Ok := okB W own
  sk := sk
  inits := ini
  fin := fi
  vals k := (resAt rs k).vals
  R k := (resAt rs k).R
  blk k := (resAt rs k).blk
theorem sepAt_mono {P : Program} {o : Oper} {a : Act} {post post' : Value → World → Prop} {w : World} (h : sepAt P o a post w) (hp : ∀ v w', post v w' → post' v w') : sepAt P o a post' w := by
  unfold sepAt at *
  generalize (execOp a.eval o).run P w = r at *
  cases r with
  | ok n w' =>
    cases n <;> simp only [sepUpon] at h ⊢
    case value u => exact hp _ _ h
    case skip => exact hp _ _ h
    case enter f args => exact h.mono fun e w'' ⟨v, he, h9⟩ => ⟨v, he, hp _ _ h9⟩
  | halt x w' => simp only [sepUpon] at h
section
variable {P : Program} {W : World} {own : Nat → Prop} {cs : List (Addr × Value)} {sk : List (Nat × List Nat × List Nat)} {ini fi : List Nat} {rs : List (Nat × Res)} {ops : Array Oper} {L : Act → (Nat → Value) → Prop} {k : Nat} {o : Oper} {rest : List Oper} {a : Act} {ρ : Nat → Value}
theorem firm_mk (hcs : ∀ q ∈ cs, ¬ own q.1.block ∧ q.1.block < W.heap.size) : Firm (mkSep W own cs sk ini fi rs) where
  C w w' S h k hS := by
    refine ⟨h.1.trans_ k fun i _ hi => hS i hi, fun q hq => ?_⟩
    obtain ⟨h1, h2⟩ := hcs q hq
    refine k.cell_ (h.2 q hq) fun hb => ?_
    rcases hS _ hb with h3 | h3
    · omega
    · exact h1 h3
  new w b h hb := .inl (Nat.le_trans h.1.size hb)
  R k ds v w w' S _ h ka _ hb := (resAt rs k).st ds v w w' S h ka hb
  vals k := (resAt rs k).inh
theorem wp_region_mem (n : Nat) (own : Nat → Prop) (cs : List (Addr × Value)) (sk : List (Nat × List Nat × List Nat)) (ini fi : List Nat) (rs : List (Nat × Res)) (ρ0 : Nat → Value) {id : Nat} {Q : Exit → Act → World → Prop} {l : List Oper} {w : World}
    (hm : P.follows .mixedOrders = true) (hB : tailB .any l.toArray n = true) (hG : (goodB .any l.toArray sk ini fi && sk.all fun e => decide (e.1 < n)) = true) (hcs : CellsL w cs) (hown : ∀ q ∈ cs, ¬ own q.1.block)
    (hi : (mkSep w own cs sk ini fi rs).hasAll ρ0 (World.drew w) ini) (ha : (mkSep w own cs sk ini fi rs).apart ρ0 ini)
    (h : wpSep (mkSep w own cs sk ini fi rs) P l.toArray (fun a ρ => ∀ w', Alt (okB w own) w w' → CellsL w' cs → (mkSep w own cs sk ini fi rs).hasAll ρ w' fi → (mkSep w own cs sk ini fi rs).apart ρ fi → wpList P l.toArray Q (l.drop n) a w') 0 (l.take n) a ρ0) : (Code.region id l.toArray true).wp P Q a w :=
  wp_region_sep (mkSep w own cs sk ini fi rs) n ρ0 hm hB hG (firm_mk fun q hq => ⟨hown q hq, World.block_lt_of_cell? w _ (hcs q hq)⟩)
    ⟨(Alt.refl_ _ w).drewN_ 1, fun q hq => hcs q hq⟩ hi ha (by
      have key : ∀ (l' : List Oper) (k : Nat) (a : Act) (ρ : Nat → Value), wpSep (mkSep w own cs sk ini fi rs) P l.toArray (fun a ρ => ∀ w', Alt (okB w own) w w' → CellsL w' cs → (mkSep w own cs sk ini fi rs).hasAll ρ w' fi → (mkSep w own cs sk ini fi rs).apart ρ fi → wpList P l.toArray Q (l.drop n) a w') k l' a ρ →
          wpSep (mkSep w own cs sk ini fi rs) P l.toArray (fun a ρ => ∀ w', (mkSep w own cs sk ini fi rs).C w' → (mkSep w own cs sk ini fi rs).hasAll ρ w' fi → (mkSep w own cs sk ini fi rs).apart ρ fi → wpList P l.toArray Q (l.drop n) a w') k l' a ρ := by
        intro l'
        induction l' with
        | nil => intro k a ρ h w' hw h1 h2; exact h w' hw.1 hw.2 h1 h2
        | cons o l' ih => intro k a ρ h; exact sepNode_mono (fun a ρ => ih (k + 1) a ρ) h
      exact key _ _ _ _ h)
theorem wp_region_mem0 (n : Nat) (cs : List (Addr × Value)) (sk : List (Nat × List Nat × List Nat)) (fi : List Nat) (rs : List (Nat × Res)) {id : Nat} {Q : Exit → Act → World → Prop} {l : List Oper} {w : World}
    (hm : P.follows .mixedOrders = true) (hB : tailB .any l.toArray n = true) (hG : (goodB .any l.toArray sk [] fi && sk.all fun e => decide (e.1 < n)) = true) (hcs : CellsL w cs)
    (h : wpSep (mkSep w (fun _ => False) cs sk [] fi rs) P l.toArray (fun a ρ => ∀ w', Alt (okB w (fun _ => False)) w w' → CellsL w' cs → (mkSep w (fun _ => False) cs sk [] fi rs).hasAll ρ w' fi → (mkSep w (fun _ => False) cs sk [] fi rs).apart ρ fi → wpList P l.toArray Q (l.drop n) a w') 0 (l.take n) a (fun _ => undef)) : (Code.region id l.toArray true).wp P Q a w :=
  wp_region_mem n (fun _ => False) cs sk [] fi rs _ hm hB hG hcs (fun _ _ h => h) trivial (fun d hd => by cases hd) h
theorem alt_below {w : World} (h : Alt (okB W (fun _ => False)) W w) : Below W.heap.size W w := h.below_ (Nat.le_refl _) fun i hi hn => by rcases hn with h | h <;> first | omega | exact h
theorem wanted_none {f : Nat → Option Bool} (h : o.guard = none) : Region.wanted o f = true := by unfold Region.wanted; rw [h]
theorem wanted_some {l : List Oper} {ts : List Value} {g t : Nat} {want b : Bool} (hg : o.guard = some (g, want)) (ho : (l[g]?).bind (·.dst) = some t) (ht : ts[t]? = some (.bool b)) (hb : (b == want) = true) : Region.wanted o (yielded l.toArray ts.toArray) = true := by
  simp only [beq_iff_eq] at hb
  simp [Region.wanted, hg, yielded, ho, ht, hb]
theorem wanted_not {l : List Oper} {ts : List Value} {g t : Nat} {want b : Bool} (hg : o.guard = some (g, want)) (ho : (l[g]?).bind (·.dst) = some t) (ht : ts[t]? = some (.bool b)) (hb : (b == want) = false) : Region.wanted o (yielded l.toArray ts.toArray) = false := by
  simp only [beq_eq_false_iff_ne] at hb
  simp [Region.wanted, hg, yielded, ho, ht, hb]
theorem wpSep_end (h : L a ρ) : wpSep (mkSep W own cs sk ini fi rs) P ops L k [] a ρ := h
theorem mem_pure0 (he : effB sk k = false) (hg : o.guard = none) (h : ∀ K : Act → Prop, (∀ a, wpSep (mkSep W own cs sk ini fi rs) P ops L (k + 1) rest a ρ → K a) → ∃ v, (∀ w, CellsL w cs → pureAt P o a w v) ∧ K (a.put o.dst v)) : wpSep (mkSep W own cs sk ini fi rs) P ops L k (o :: rest) a ρ := by
  show sepNode _ _ _ _ _ _ _ _
  unfold sepNode
  rw [if_neg (by show ¬ effB sk k = true; rw [he]; simp), if_pos (wanted_none hg)]
  obtain ⟨v, h1, h2⟩ := h _ (fun _ h => h)
  exact ⟨v, fun w hw => h1 w hw.2, h2⟩
theorem mem_pure (he : effB sk k = false) (hw : Region.wanted o (yielded ops a.tmps) = true) (h : ∀ K : Act → Prop, (∀ a, wpSep (mkSep W own cs sk ini fi rs) P ops L (k + 1) rest a ρ → K a) → ∃ v, (∀ w, CellsL w cs → pureAt P o a w v) ∧ K (a.put o.dst v)) : wpSep (mkSep W own cs sk ini fi rs) P ops L k (o :: rest) a ρ := by
  show sepNode _ _ _ _ _ _ _ _
  unfold sepNode
  rw [if_neg (by show ¬ effB sk k = true; rw [he]; simp), if_pos hw]
  obtain ⟨v, h1, h2⟩ := h _ (fun _ h => h)
  exact ⟨v, fun w hw => h1 w hw.2, h2⟩
theorem mem_skip (he : effB sk k = false) (hw : Region.wanted o (yielded ops a.tmps) = false) (h : wpSep (mkSep W own cs sk ini fi rs) P ops L (k + 1) rest (a.put o.dst undef) ρ) : wpSep (mkSep W own cs sk ini fi rs) P ops L k (o :: rest) a ρ := by
  show sepNode _ _ _ _ _ _ _ _
  unfold sepNode
  rw [if_neg (by show ¬ effB sk k = true; rw [he]; simp), if_neg (by rw [hw]; simp)]
  exact h
theorem mem_eff (r : Res) (hr : resAt rs k = r) (he : effB sk k = true)
    (hx : ∀ w, Alt (okB W own) W w → CellsL w cs → (mkSep W own cs sk ini fi rs).pre k ρ w → sepAt P o a (fun v w' => r.vals ((depsL sk k).map ρ) v ∧ r.R ((depsL sk k).map ρ) v w' ∧ Alt ((mkSep W own cs sk ini fi rs).hit k ρ) w w' ∧ ∀ b, r.blk ((depsL sk k).map ρ) v b → b < w'.heap.size ∧ (w.heap.size ≤ b ∨ (mkSep W own cs sk ini fi rs).hit k ρ b)) w)
    (h : ∀ v, r.vals ((depsL sk k).map ρ) v → wpSep (mkSep W own cs sk ini fi rs) P ops L (k + 1) rest (a.put o.dst v) (upd ρ k v)) (hw : Region.wanted o (yielded ops a.tmps) = true := by first | exact wanted_none rfl | exact wanted_some rfl rfl rfl rfl) : wpSep (mkSep W own cs sk ini fi rs) P ops L k (o :: rest) a ρ := by
  subst hr
  show sepNode _ _ _ _ _ _ _ _
  unfold sepNode
  have he' : effB (mkSep W own cs sk ini fi rs).sk k = true := he
  rw [if_pos he']
  exact ⟨hw, fun w hw hp => sepAt_mono (hx w hw.1 hw.2 hp) fun v w' h => h, fun v hv => h v hv⟩
def postPlain (w : World) (u v : Value) (w' : World) : Prop := v = u ∧ Below w.heap.size w w'
def postRow (w : World) (n : Nat) (xs : List Int) (v : Value) (w' : World) : Prop := ∃ A c, v = .slice A n c ∧ Own w' w.heap.size w'.heap.size (.slice A n c) n xs ∧ Below w.heap.size w w'
def postRowG (w : World) (n : Nat) (xs : List G3) (v : Value) (w' : World) : Prop := ∃ A c, v = .slice A n c ∧ OwnG w' w.heap.size w'.heap.size (.slice A n c) n xs ∧ Below w.heap.size w w'
def postBox (w : World) (cs : List Value) (v : Value) (w' : World) : Prop := ∃ b, v = .pointer (some ⟨b, 0, none⟩) ∧ w.heap.size ≤ b ∧ b < w'.heap.size ∧ CellsAt w' b 0 cs ∧ Fz w' b ∧ Below w.heap.size w w'
theorem mem_plain (u : Value) (hr : resAt rs k = Res.plain u) (he : effB sk k = true) (hx : ∀ w, Alt (okB W own) W w → CellsL w cs → (mkSep W own cs sk ini fi rs).pre k ρ w → sepAt P o a (postPlain w u) w)
    (h : wpSep (mkSep W own cs sk ini fi rs) P ops L (k + 1) rest (a.put o.dst u) (upd ρ k u)) (hw : Region.wanted o (yielded ops a.tmps) = true := by first | exact wanted_none rfl | exact wanted_some rfl rfl rfl rfl) : wpSep (mkSep W own cs sk ini fi rs) P ops L k (o :: rest) a ρ :=
  mem_eff (hw := hw) _ hr he (fun w hw hc hp => sepAt_mono (hx w hw hc hp) fun v w' ⟨h1, h2⟩ => ⟨h1, trivial, Alt.of_new h2, fun b hb => hb.elim⟩) fun v hv => by
    obtain rfl : v = u := hv
    exact h
theorem mem_row (lo n : Nat) (xs : List Int) (hr : resAt rs k = Res.row lo n xs) (he : effB sk k = true) (hlo : lo ≤ W.heap.size) (hx : ∀ w, Alt (okB W own) W w → CellsL w cs → (mkSep W own cs sk ini fi rs).pre k ρ w → sepAt P o a (postRow w n xs) w)
    (h : ∀ A c, wpSep (mkSep W own cs sk ini fi rs) P ops L (k + 1) rest (a.put o.dst (.slice A n c)) (upd ρ k (.slice A n c))) (hw : Region.wanted o (yielded ops a.tmps) = true := by first | exact wanted_none rfl | exact wanted_some rfl rfl rfl rfl) : wpSep (mkSep W own cs sk ini fi rs) P ops L k (o :: rest) a ρ :=
  mem_eff (hw := hw) _ hr he (fun w hw hc hp => sepAt_mono (hx w hw hc hp) fun v w' ⟨A, c, h1, h2, h3⟩ => by
    subst h1
    exact ⟨⟨A, c, rfl⟩, h2.lo_ (Nat.le_trans hlo hw.size), Alt.of_new h3, fun b hb => ⟨(h2.lt b hb).2.2, .inl (h2.lt b hb).1⟩⟩) fun v hv => by
    obtain ⟨A, c, rfl⟩ := hv
    exact h A c
theorem mem_box (vs : List Value) (hr : resAt rs k = Res.box vs) (he : effB sk k = true) (hx : ∀ w, Alt (okB W own) W w → CellsL w cs → (mkSep W own cs sk ini fi rs).pre k ρ w → sepAt P o a (postBox w vs) w)
    (h : ∀ b, wpSep (mkSep W own cs sk ini fi rs) P ops L (k + 1) rest (a.put o.dst (.pointer (some ⟨b, 0, none⟩))) (upd ρ k (.pointer (some ⟨b, 0, none⟩)))) (hw : Region.wanted o (yielded ops a.tmps) = true := by first | exact wanted_none rfl | exact wanted_some rfl rfl rfl rfl) : wpSep (mkSep W own cs sk ini fi rs) P ops L k (o :: rest) a ρ :=
  mem_eff (hw := hw) _ hr he (fun w hw hc hp => sepAt_mono (hx w hw hc hp) fun v w' ⟨b, h1, h2, h3, h4, h5, h6⟩ => by
    subst h1
    refine ⟨⟨b, rfl⟩, fun b' hb' => ?_, Alt.of_new h6, fun b' hb' => ?_⟩
    · simp only [Value.pointer.injEq, Option.some.injEq, Addr.mk.injEq, and_true] at hb'
      subst hb'
      exact ⟨h3, h4, h5⟩
    · have hb'' : Value.pointer (some ⟨b, 0, none⟩) = .pointer (some ⟨b', 0, none⟩) := hb'
      simp only [Value.pointer.injEq, Option.some.injEq, Addr.mk.injEq, and_true] at hb''
      subst hb''
      exact ⟨h3, .inl h2⟩) fun v hv => by
    obtain ⟨b, rfl⟩ := hv
    exact h b
end
theorem postBox.new (w : World) (vs : List Value) (T) (h : CellsAt (w.alloc (.cells vs.toArray T)) w.heap.size 0 vs) : postBox w vs (.pointer (some ⟨w.heap.size, 0, none⟩)) (w.alloc (.cells vs.toArray T)) :=
  ⟨w.heap.size, rfl, Nat.le_refl _, by simp, h, Fz.new w _ _, (Below.refl _ _).alloc (Nat.le_refl _) _⟩
theorem postRow.mk_ {w w' : World} {n c : Nat} {A : Option Addr} {xs : List Int} (h : Own w' w.heap.size w'.heap.size (.slice A n c) n xs) (hb : Below w.heap.size w w') : postRow w n xs (.slice A n c) w' := ⟨A, c, rfl, h, hb⟩
theorem postRowG.mk_ {w w' : World} {n c : Nat} {A : Option Addr} {xs : List G3} (h : OwnG w' w.heap.size w'.heap.size (.slice A n c) n xs) (hb : Below w.heap.size w w') : postRowG w n xs (.slice A n c) w' := ⟨A, c, rfl, h, hb⟩
theorem postPlain.mk_ {w w' : World} {u : Value} (hb : Below w.heap.size w w') : postPlain w u u w' := ⟨rfl, hb⟩
theorem postRow.new (w : World) (ys : List Int) (n : Nat) (hn : ys.length = n) (hm : n ≤ 4194304) : postRow w n ys (.slice (some ⟨w.heap.size, 0, none⟩) n n) (w.alloc (.cells (ys.map (Value.int .i64)).toArray 3)) :=
  ⟨_, _, rfl, (Own_new w ys n w.heap.size hn (Nat.le_refl _) hm).hi_ (by simp), (Below.refl _ _).alloc (Nat.le_refl _) _⟩
theorem postRow.new1 (w : World) (x : Int) : postRow w 1 [x] (.slice (some ⟨w.heap.size, 0, none⟩) 1 1) (w.alloc (.cells #[.int .i64 x] 3)) := by simpa using postRow.new w [x] 1 rfl (by omega)
section
variable {W : World} {own : Nat → Prop} {cs : List (Addr × Value)} {sk : List (Nat × List Nat × List Nat)} {ini fi : List Nat} {rs : List (Nat × Res)} {ops : Array Oper} {L : Act → (Nat → Value) → Prop} {k : Nat} {o : Oper} {rest : List Oper} {a : Act} {ρ : Nat → Value}
theorem hit_one {d : Nat} (hd : consL sk k = [d]) {v : Value} (hρ : ρ d = v) {r : Res} (hrd : resAt rs d = r) : (mkSep W own cs sk ini fi rs).hit k ρ = r.blk ((depsL sk d).map ρ) v := by
  subst hρ; subst hrd
  funext b; apply propext
  show (∃ d', d' ∈ consL sk k ∧ (resAt rs d').blk ((depsL sk d').map ρ) (ρ d') b) ↔ _
  rw [hd]; simp
theorem has_dep {d : Nat} {w : World} (hd : d ∈ depsL sk k) (hp : (mkSep W own cs sk ini fi rs).pre k ρ w) {v : Value} (hρ : ρ d = v) {r : Res} (hrd : resAt rs d = r) : r.R ((depsL sk d).map ρ) v w ∧ ∀ b, r.blk ((depsL sk d).map ρ) v b → okB W own b ∧ b < w.heap.size := by
  subst hρ; subst hrd
  exact Sep.hasAll_iff.1 hp.1 d hd
theorem mem_appI (d lo n m : Nat) (xs ys : List Int) (A0 : Option Addr) (c0 : Nat) (A : Option Addr) (c : Nat) (s x : Operand) (hr : resAt rs k = Res.row lo (n + m) (xs ++ ys)) (he : effB sk k = true) (hlo : lo ≤ W.heap.size) (hrd : resAt rs d = Res.row lo n xs) (hd : consL sk k = [d]) (hdd : d ∈ depsL sk k) (hρ : ρ d = .slice A0 n c0)
    (ho : o.op = .call { callee := .builtin .append, args := #[s, x], argTypes := #[24, 24] }) (hs : a.eval s = .slice A0 n c0) (hx : a.eval x = .slice A m c)
    (hlen : n + m ≤ 8388608) (hread : ∀ w, Alt (okB W own) W w → CellsL w cs → (mkSep W own cs sk ini fi rs).pre k ρ w → RI w A m ys)
    (h : ∀ A' c', wpSep (mkSep W own cs sk ini fi rs) Tryz.prog ops L (k + 1) rest (a.put o.dst (.slice A' (n + m) c')) (upd ρ k (.slice A' (n + m) c'))) (hw : Region.wanted o (yielded ops a.tmps) = true := by first | exact wanted_none rfl | exact wanted_some rfl rfl rfl rfl) : wpSep (mkSep W own cs sk ini fi rs) Tryz.prog ops L k (o :: rest) a ρ :=
  mem_eff (hw := hw) _ hr he (fun w hw hc hp => by
    have h1 : Own w lo w.heap.size (.slice A0 n c0) n xs := (has_dep hdd hp hρ hrd).1
    have hh : (mkSep W own cs sk ini fi rs).hit k ρ = fun b => (Value.slice A0 n c0).ownBlock = some b := hit_one hd hρ hrd
    rw [hh]
    obtain ⟨A', c', w', hrun, h2, h3, h4, h5⟩ := run_appI w o.type lo w.heap.size n c0 m c A0 A xs ys h1 (hread w hw hc hp) hlen (Nat.le_trans hlo hw.size)
    unfold sepAt execOp
    simp only [ho, resolve, invoke, builtin, Sem.run_bind, Sem.run_pure, Result.andThen_ok, List.map_toArray, List.map_cons, List.map_nil, hs, hx, hrun]
    exact ⟨⟨A', c', rfl⟩, h2, Alt.of_grown h3 (fun i hi => hi), fun b hb => ⟨(h2.lt b hb).2.2, by
      rcases h4 with h4 | h4
      · exact .inr (h4 ▸ hb)
      · have hb' : (Value.slice A' (n + m) c').ownBlock = some b := hb
        rw [h4] at hb'; injection hb' with hb'
        exact .inl (by omega)⟩⟩) fun v hv => by
    obtain ⟨A', c', rfl⟩ := hv
    exact h A' c'
end
def circV (x y : Int) (A : Option Addr) (ng c : Nat) (O : Option Addr) (no d : Nat) (tb : Bool) : Value := .tuple #[.agg #[.int .i64 x, .int .i64 y, .slice A ng c, .slice O no d], .bool tb]
section
variable {P : Program} {W : World} {own : Nat → Prop} {cs : List (Addr × Value)} {sk : List (Nat × List Nat × List Nat)} {ini fi : List Nat} {rs : List (Nat × Res)} {ops : Array Oper} {L : Act → (Nat → Value) → Prop} {k : Nat} {o : Oper} {rest : List Oper} {a : Act} {ρ : Nat → Value}
def postIs (w : World) (u v : Value) (w' : World) : Prop := v = u ∧ Below w.heap.size w w'
theorem postIs.mk_ {w w' : World} {u : Value} (hb : Below w.heap.size w w') : postIs w u u w' := ⟨rfl, hb⟩
end
def aggV (x y : Int) (A : Option Addr) (ng c : Nat) (O : Option Addr) (no d : Nat) : Value := .agg #[.int .i64 x, .int .i64 y, .slice A ng c, .slice O no d]
section
variable {P : Program} {W : World} {own : Nat → Prop} {cs : List (Addr × Value)} {sk : List (Nat × List Nat × List Nat)} {ini fi : List Nat} {rs : List (Nat × Res)} {ops : Array Oper} {L : Act → (Nat → Value) → Prop} {k : Nat} {o : Oper} {rest : List Oper} {a : Act} {ρ : Nat → Value}
def postAgg (w : World) (x y : Int) (ng no : Nat) (gs : List G3) (os : List Int) (v : Value) (w' : World) : Prop := ∃ A c O d, v = aggV x y A ng c O no d ∧ OwnC w' w.heap.size w'.heap.size A ng c O no d gs os ∧ Below w.heap.size w w'
theorem postAgg.mk_ {w w' : World} {x y : Int} {ng no : Nat} {gs : List G3} {os : List Int} {A : Option Addr} {c : Nat} {O : Option Addr} {d : Nat} (h : OwnC w' w.heap.size w'.heap.size A ng c O no d gs os) (hb : Below w.heap.size w w') : postAgg w x y ng no gs os (.agg #[.int .i64 x, .int .i64 y, .slice A ng c, .slice O no d]) w' := ⟨A, c, O, d, rfl, h, hb⟩
def postCirc (w : World) (x y : Int) (ng no : Nat) (gs : List G3) (os : List Int) (tb : Bool) (v : Value) (w' : World) : Prop := ∃ A c O d, v = circV x y A ng c O no d tb ∧ OwnC w' w.heap.size w'.heap.size A ng c O no d gs os ∧ Below w.heap.size w w'
theorem postCirc.mk_ {w w' : World} {x y : Int} {ng no : Nat} {gs : List G3} {os : List Int} {tb : Bool} {A : Option Addr} {c : Nat} {O : Option Addr} {d : Nat} (h : OwnC w' w.heap.size w'.heap.size A ng c O no d gs os) (hb : Below w.heap.size w w') : postCirc w x y ng no gs os tb (.tuple #[.agg #[.int .i64 x, .int .i64 y, .slice A ng c, .slice O no d], .bool tb]) w' := ⟨A, c, O, d, rfl, h, hb⟩
end
def postSet (v0 : Value) (w0 : World) (v : Value) (w' : World) : Prop := v = v0 ∧ w' = w0
theorem postSet.mk_ (v : Value) (w : World) : postSet v w v w := ⟨rfl, rfl⟩
section
variable {P : Program} {W : World} {own : Nat → Prop} {cs : List (Addr × Value)} {sk : List (Nat × List Nat × List Nat)} {ini fi : List Nat} {rs : List (Nat × Res)} {ops : Array Oper} {L : Act → (Nat → Value) → Prop} {k : Nat} {o : Oper} {rest : List Oper} {a : Act} {ρ : Nat → Value}
end
structure PX (w : World) (lo b : Nat) (c : Ci) (A : Option Addr) (ca : Nat) (O : Option Addr) (co : Nat) : Prop where
  bx : BxC w b c.i0 c.i1 A c.gs.length ca O c.os.length co
  fz : Fz w b
  ox : OwnX w lo b A c.gs.length ca O c.os.length co c.gs c.os
section
variable {w w' : World} {lo b : Nat} {c : Ci} {A : Option Addr} {ca : Nat} {O : Option Addr} {co : Nat}
theorem PX.lt (h : PX w lo b c A ca O co) : b < w.heap.size := h.bx.lt
theorem PX.below {B : Nat} (h : PX w lo b c A ca O co) (k : Below B w w') (hB : w.heap.size ≤ B) : PX w' lo b c A ca O co :=
  ⟨h.bx.below (k.mono hB), h.fz.below k (Nat.lt_of_lt_of_le h.lt hB), h.ox.below_ k hB⟩
theorem PX.new (w : World) (lo : Nat) (T : TypeId) : PX (w.alloc (.cells #[.int .i64 0, .int .i64 0, .slice none 0 0, .slice none 0 0] T)) lo w.heap.size ⟨0, 0, [], []⟩ none 0 none 0 :=
  ⟨BxC.new w T, Fz.new w _ _, OwnC.none_ _ _ _, by simp [Value.ownBlock], by simp [Value.ownBlock]⟩
theorem BxC.set0 {x y x' : Int} {Ag : Option Addr} {ng cg : Nat} {Ao : Option Addr} {no co : Nat} (h : BxC w b x y Ag ng cg Ao no co) : BxC (w.setCell ⟨b, 0, none⟩ (.int .i64 x')) b x' y Ag ng cg Ao no co :=
  ⟨World.cell?_setCell_same _ _ _ h.1, (World.cell?_setCell_other _ _ _ _ (by simp)).trans h.2.1, (World.cell?_setCell_other _ _ _ _ (by simp)).trans h.2.2.1, (World.cell?_setCell_other _ _ _ _ (by simp)).trans h.2.2.2⟩
theorem BxC.set1 {x y y' : Int} {Ag : Option Addr} {ng cg : Nat} {Ao : Option Addr} {no co : Nat} (h : BxC w b x y Ag ng cg Ao no co) : BxC (w.setCell ⟨b, 1, none⟩ (.int .i64 y')) b x y' Ag ng cg Ao no co :=
  ⟨(World.cell?_setCell_other _ _ _ _ (by simp)).trans h.1, World.cell?_setCell_same _ _ _ h.2.1, (World.cell?_setCell_other _ _ _ _ (by simp)).trans h.2.2.1, (World.cell?_setCell_other _ _ _ _ (by simp)).trans h.2.2.2⟩
theorem PX.set0 (h : PX w lo b c A ca O co) (x : Int) : PX (w.setCell ⟨b, 0, none⟩ (.int .i64 x)) lo b { c with i0 := x } A ca O co := ⟨h.bx.set0, h.fz.set _ _, h.ox.store 0 _⟩
theorem PX.set1 (h : PX w lo b c A ca O co) (x : Int) : PX (w.setCell ⟨b, 1, none⟩ (.int .i64 x)) lo b { c with i1 := x } A ca O co := ⟨h.bx.set1, h.fz.set _ _, h.ox.store 1 _⟩
theorem PX.outs (h : PX w lo b c A ca O co) {O' : Option Addr} {n d lo' : Nat} {os : List Int} (ho : Own w lo' w.heap.size (.slice O' n d) n os) (hlo : lo ≤ lo') (hA : ∀ g, (Value.slice A c.gs.length ca).ownBlock = some g → g < lo') (hb : b < lo') :
    PX (w.setCell ⟨b, 3, none⟩ (.slice O' n d)) lo b { c with os := os } A ca O' d := by
  obtain rfl : os.length = n := ho.len
  have hne : (Value.slice O' os.length d).ownBlock ≠ some b := fun hc => by have := ho.lt b hc; omega
  have hx : OwnX w lo b A c.gs.length ca O' os.length d c.gs os := ⟨⟨h.ox.1.1, (ho.lo_ hlo), fun g h1 h2 => by have := ho.lt g h2; have := hA g h1; omega⟩, h.ox.2.1, hne⟩
  exact ⟨h.bx.setO _ _ _, h.fz.set _ _, hx.store 3 _⟩
theorem PX.gate {wy : World} {A' : Option Addr} {ca' : Nat} {M : G3} (h : PX w lo b c A ca O co) (k : Alt (okB w (fun i => (Value.slice A c.gs.length ca).ownBlock = some i)) w wy)
    (hG : OwnG wy lo wy.heap.size (.slice A' (c.gs.length + 1) ca') (c.gs.length + 1) (c.gs ++ [M])) (hok : ∀ i, (Value.slice A' (c.gs.length + 1) ca').ownBlock = some i → okB w (fun i => (Value.slice A c.gs.length ca).ownBlock = some i) i) :
    PX (wy.setCell ⟨b, 2, none⟩ (.slice A' (c.gs.length + 1) ca')) lo b { c with gs := c.gs ++ [M] } A' ca' O co := by
  have hbS : ¬ okB w (fun i => (Value.slice A c.gs.length ca).ownBlock = some i) b := fun hc => hc.elim (fun h1 => by have := h.lt; omega) (fun h1 => h.ox.2.1 h1)
  have hOS : ∀ g, (Value.slice O c.os.length co).ownBlock = some g → ¬ okB w (fun i => (Value.slice A c.gs.length ca).ownBlock = some i) g := fun g hg hc => hc.elim (fun h1 => by have := h.ox.1.2.1.lt g hg; omega) (fun h1 => h.ox.1.2.2 g h1 hg)
  have hx : OwnX wy lo b A' (c.gs.length + 1) ca' O c.os.length co (c.gs ++ [M]) c.os := by
    refine ⟨⟨hG, (h.ox.1.2.1.alt k hOS).now, fun g h1 h2 => hOS g h2 (hok g h1)⟩, fun hc => hbS (hok b hc), h.ox.2.2⟩
  have hl : (c.gs ++ [M]).length = c.gs.length + 1 := by simp
  refine ⟨?_, (h.fz.alt k h.lt hbS).set _ _, ?_⟩
  · have := (h.bx.alt k hbS).setG A' (c.gs.length + 1) ca'
    show BxC _ b c.i0 c.i1 A' (c.gs ++ [M]).length ca' O c.os.length co
    rw [hl]; exact this
  · show OwnX _ lo b A' (c.gs ++ [M]).length ca' O c.os.length co (c.gs ++ [M]) c.os
    rw [hl]; exact hx.store 2 _
theorem PX.out {wy : World} {O' : Option Addr} {co' : Nat} {z : Int} (h : PX w lo b c A ca O co) (k : Alt (okB w (fun i => (Value.slice O c.os.length co).ownBlock = some i)) w wy)
    (hG : Own wy lo wy.heap.size (.slice O' (c.os.length + 1) co') (c.os.length + 1) (c.os ++ [z])) (hok : ∀ i, (Value.slice O' (c.os.length + 1) co').ownBlock = some i → okB w (fun i => (Value.slice O c.os.length co).ownBlock = some i) i) :
    PX (wy.setCell ⟨b, 3, none⟩ (.slice O' (c.os.length + 1) co')) lo b { c with os := c.os ++ [z] } A ca O' co' := by
  have hbS : ¬ okB w (fun i => (Value.slice O c.os.length co).ownBlock = some i) b := fun hc => hc.elim (fun h1 => by have := h.lt; omega) (fun h1 => h.ox.2.2 h1)
  have hOS : ∀ g, (Value.slice A c.gs.length ca).ownBlock = some g → ¬ okB w (fun i => (Value.slice O c.os.length co).ownBlock = some i) g := fun g hg hc => hc.elim (fun h1 => by have := h.ox.1.1.lt g hg; omega) (fun h1 => h.ox.1.2.2 g hg h1)
  have hx : OwnX wy lo b A c.gs.length ca O' (c.os.length + 1) co' c.gs (c.os ++ [z]) := by
    refine ⟨⟨(h.ox.1.1.alt k hOS).now, hG, fun g h1 h2 => hOS g h1 (hok g h2)⟩, h.ox.2.1, fun hc => hbS (hok b hc)⟩
  have hl : (c.os ++ [z]).length = c.os.length + 1 := by simp
  refine ⟨?_, (h.fz.alt k h.lt hbS).set _ _, ?_⟩
  · have := (h.bx.alt k hbS).setO O' (c.os.length + 1) co'
    show BxC _ b c.i0 c.i1 A c.gs.length ca O' (c.os ++ [z]).length co'
    rw [hl]; exact this
  · show OwnX _ lo b A c.gs.length ca O' (c.os ++ [z]).length co' c.gs (c.os ++ [z])
    rw [hl]; exact hx.store 3 _
end
section
variable {W : World} {own : Nat → Prop} {cs : List (Addr × Value)} {sk : List (Nat × List Nat × List Nat)} {fi : List Nat} {rs : List (Nat × Res)} {ρ : Nat → Value}
end
def Res.cur (W : World) (b : Nat) (R : Nat → Prop) (T : Nat) (n : Int) : Res :=
  ⟨fun _ v => ∃ x : Nat, ((x : Int) < n ∨ x = 0) ∧ v = .int .i64 x, fun _ _ w => Cur w b R T ∧ ∀ i, R i → i < w.heap.size ∧ w.heap[i]? = W.heap[i]?, fun _ _ c => c = b ∨ R c, fun _ => ⟨.int .i64 (0 : Nat), 0, .inr rfl, rfl⟩,
    fun _ v w w' S h k hb => ⟨h.1.alt k (hb b (.inl rfl)).1 (fun i hi => (hb i (.inr hi)).1), fun i hi => ⟨Nat.lt_of_lt_of_le (h.2 i hi).1 k.size, (k.block i (h.2 i hi).1 (hb i (.inr hi)).1).trans (h.2 i hi).2⟩⟩⟩
def postPick (w : World) (b : Nat) (R : Nat → Prop) (T : Nat) (n : Int) (v : Value) (w' : World) : Prop := ∃ x : Nat, ((x : Int) < n ∨ x = 0) ∧ v = .int .i64 x ∧ Cur w' b R T ∧ Alt (fun i => i = b) w w'
section
variable {P : Program} {W : World} {own : Nat → Prop} {cs : List (Addr × Value)} {sk : List (Nat × List Nat × List Nat)} {ini fi : List Nat} {rs : List (Nat × Res)} {ops : Array Oper} {L : Act → (Nat → Value) → Prop} {k : Nat} {o : Oper} {rest : List Oper} {a : Act} {ρ : Nat → Value}
theorem mem_pick (d b : Nat) (R : Nat → Prop) (T T' : Nat) (n n' : Int) (W0 : World) (v0 : Value) (hR : ¬ R b) (hr : resAt rs k = Res.cur W0 b R T' n') (he : effB sk k = true) (hrd : resAt rs d = Res.cur W0 b R T n) (hd : consL sk k = [d]) (hdd : d ∈ depsL sk k) (hρ : ρ d = v0)
    (hx : ∀ w, Alt (okB W own) W w → CellsL w cs → Cur w b R T → sepAt P o a (postPick w b R T' n') w)
    (h : ∀ x : Nat, ((x : Int) < n' ∨ x = 0) → wpSep (mkSep W own cs sk ini fi rs) P ops L (k + 1) rest (a.put o.dst (.int .i64 x)) (upd ρ k (.int .i64 x))) (hw : Region.wanted o (yielded ops a.tmps) = true := by first | exact wanted_none rfl | exact wanted_some rfl rfl rfl rfl) : wpSep (mkSep W own cs sk ini fi rs) P ops L k (o :: rest) a ρ :=
  mem_eff (hw := hw) _ hr he (fun w hw hc hp => by
    have h1 : Cur w b R T ∧ ∀ i, R i → i < w.heap.size ∧ w.heap[i]? = W0.heap[i]? := (has_dep hdd hp hρ hrd).1
    have hh : (mkSep W own cs sk ini fi rs).hit k ρ = fun c => c = b ∨ R c := hit_one hd hρ hrd
    rw [hh]
    refine sepAt_mono (hx w hw hc h1.1) fun v w' ⟨x, hx1, he1, hc1, ha1⟩ => ⟨⟨x, hx1, he1⟩, ⟨hc1, fun i hi => ?_⟩, ha1.mono_ (fun i _ hi => .inl hi), fun c hc => ⟨?_, .inr hc⟩⟩
    · exact ⟨Nat.lt_of_lt_of_le (h1.2 i hi).1 ha1.size, (ha1.block i (h1.2 i hi).1 (fun e => hR (e ▸ hi))).trans (h1.2 i hi).2⟩
    · rcases hc with hc | hc
      · subst hc; exact hc1.lt
      · exact Nat.lt_of_lt_of_le (h1.2 c hc).1 ha1.size) fun v hv => by
    obtain ⟨x, hx, rfl⟩ := hv
    exact h x hx
end
attribute [local go_sem] sepAt sepUpon pureAt pureUpon
theorem PX.alt {S : Nat → Prop} {w w' : World} {lo b : Nat} {C : Ci} {A : Option Addr} {ca : Nat} {O : Option Addr} {co : Nat} (h : PX w lo b C A ca O co) (k : Alt S w w') (hb : ¬ S b) (hs : ∀ g, lo ≤ g → ¬ S g) : PX w' lo b C A ca O co :=
  ⟨h.bx.alt k hb, h.fz.alt k h.lt hb, ⟨(h.ox.1.1.alt k (fun g hg => hs g (h.ox.1.1.lt g hg).1)).now, (h.ox.1.2.1.alt k (fun g hg => hs g (h.ox.1.2.1.lt g hg).1)).now, h.ox.1.2.2⟩, h.ox.2⟩
theorem alt_back {b : Nat} {R own : Nat → Prop} {base wr wy : World} (hk : Alt (fun i => i = b) base wr) (h : Alt (okB wr (fun i => (i = b ∨ R i) ∨ own i)) wr wy) (hown : ∀ i, own i → base.heap.size ≤ i) (hR : ∀ i, R i → wy.heap[i]? = wr.heap[i]?) : Alt (fun i => i = b) base wy :=
  ⟨h.os.trans hk.os, h.tape.trans hk.tape, h.output.trans hk.output, Nat.le_trans hk.size h.size, fun i hi hn => by
    have e := hk.block i hi hn
    by_cases hRi : R i
    · exact (hR i hRi).trans e
    · refine (h.block i (by have := hk.size; omega) (fun hc => ?_)).trans e
      rcases hc with h1 | (h1 | h1) | h1
      · have := hk.size; omega
      · exact hn h1
      · exact hRi h1
      · have := hown i h1; omega⟩
end Go.Proofs.YtenknpcbbcbciaaGreat
namespace Go.Proofs.YtenknpcbbcbciaaGreat
open Go.RowKit
set_option linter.unusedVariables false
set_option linter.unusedSimpArgs false
attribute [local go_sem] sepAt sepUpon pureAt pureUpon
def Res.anyQ (Q : Value → Prop) (hQ : ∃ v, Q v) : Res := ⟨fun _ v => Q v, fun _ _ _ => True, fun _ _ _ => False, fun _ => hQ, fun _ _ _ _ _ _ _ _ => trivial⟩
def Qg (v : Value) : Prop := ∃ k a b : Int, v = .agg #[.int .i64 k, .int .i64 a, .int .i64 b]
theorem Qg.one : ∃ v, Qg v := ⟨_, 0, 0, 0, rfl⟩
section
variable {P : Program} {W : World} {own : Nat → Prop} {cs : List (Addr × Value)} {sk : List (Nat × List Nat × List Nat)} {ini fi : List Nat} {rs : List (Nat × Res)} {ops : Array Oper} {L : Act → (Nat → Value) → Prop} {k : Nat} {o : Oper} {rest : List Oper} {a : Act} {ρ : Nat → Value}
theorem mem_any (Q : Value → Prop) (hQ : ∃ v, Q v) (hr : resAt rs k = Res.anyQ Q hQ) (he : effB sk k = true) (hx : ∀ w, Alt (okB W own) W w → CellsL w cs → (mkSep W own cs sk ini fi rs).pre k ρ w → sepAt P o a (fun v w' => Q v ∧ Below w.heap.size w w') w)
    (h : ∀ v, Q v → wpSep (mkSep W own cs sk ini fi rs) P ops L (k + 1) rest (a.put o.dst v) (upd ρ k v)) (hw : Region.wanted o (yielded ops a.tmps) = true := by first | exact wanted_none rfl | exact wanted_some rfl rfl rfl rfl) : wpSep (mkSep W own cs sk ini fi rs) P ops L k (o :: rest) a ρ :=
  mem_eff (hw := hw) _ hr he (fun w hw hc hp => sepAt_mono (hx w hw hc hp) fun v w' ⟨h1, h2⟩ => ⟨h1, trivial, Alt.of_new h2, fun b hb => hb.elim⟩) h
end
end Go.Proofs.YtenknpcbbcbciaaGreat
namespace Go.Proofs.YtenknpcbbcbciaaGreat
open Go.RowKit
set_option linter.unusedVariables false
set_option linter.unusedSimpArgs false
attribute [local go_sem] sepAt sepUpon pureAt pureUpon
def tblk (Y : Option Addr) (n : Nat) : Nat → Prop := fun q => 0 < n ∧ ∃ o, Y = some ⟨q, o, none⟩
theorem Cur.new {w : World} {Y : Option Addr} {n c : Nat} (hY : RY w Y n) : Cur (w.alloc (.cells #[.slice Y n c, .int .i64 0, .int .u64 0] 78)) w.heap.size (tblk Y n) 0 :=
  ⟨Fz.new w _ _, by simp, Y, n, c, 0, 0, box_cell _ _ 0 _ rfl, box_cell _ _ 1 _ rfl, box_cell _ _ 2 _ rfl, Nat.le_refl _, hY.alt (Alt.of_new (S := fun _ => False) ((Below.refl _ _).alloc (Nat.le_refl _) _)) (fun _ _ _ _ h => h), fun hn q o hq => ⟨⟨hn, o, hq⟩, by
    obtain ⟨b, o', h1, h2, _⟩ := hY.2 hn
    rw [hq] at h1; injection h1 with h1; injection h1 with h3 h4; omega⟩⟩
end Go.Proofs.YtenknpcbbcbciaaGreat
namespace Go.Proofs.YtenknpcbbcbciaaGreat
open Go.RowKit
set_option linter.unusedVariables false
set_option linter.unusedSimpArgs false
def MkO (w : World) (lo b : Nat) (x y : Int) (Ao : Option Addr) (no co : Nat) (gs : List G3) (G : Option Nat) : Prop :=
  b < w.heap.size ∧ G ≠ some b ∧ (∀ q, w.frozen? ⟨b, q, none⟩ = false) ∧ ∃ Ag cg, BxC w b x y Ag gs.length cg Ao no co ∧ OwnG w lo w.heap.size (.slice Ag gs.length cg) gs.length gs ∧ (Value.slice Ag gs.length cg).ownBlock = G
section
variable {w w' : World} {lo b : Nat} {x y : Int} {Ao : Option Addr} {no co : Nat} {gs : List G3} {G : Option Nat}
theorem MkO.lt (h : MkO w lo b x y Ao no co gs G) : ∀ g, G = some g → lo ≤ g ∧ g < w.heap.size := by
  obtain ⟨_, _, _, Ag, cg, _, ho, he⟩ := h
  intro g hg; have := ho.lt g (he.trans hg); omega
theorem MkO.below_ {B : Nat} (h : MkO w lo b x y Ao no co gs G) (k : Below B w w') (hB : w.heap.size ≤ B) : MkO w' lo b x y Ao no co gs G := by
  obtain ⟨h1, h2, hf, Ag, cg, hx, ho, he⟩ := h
  exact ⟨Nat.lt_of_lt_of_le h1 k.size, h2, fun q => (k.frozen (p := ⟨b, q, none⟩) (by show b < B; omega)).trans (hf q), Ag, cg, hx.below (k.mono hB), (ho.below k (.inl hB)).now, he⟩
theorem MkO.alloc_ (h : MkO w lo b x y Ao no co gs G) (o : Obj) : MkO (w.alloc o) lo b x y Ao no co gs G := h.below_ ((Below.refl _ _).alloc (Nat.le_refl _) o) (Nat.le_refl _)
theorem MkO.drewN_ (h : MkO w lo b x y Ao no co gs G) (k : Nat) : MkO (w.drewN k) lo b x y Ao no co gs G := h
theorem MkO.grown_ {r : Option Nat} (h : MkO w lo b x y Ao no co gs G) (k : w.grownBy w' r) (hb : r ≠ some b) (hG : ∀ g, r = some g → G ≠ some g) : MkO w' lo b x y Ao no co gs G := by
  obtain ⟨h1, h2, hf, Ag, cg, hx, ho, he⟩ := h
  have hc : ∀ {q : Nat} {v : Value}, w.cell? ⟨b, q, none⟩ = some v → w'.cell? ⟨b, q, none⟩ = some v := fun {q v} hv => (World.cell?_of_block (w := w) (k.block b h1 (fun e => hb e.symm))).trans hv
  refine ⟨Nat.lt_of_lt_of_le h1 k.size, h2, fun q => (World.frozen?_of_block (w := w) (a := ⟨b, q, none⟩) (k.block b h1 (fun e => hb e.symm))).trans (hf q), Ag, cg, ⟨hc hx.1, hc hx.2.1, hc hx.2.2.1, hc hx.2.2.2⟩, (ho.grown k ?_).now, he⟩
  cases hr : (Value.slice Ag gs.length cg).ownBlock with
  | none => exact .inl rfl
  | some g => exact .inr (fun hq => hG g hq.symm (he ▸ hr))
theorem MkO.new (w : World) (lo : Nat) (x y : Int) (T : TypeId) : MkO (w.alloc (.cells #[.int .i64 x, .int .i64 y, .slice none 0 0, .slice none 0 0] T)) lo w.heap.size x y none 0 0 [] none :=
  ⟨by simp, by simp, fun q => World.frozen?_alloc_at _ _ _ _ rfl, none, 0, BxC.new w T, OwnG.none_ _ _ _, rfl⟩
theorem MkO.made {w5 : World} {gs' : List G3} {Ag A5 : Option Addr} {n cg c5 : Nat} (h1 : b < w.heap.size) (h2 : (Value.slice Ag gs.length cg).ownBlock ≠ some b) (hf : ∀ q, w.frozen? ⟨b, q, none⟩ = false)
    (hbx : BxC w b x y Ag gs.length cg Ao no co) (hown : OwnG w5 lo w5.heap.size (.slice A5 n c5) n gs') (hg : w.grownBy w5 (Value.slice Ag gs.length cg).ownBlock)
    (hat : (Value.slice A5 n c5).ownBlock = (Value.slice Ag gs.length cg).ownBlock ∨ (Value.slice A5 n c5).ownBlock = some w.heap.size) :
    MkO (w5.setCell ⟨b, 2, none⟩ (.slice A5 n c5)) lo b x y Ao no co gs' (Value.slice A5 n c5).ownBlock ∧ Mv b (Value.slice Ag gs.length cg).ownBlock (Value.slice A5 n c5).ownBlock w (w5.setCell ⟨b, 2, none⟩ (.slice A5 n c5)) := by
  have hl := hown.len
  have hne : (Value.slice A5 n c5).ownBlock ≠ some b := by
    rcases hat with h | h
    · rw [h]; exact h2
    · rw [h]; intro hc; injection hc with hc; omega
  have hsz : w.heap.size ≤ w5.heap.size := hg.size
  subst hl
  refine ⟨⟨by simp; omega, hne, fun q => (World.frozen?_setCell _ _ _ _).trans ((World.frozen?_of_block (w := w) (a := ⟨b, q, none⟩) (hg.block b h1 (fun e => h2 e.symm))).trans (hf q)), A5, c5, (hbx.grown hg h2).setG _ _ _, ?_, rfl⟩, ?_⟩
  · simpa using hown.far1 ⟨b, 2, none⟩ (.slice A5 gs'.length c5) hne
  · refine ⟨hg.os, hg.tape, hg.output, by simpa using hsz, fun k hk hkb hkG => ?_, ?_⟩
    · rw [Below.heap_setCell _ _ _ _ hkb]; exact hg.block k hk (fun e => hkG e.symm)
    · rcases hat with h | h
      · exact .inl h
      · exact .inr ⟨_, h, Nat.le_refl _⟩
theorem MkO.outs (h : MkO w lo b x y Ao no co gs G) (A' : Option Addr) (n' c' : Nat) : MkO (w.setCell ⟨b, 3, none⟩ (.slice A' n' c')) lo b x y A' n' c' gs G := by
  obtain ⟨h1, h2, hf, Ag, cg, hx, ho, he⟩ := h
  refine ⟨by simpa using h1, h2, fun q => (World.frozen?_setCell _ _ _ _).trans (hf q), Ag, cg, hx.setO _ _ _, ?_, he⟩
  simpa using ho.far1 ⟨b, 3, none⟩ (.slice A' n' c') (he ▸ h2)
theorem Mv.outs {W : World} {G1 : Option Nat} (h : Mv b G G1 W w) (v : Value) (q : Nat) : Mv b G G1 W (w.setCell ⟨b, q, none⟩ v) :=
  ⟨h.os, h.tape, h.output, by simpa using h.size, fun k hk hkb hkG => by rw [Below.heap_setCell _ _ _ _ hkb]; exact h.block k hk hkb hkG, h.own⟩
end
end Go.Proofs.YtenknpcbbcbciaaGreat
