/- A circuit as text: what it is in plain words; the contracts of both functions that write it. Lengths as valid circuits have them. -/
import Derived.Test.YtnhmfedegfcflaaGreatDoorQR06
import Derived.Test.YtnhmfedegfcflaaGreatDoorQR05
namespace Go.Proofs.YtnhmfedegfcflaaGreatDoor
open Go.RowKit
set_option linter.unusedVariables false
set_option linter.unusedSimpArgs false
structure Res where
 vals : List Value → Value → Prop
 R : List Value → Value → World → Prop
 blk : List Value → Value → Nat → Prop
 inh : ∀ ds, ∃ v, vals ds v
 st : ∀ ds v w w' S, R ds v w → Alt S w w' → (∀ b, blk ds v b → ¬ S b ∧ b < w.heap.size) → R ds v w'
def Res.plain (u : Value) : Res := ⟨fun _ v => v = u, fun _ _ _ => True, fun _ _ _ => False, fun _ => ⟨u, rfl⟩, fun _ _ _ _ _ _ _ _ => trivial⟩
def Res.row (lo n : Nat) (xs : List Int) : Res :=
 ⟨fun _ v => ∃ A c, v = .slice A n c, fun _ v w => Own w lo w.heap.size v n xs, fun _ v b => v.ownBlock = some b, fun _ => ⟨.slice none n 0, none, 0, rfl⟩, fun _ v w w' S h k hb => (h.alt k fun g hg => (hb g hg).1).now⟩
def Res.rowG (lo n : Nat) (xs : List G3) : Res :=
 ⟨fun _ v => ∃ A c, v = .slice A n c, fun _ v w => OwnG w lo w.heap.size v n xs, fun _ v b => v.ownBlock = some b, fun _ => ⟨.slice none n 0, none, 0, rfl⟩, fun _ v w w' S h k hb => (h.alt k fun g hg => (hb g hg).1).now⟩
def CellsAt (w : World) (b : Nat) : Nat → List Value → Prop
 | _, [] => True
 | o, v :: l => w.cell? ⟨b, o, none⟩ = some v ∧ CellsAt w b (o + 1) l
theorem CellsAt.alt {S : Nat → Prop} {w w' : World} {b : Nat} (k : Alt S w w') (hb : ¬ S b) : ∀ {o : Nat} {l : List Value}, CellsAt w b o l → CellsAt w' b o l
 | _, [], _ => trivial
 | o, v :: l, h => ⟨k.cell_ h.1 hb, CellsAt.alt k hb h.2⟩
def Res.box (cs : List Value) : Res :=
 ⟨fun _ v => ∃ b, v = .pointer (some ⟨b, 0, none⟩), fun _ v w => ∀ b, v = .pointer (some ⟨b, 0, none⟩) → b < w.heap.size ∧ CellsAt w b 0 cs ∧ Fz w b, fun _ v b => v = .pointer (some ⟨b, 0, none⟩), fun _ => ⟨.pointer (some ⟨0, 0, none⟩), 0, rfl⟩,
  fun _ v w w' S h k hb b hv => ⟨Nat.lt_of_lt_of_le (h b hv).1 k.size, (h b hv).2.1.alt k (hb b hv).1, (h b hv).2.2.alt k (hb b hv).2 (hb b hv).1⟩⟩
def resAt (rs : List (Nat × Res)) (k : Nat) : Res := ((rs.find? fun e => e.1 == k).map fun e => e.2).getD (Res.plain undef)
def okB (W : World) (own : Nat → Prop) : Nat → Prop := fun b => W.heap.size ≤ b ∨ own b
def CellsL (w : World) (cs : List (Addr × Value)) : Prop := ∀ q ∈ cs, w.cell? q.1 = some q.2
theorem cC {w : World} : CellsL w [] = True := by simp [CellsL]
theorem cD {w : World} {c : Addr × Value} {cs : List (Addr × Value)} : CellsL w (c :: cs) = (w.cell? c.1 = some c.2 ∧ CellsL w cs) := by simp [CellsL]
def mkSep (W : World) (own : Nat → Prop) (cs : List (Addr × Value)) (sk : List (Nat × List Nat × List Nat)) (ini fi : List Nat) (rs : List (Nat × Res)) : Sep where
 C w := Alt (okB W own) W w ∧ CellsL w cs
 Ok := okB W own
 sk := sk
 inits := ini
 fin := fi
 vals k := (resAt rs k).vals
 R k := (resAt rs k).R
 blk k := (resAt rs k).blk
theorem Zaz {P : Program} {o : Oper} {a : Act} {post post' : Value → World → Prop} {w : World} (h : sepAt P o a post w) (hp : ∀ v w', post v w' → post' v w') : sepAt P o a post' w := by
 unfold sepAt at *
 generalize (execOp a.eval o).run P w = r at *
 cases r with
 | ok n w' =>
  cases n <;> simp only [sepUpon] at h ⊢
  case value u => exact hp _ _ h
  case skip => exact hp _ _ h
  case enter f args => exact h.mono fun e w'' ⟨v, he, h9⟩ => ⟨v, he, hp _ _ h9⟩
 | halt x w' => simp only [sepUpon] at h
section
variable {P : Program} {W : World} {own : Nat → Prop} {cs : List (Addr × Value)} {sk : List (Nat × List Nat × List Nat)} {ini fi : List Nat} {rs : List (Nat × Res)} {ops : Array Oper} {L : Act → (Nat → Value) → Prop} {k : Nat} {o : Oper} {rest : List Oper} {a : Act} {ρ : Nat → Value}
theorem firm_mk (hcs : ∀ q ∈ cs, ¬ own q.1.block ∧ q.1.block < W.heap.size) : Firm (mkSep W own cs sk ini fi rs) where
 C w w' S h k hS := by
  refine ⟨h.1.trans_ k fun i _ hi => hS i hi, fun q hq => ?_⟩
  obtain ⟨h1, h2⟩ := hcs q hq
  refine k.cell_ (h.2 q hq) fun hb => ?_
  rcases hS _ hb with h3 | h3
  ·omega
  ·exact h1 h3
 new w b h hb := .inl (Nat.le_trans h.1.size hb)
 R k ds v w w' S _ h ka _ hb := (resAt rs k).st ds v w w' S h ka hb
 vals k := (resAt rs k).inh
theorem Zau (n : Nat) (own : Nat → Prop) (cs : List (Addr × Value)) (sk : List (Nat × List Nat × List Nat)) (ini fi : List Nat) (rs : List (Nat × Res)) (ρ0 : Nat → Value) {id : Nat} {Q : Exit → Act → World → Prop} {l : List Oper} {w : World}
 (hm : P.follows .mixedOrders = true) (hB : tailB .any l.toArray n = true) (hG : (goodB .any l.toArray sk ini fi && sk.all fun e => decide (e.1 < n)) = true) (hcs : CellsL w cs) (hown : ∀ q ∈ cs, ¬ own q.1.block)
 (hi : (mkSep w own cs sk ini fi rs).hasAll ρ0 (World.drew w) ini) (ha : (mkSep w own cs sk ini fi rs).apart ρ0 ini)
 (h : wpSep (mkSep w own cs sk ini fi rs) P l.toArray (fun a ρ => ∀ w', Alt (okB w own) w w' → CellsL w' cs → (mkSep w own cs sk ini fi rs).hasAll ρ w' fi → (mkSep w own cs sk ini fi rs).apart ρ fi → wpList P l.toArray Q (l.drop n) a w') 0 (l.take n) a ρ0) : (Code.region id l.toArray true).wp P Q a w :=
 wp_region_sep (mkSep w own cs sk ini fi rs) n ρ0 hm hB hG (firm_mk fun q hq => ⟨hown q hq, World.block_lt_of_cell? w _ (hcs q hq)⟩)
  ⟨(Alt.refl_ _ w).drewN_ 1, fun q hq => hcs q hq⟩ hi ha (by
   have key : ∀ (l' : List Oper) (k : Nat) (a : Act) (ρ : Nat → Value), wpSep (mkSep w own cs sk ini fi rs) P l.toArray (fun a ρ => ∀ w', Alt (okB w own) w w' → CellsL w' cs → (mkSep w own cs sk ini fi rs).hasAll ρ w' fi → (mkSep w own cs sk ini fi rs).apart ρ fi → wpList P l.toArray Q (l.drop n) a w') k l' a ρ →
    wpSep (mkSep w own cs sk ini fi rs) P l.toArray (fun a ρ => ∀ w', (mkSep w own cs sk ini fi rs).C w' → (mkSep w own cs sk ini fi rs).hasAll ρ w' fi → (mkSep w own cs sk ini fi rs).apart ρ fi → wpList P l.toArray Q (l.drop n) a w') k l' a ρ := by
    intro l'
    induction l' with
    | nil => intro k a ρ h w' hw h1 h2; exact h w' hw.1 hw.2 h1 h2
    | cons o l' ih => intro k a ρ h; exact Zce (fun a ρ => ih (k + 1) a ρ) h
   exact key _ _ _ _ h)
theorem Zav (n : Nat) (cs : List (Addr × Value)) (sk : List (Nat × List Nat × List Nat)) (fi : List Nat) (rs : List (Nat × Res)) {id : Nat} {Q : Exit → Act → World → Prop} {l : List Oper} {w : World}
 (hm : P.follows .mixedOrders = true) (hB : tailB .any l.toArray n = true) (hG : (goodB .any l.toArray sk [] fi && sk.all fun e => decide (e.1 < n)) = true) (hcs : CellsL w cs)
 (h : wpSep (mkSep w (fun _ => False) cs sk [] fi rs) P l.toArray (fun a ρ => ∀ w', Alt (okB w (fun _ => False)) w w' → CellsL w' cs → (mkSep w (fun _ => False) cs sk [] fi rs).hasAll ρ w' fi → (mkSep w (fun _ => False) cs sk [] fi rs).apart ρ fi → wpList P l.toArray Q (l.drop n) a w') 0 (l.take n) a (fun _ => undef)) : (Code.region id l.toArray true).wp P Q a w :=
 Zau n (fun _ => False) cs sk [] fi rs _ hm hB hG hcs (fun _ _ h => h) trivial (fun d hd => by cases hd) h
theorem Zam {w : World} (h : Alt (okB W (fun _ => False)) W w) : Below W.heap.size W w := h.below_ lR fun i hi hn => by rcases hn with h | h <;> first | omega | exact h
theorem Zac {f : Nat → Option Bool} (h : o.guard = none) : Region.wanted o f = true := by unfold Region.wanted; rw [h]
theorem Zaa {l : List Oper} {ts : List Value} {g t : Nat} {want b : Bool} (hg : o.guard = some (g, want)) (ho : (l[g]?).bind (·.dst) = some t) (ht : ts[t]? = some (.bool b)) (hb : (b == want) = true) : Region.wanted o (yielded l.toArray ts.toArray) = true := by
 simp only [beq_iff_eq] at hb
 simp [Region.wanted, hg, yielded, ho, ht, hb]
theorem Zab {l : List Oper} {ts : List Value} {g t : Nat} {want b : Bool} (hg : o.guard = some (g, want)) (ho : (l[g]?).bind (·.dst) = some t) (ht : ts[t]? = some (.bool b)) (hb : (b == want) = false) : Region.wanted o (yielded l.toArray ts.toArray) = false := by
 simp only [beq_eq_false_iff_ne] at hb
 simp [Region.wanted, hg, yielded, ho, ht, hb]
theorem Zat (h : L a ρ) : wpSep (mkSep W own cs sk ini fi rs) P ops L k [] a ρ := h
theorem Zad (he : effB sk k = false) (hg : o.guard = none) (h : ∀ K : Act → Prop, (∀ a, wpSep (mkSep W own cs sk ini fi rs) P ops L (k + 1) rest a ρ → K a) → ∃ v, (∀ w, CellsL w cs → pureAt P o a w v) ∧ K (a.put o.dst v)) : wpSep (mkSep W own cs sk ini fi rs) P ops L k (o :: rest) a ρ := by
 show sepNode _ _ _ _ _ _ _ _
 unfold sepNode
 rw [if_neg (by show ¬ effB sk k = true; rw [he]; simp), if_pos (Zac hg)]
 obtain ⟨v, h1, h2⟩ := h _ (fun _ h => h)
 exact ⟨v, fun w hw => h1 w hw.2, h2⟩
theorem Zag (he : effB sk k = false) (hw : Region.wanted o (yielded ops a.tmps) = true) (h : ∀ K : Act → Prop, (∀ a, wpSep (mkSep W own cs sk ini fi rs) P ops L (k + 1) rest a ρ → K a) → ∃ v, (∀ w, CellsL w cs → pureAt P o a w v) ∧ K (a.put o.dst v)) : wpSep (mkSep W own cs sk ini fi rs) P ops L k (o :: rest) a ρ := by
 show sepNode _ _ _ _ _ _ _ _
 unfold sepNode
 rw [if_neg (by show ¬ effB sk k = true; rw [he]; simp), if_pos hw]
 obtain ⟨v, h1, h2⟩ := h _ (fun _ h => h)
 exact ⟨v, fun w hw => h1 w hw.2, h2⟩
theorem Zaf (he : effB sk k = false) (hw : Region.wanted o (yielded ops a.tmps) = false) (h : wpSep (mkSep W own cs sk ini fi rs) P ops L (k + 1) rest (a.put o.dst undef) ρ) : wpSep (mkSep W own cs sk ini fi rs) P ops L k (o :: rest) a ρ := by
 show sepNode _ _ _ _ _ _ _ _
 unfold sepNode
 rw [if_neg (by show ¬ effB sk k = true; rw [he]; simp), if_neg (by rw [hw]; simp)]
 exact h
theorem Zbl (r : Res) (hr : resAt rs k = r) (he : effB sk k = true)
 (hx : ∀ w, Alt (okB W own) W w → CellsL w cs → (mkSep W own cs sk ini fi rs).pre k ρ w → sepAt P o a (fun v w' => r.vals ((depsL sk k).map ρ) v ∧ r.R ((depsL sk k).map ρ) v w' ∧ Alt ((mkSep W own cs sk ini fi rs).hit k ρ) w w' ∧ ∀ b, r.blk ((depsL sk k).map ρ) v b → b < w'.heap.size ∧ (w.heap.size ≤ b ∨ (mkSep W own cs sk ini fi rs).hit k ρ b)) w)
 (h : ∀ v, r.vals ((depsL sk k).map ρ) v → wpSep (mkSep W own cs sk ini fi rs) P ops L (k + 1) rest (a.put o.dst v) (upd ρ k v)) (hw : Region.wanted o (yielded ops a.tmps) = true := by first | exact Zac rfl | exact Zaa rfl rfl rfl rfl) : wpSep (mkSep W own cs sk ini fi rs) P ops L k (o :: rest) a ρ := by
 subst hr
 show sepNode _ _ _ _ _ _ _ _
 unfold sepNode
 have he' : effB (mkSep W own cs sk ini fi rs).sk k = true := he
 rw [if_pos he']
 exact ⟨hw, fun w hw hp => Zaz (hx w hw.1 hw.2 hp) fun v w' h => h, fun v hv => h v hv⟩
def postPlain (w : World) (u v : Value) (w' : World) : Prop := v = u ∧ Below w.heap.size w w'
def postRow (w : World) (n : Nat) (xs : List Int) (v : Value) (w' : World) : Prop := ∃ A c, v = .slice A n c ∧ Own w' w.heap.size w'.heap.size (.slice A n c) n xs ∧ Below w.heap.size w w'
def postRowG (w : World) (n : Nat) (xs : List G3) (v : Value) (w' : World) : Prop := ∃ A c, v = .slice A n c ∧ OwnG w' w.heap.size w'.heap.size (.slice A n c) n xs ∧ Below w.heap.size w w'
def postBox (w : World) (cs : List Value) (v : Value) (w' : World) : Prop := ∃ b, v = .pointer (some ⟨b, 0, none⟩) ∧ w.heap.size ≤ b ∧ b < w'.heap.size ∧ CellsAt w' b 0 cs ∧ Fz w' b ∧ Below w.heap.size w w'
theorem Zbc (u : Value) (hr : resAt rs k = Res.plain u) (he : effB sk k = true) (hx : ∀ w, Alt (okB W own) W w → CellsL w cs → (mkSep W own cs sk ini fi rs).pre k ρ w → sepAt P o a (postPlain w u) w)
 (h : wpSep (mkSep W own cs sk ini fi rs) P ops L (k + 1) rest (a.put o.dst u) (upd ρ k u)) (hw : Region.wanted o (yielded ops a.tmps) = true := by first | exact Zac rfl | exact Zaa rfl rfl rfl rfl) : wpSep (mkSep W own cs sk ini fi rs) P ops L k (o :: rest) a ρ :=
 Zbl (hw := hw) _ hr he (fun w hw hc hp => Zaz (hx w hw hc hp) fun v w' ⟨h1, h2⟩ => ⟨h1, trivial, Alt.of_new h2, fun b hb => hb.elim⟩) fun v hv => by
  obtain rfl : v = u := hv
  exact h
theorem Zbt (lo n : Nat) (xs : List Int) (hr : resAt rs k = Res.row lo n xs) (he : effB sk k = true) (hlo : lo ≤ W.heap.size) (hx : ∀ w, Alt (okB W own) W w → CellsL w cs → (mkSep W own cs sk ini fi rs).pre k ρ w → sepAt P o a (postRow w n xs) w)
 (h : ∀ A c, wpSep (mkSep W own cs sk ini fi rs) P ops L (k + 1) rest (a.put o.dst (.slice A n c)) (upd ρ k (.slice A n c))) (hw : Region.wanted o (yielded ops a.tmps) = true := by first | exact Zac rfl | exact Zaa rfl rfl rfl rfl) : wpSep (mkSep W own cs sk ini fi rs) P ops L k (o :: rest) a ρ :=
 Zbl (hw := hw) _ hr he (fun w hw hc hp => Zaz (hx w hw hc hp) fun v w' ⟨A, c, h1, h2, h3⟩ => by
  subst h1
  exact ⟨⟨A, c, rfl⟩, h2.lo_ (Nat.le_trans hlo hw.size), Alt.of_new h3, fun b hb => ⟨(h2.lt b hb).2.2, .inl (h2.lt b hb).1⟩⟩) fun v hv => by
  obtain ⟨A, c, rfl⟩ := hv
  exact h A c
theorem mem_rowG (lo n : Nat) (xs : List G3) (hr : resAt rs k = Res.rowG lo n xs) (he : effB sk k = true) (hlo : lo ≤ W.heap.size) (hx : ∀ w, Alt (okB W own) W w → CellsL w cs → (mkSep W own cs sk ini fi rs).pre k ρ w → sepAt P o a (postRowG w n xs) w)
 (h : ∀ A c, wpSep (mkSep W own cs sk ini fi rs) P ops L (k + 1) rest (a.put o.dst (.slice A n c)) (upd ρ k (.slice A n c))) (hw : Region.wanted o (yielded ops a.tmps) = true := by first | exact Zac rfl | exact Zaa rfl rfl rfl rfl) : wpSep (mkSep W own cs sk ini fi rs) P ops L k (o :: rest) a ρ :=
 Zbl (hw := hw) _ hr he (fun w hw hc hp => Zaz (hx w hw hc hp) fun v w' ⟨A, c, h1, h2, h3⟩ => by
  subst h1
  exact ⟨⟨A, c, rfl⟩, h2.lo_ (Nat.le_trans hlo hw.size), Alt.of_new h3, fun b hb => ⟨(h2.lt b hb).2.2, .inl (h2.lt b hb).1⟩⟩) fun v hv => by
  obtain ⟨A, c, rfl⟩ := hv
  exact h A c
theorem mem_box (vs : List Value) (hr : resAt rs k = Res.box vs) (he : effB sk k = true) (hx : ∀ w, Alt (okB W own) W w → CellsL w cs → (mkSep W own cs sk ini fi rs).pre k ρ w → sepAt P o a (postBox w vs) w)
 (h : ∀ b, wpSep (mkSep W own cs sk ini fi rs) P ops L (k + 1) rest (a.put o.dst (.pointer (some ⟨b, 0, none⟩))) (upd ρ k (.pointer (some ⟨b, 0, none⟩)))) (hw : Region.wanted o (yielded ops a.tmps) = true := by first | exact Zac rfl | exact Zaa rfl rfl rfl rfl) : wpSep (mkSep W own cs sk ini fi rs) P ops L k (o :: rest) a ρ :=
 Zbl (hw := hw) _ hr he (fun w hw hc hp => Zaz (hx w hw hc hp) fun v w' ⟨b, h1, h2, h3, h4, h5, h6⟩ => by
  subst h1
  refine ⟨⟨b, rfl⟩, fun b' hb' => ?_, Alt.of_new h6, fun b' hb' => ?_⟩
  ·simp only [Value.pointer.injEq, Option.some.injEq, Addr.mk.injEq, and_true] at hb'
   subst hb'
   exact ⟨h3, h4, h5⟩
  ·have hb'' : Value.pointer (some ⟨b, 0, none⟩) = .pointer (some ⟨b', 0, none⟩) := hb'
   simp only [Value.pointer.injEq, Option.some.injEq, Addr.mk.injEq, and_true] at hb''
   subst hb''
   exact ⟨h3, .inl h2⟩) fun v hv => by
  obtain ⟨b, rfl⟩ := hv
  exact h b
end
theorem postBox.new (w : World) (vs : List Value) (T) (h : CellsAt (w.alloc (.cells vs.toArray T)) w.heap.size 0 vs) : postBox w vs (.pointer (some ⟨w.heap.size, 0, none⟩)) (w.alloc (.cells vs.toArray T)) :=
 ⟨w.heap.size, rfl, Nat.le_refl _, by simp, h, Fz.new w _ _, bA⟩
theorem postRow.mk_ {w w' : World} {n c : Nat} {A : Option Addr} {xs : List Int} (h : Own w' w.heap.size w'.heap.size (.slice A n c) n xs) (hb : Below w.heap.size w w') : postRow w n xs (.slice A n c) w' := ⟨A, c, rfl, h, hb⟩
theorem postRowG.mk_ {w w' : World} {n c : Nat} {A : Option Addr} {xs : List G3} (h : OwnG w' w.heap.size w'.heap.size (.slice A n c) n xs) (hb : Below w.heap.size w w') : postRowG w n xs (.slice A n c) w' := ⟨A, c, rfl, h, hb⟩
theorem postPlain.mk_ {w w' : World} {u : Value} (hb : Below w.heap.size w w') : postPlain w u u w' := ⟨rfl, hb⟩
theorem postRow.new (w : World) (ys : List Int) (n : Nat) (hn : ys.length = n) (hm : n ≤ 4194304) : postRow w n ys (.slice (some ⟨w.heap.size, 0, none⟩) n n) (w.alloc (.cells (ys.map (Value.int .i64)).toArray 3)) :=
 ⟨_, _, rfl, (Own_new w ys n w.heap.size hn lR hm).hi_ (by simp), bA⟩
theorem postRow.new1 (w : World) (x : Int) : postRow w 1 [x] (.slice (some ⟨w.heap.size, 0, none⟩) 1 1) (w.alloc (.cells #[.int .i64 x] 3)) := by simpa using postRow.new w [x] 1 rfl (by omega)
theorem postRow.new2 (w : World) (x y : Int) : postRow w 2 [x, y] (.slice (some ⟨w.heap.size, 0, none⟩) 2 2) (w.alloc (.cells #[.int .i64 x, .int .i64 y] 3)) := by simpa using postRow.new w [x, y] 2 rfl (by omega)
attribute [local go_sem] sepAt sepUpon pureAt pureUpon
def gwL : Nat → List UInt8
 | 0 => [120, 111, 114]
 | 1 => [97, 110, 100]
 | 2 => [110, 111, 116]
 | _ => [111, 110, 101]
def prtT (g : G3) : List Int := if g.k = 2 then [g.a] else if g.k = 3 then [] else [g.a, g.b]
def gateT (g : G3) : List UInt8 := lineL (gwL g.k.toNat) (prtT g)
structure GSm (g : G3) : Prop where
 k : 0 ≤ g.k ∧ g.k ≤ 3
 a : 0 ≤ g.a ∧ g.a ≤ 1000000
 b : 0 ≤ g.b ∧ g.b ≤ 1000000
theorem GSm.of_is {g : G3} {n : Int} (h : GateIs g n) (hn : n ≤ 1000000) : GSm g := by
 cases h with
 | xor_ hk a0 a1 b0 b1 => exact ⟨by omega, by omega, by omega⟩
 | and_ hk a0 a1 b0 b1 => exact ⟨by omega, by omega, by omega⟩
 | not_ hk a0 a1 b0 => exact ⟨by omega, by omega, by omega⟩
 | one_ hk a0 b0 => exact ⟨by omega, by omega, by omega⟩
theorem prtT_small {g : G3} (h : GSm g) : smallN (prtT g) := by
 intro n hn
 have := h.a; have := h.b
 unfold prtT at hn
 split at hn
 ·simp only [List.mem_cons, List.not_mem_nil, or_false] at hn; subst hn; omega
 ·split at hn
  ·simp at hn
  ·simp only [List.mem_cons, List.not_mem_nil, or_false] at hn; rcases hn with rfl | rfl <;> omega
theorem prtT_len (g : G3) : (prtT g).length ≤ 2 := by
 unfold prtT
 split
 ·simp
 ·split <;> simp
theorem gwL_len (k : Nat) : (gwL k).length = 3 := by unfold gwL; split <;> rfl
theorem Zcl {wd : List UInt8} {ns : List Int} (h : smallN ns) : (lineL wd ns).length ≤ wd.length + 22 * ns.length + 1 := by
 have := numsL_len h
 simp only [lineL, List.length_append, List.length_cons, List.length_nil]; omega
theorem gateT_len {g : G3} (h : GSm g) : (gateT g).length ≤ 60 := by
 have h1 := Zcl (wd := gwL g.k.toNat) (prtT_small h)
 have h2 := prtT_len g
 have h3 := gwL_len g.k.toNat
 unfold gateT; omega
def gatesT (gs : List G3) : List UInt8 := gs.flatMap gateT
theorem Zcm {gs : List G3} (h : ∀ k, k < gs.length → GSm (gg gs k)) : ∀ j, j ≤ gs.length → (gatesT (gs.take j)).length ≤ 60 * j := by
 intro j
 induction j with
 | zero => intro _; simp [gatesT]
 | succ j ih =>
  intro hj
  have h1 := ih (by omega)
  have h2 := gateT_len (h j (by omega))
  have h3 : gs.take (j + 1) = gs.take j ++ [gg gs j] := by rw [List.take_succ_eq_append_getElem (by omega)]; simp [gg, List.getElem?_eq_getElem (show j < gs.length by omega)]
  rw [h3]
  simp only [gatesT, List.flatMap_append, List.length_append, List.flatMap_cons, List.flatMap_nil, List.append_nil] at h1 ⊢
  omega
theorem gatesT_snoc {gs : List G3} {j : Nat} (h : j < gs.length) : gatesT (gs.take (j + 1)) = gatesT (gs.take j) ++ gateT (gg gs j) := by
 have h3 : gs.take (j + 1) = gs.take j ++ [gg gs j] := by rw [List.take_succ_eq_append_getElem (by omega)]; simp [gg, List.getElem?_eq_getElem h]
 rw [h3]; simp [gatesT]
def circT (x y : Int) (gs : List G3) (os : List Int) : List UInt8 := lineL [99, 105, 114, 99, 117, 105, 116] [x, y] ++ gatesT gs ++ lineL [111, 117, 116, 115] os
def ctF (x y : Int) (gs : List G3) (os : List Int) : List UInt8 := if circB x y gs os then circT x y gs os else []
theorem circB_gsm {x y : Int} {gs : List G3} {os : List Int} (h : circB x y gs os = true) : ∀ k, k < gs.length → GSm (gg gs k) := fun k hk => by
 have hb := Zao h
 exact .of_is (Zbx hb.2.2.2.2.1 hk) (by omega)
theorem circB_osm {x y : Int} {gs : List G3} {os : List Int} (h : circB x y gs os = true) : smallN os := fun n hn => by
 have hb := Zao h
 have := allB_iff.1 hb.2.2.2.2.2 n hn
 omega
structure GWs (w : World) : Prop where
 lt : 0 < w.heap.size
 w0 : w.cell? ⟨0, 0, none⟩ = some (.string ⟨#[120, 111, 114]⟩)
 w1 : w.cell? ⟨0, 1, none⟩ = some (.string ⟨#[97, 110, 100]⟩)
 w2 : w.cell? ⟨0, 2, none⟩ = some (.string ⟨#[110, 111, 116]⟩)
 w3 : w.cell? ⟨0, 3, none⟩ = some (.string ⟨#[111, 110, 101]⟩)
theorem GWs.below {B : Nat} {w w' : World} (h : GWs w) (hb : Below B w w') (hB : w.heap.size ≤ B) : GWs w' :=
 ⟨Nat.lt_of_lt_of_le h.lt hb.size, cell_on hb h.w0 hB, cell_on hb h.w1 hB, cell_on hb h.w2 hB, cell_on hb h.w3 hB⟩
theorem RI_none (w : World) : RI w none 0 [] := ⟨rfl, fun h => absurd h (by omega)⟩
set_option maxRecDepth 100000 in
theorem gateLine_any (g : G3) (w : World) (hg : GSm g) (ht : PT w) (hw : GWs w) :
 Calls Tryz.prog 65 #[.agg #[.int .i64 g.k, .int .i64 g.a, .int .i64 g.b]] w fun e w' => e = .returned (.string (bs (gateT g))) ∧ Below w.heap.size w w' := by
 have hsm := prtT_small hg
 obtain ⟨gk, ga, gb⟩ := g
 obtain ⟨⟨hk0, hk1⟩, _, _⟩ := hg
 dsimp only at hk0 hk1
 have hB : Below w.heap.size w (w.alloc (.cells #[.int .i64 gk, .int .i64 ga, .int .i64 gb] 49)) := bA
 have hzB := hB.size
 have ht1 := ht.below hB lR
 have hw1 := hw.below hB lR
 obtain ⟨_, g0, g1, g2, g3⟩ := hw1
 have hk : gk = 0 ∨ gk = 1 ∨ gk = 2 ∨ gk = 3 := by omega
 rcases hk with rfl | rfl | rfl | rfl
 ·have HR : Hid (gateT ⟨0, ga, gb⟩ = lineL [120, 111, 114] [ga, gb]) := zH rfl
  replace hsm : smallN [ga, gb] := hsm
  go_enter Tryz.func65, Tryz.ntmps65
  go_wp2_with fail
  refine Zav (11) [(⟨w.heap.size, 0, none⟩, .int .i64 0), (⟨w.heap.size, 1, none⟩, .int .i64 ga), (⟨w.heap.size, 2, none⟩, .int .i64 gb), (⟨0, 0, none⟩, .string ⟨#[120, 111, 114]⟩)] [(8, [], []), (9, [8], [])] [] [(8, Res.row w.heap.size 2 [ga, gb]), (9, Res.plain (.string (bs (lineL [120, 111, 114] [ga, gb]))))] (by kernel_rfl) (by kernel_rfl) (by kernel_rfl) (by simp only [cD, cC, and_true]; repeat (any_goals (apply And.intro)); all_goals (first | assumption | go_simp)) ?_
  simp only [List.take_succ_cons, List.take_zero, List.drop_succ_cons, List.drop_zero, List.take_nil, List.drop_nil, List.take, List.drop]
  repeat (first
   | ((first
    | ((with_reducible refine Zad ?_ ?_ ?_)
       ·exact rfl
       ·exact rfl)
    | ((with_reducible refine Zag ?_ ?_ ?_)
       ·exact rfl
       ·exact Zaa rfl rfl rfl rfl))
      intro K hK
      apply Exists.intro
      refine ⟨fun w3 hw3 => ?_, ?_⟩
      ·have hcs := hw3
       simp only [cD, cC, and_true] at hcs
       clear hw3
       go_simp
       first | done | exact ⟨rfl, rfl⟩ | rfl
      refine hK _ ?_
      clear hK K
      try simp only [pA, pB, sA, sB, sC])
   | ((with_reducible refine Zaf ?_ ?_ ?_)
      ·exact rfl
      ·exact Zab rfl rfl rfl rfl
      simp only [pA, pB, sA, sB, sC]))
  focus
   (with_reducible refine Zbt w.heap.size 2 [ga, gb] ?_ ?_ ?_ ?_ ?_ (hw := ?_))
   ·exact rfl
   ·exact rfl
   ·omega
   ·intro w3 hw3 hc3 hp3
    have hcs := hc3
    simp only [cD, cC, and_true] at hcs
    (go_simp; exact postRow.new2 _ _ _)
   rotate_left
   ·first | exact Zac rfl | exact Zaa rfl rfl rfl rfl
   intro A6 c6
   try simp only [pA, pB, sA, sB, sC]
  repeat (first
   | ((first
    | ((with_reducible refine Zad ?_ ?_ ?_)
       ·exact rfl
       ·exact rfl)
    | ((with_reducible refine Zag ?_ ?_ ?_)
       ·exact rfl
       ·exact Zaa rfl rfl rfl rfl))
      intro K hK
      apply Exists.intro
      refine ⟨fun w3 hw3 => ?_, ?_⟩
      ·have hcs := hw3
       simp only [cD, cC, and_true] at hcs
       clear hw3
       go_simp
       first | done | exact ⟨rfl, rfl⟩ | rfl
      refine hK _ ?_
      clear hK K
      try simp only [pA, pB, sA, sB, sC])
   | ((with_reducible refine Zaf ?_ ?_ ?_)
      ·exact rfl
      ·exact Zab rfl rfl rfl rfl
      simp only [pA, pB, sA, sB, sC]))
  focus
   (with_reducible refine Zbc (.string (bs (lineL [120, 111, 114] [ga, gb]))) ?_ ?_ ?_ ?_ (hw := ?_))
   ·exact rfl
   ·exact rfl
   ·intro w3 hw3 hc3 hp3
    have hcs := hc3
    simp only [cD, cC, and_true] at hcs
    (have h6 : Own w3 w.heap.size w3.heap.size (.slice A6 2 c6) 2 [ga, gb] := hp3.1.1.1; have ht3 := ht.below (hB.trans ((Zam hw3).mono hB.size)) lR; go_simp; refine (line_any ⟨#[120, 111, 114]⟩ A6 2 c6 [ga, gb] _ h6.reads (by omega) hsm (by decide) ht3).mono ?_; rintro e w4 ⟨rfl, hb4⟩; exact retPost.mk_ (postPlain.mk_ hb4))
   rotate_left
   ·first | exact Zac rfl | exact Zaa rfl rfl rfl rfl
   try simp only [pA, pB, sA, sB, sC]
  repeat (first
   | ((first
    | ((with_reducible refine Zad ?_ ?_ ?_)
       ·exact rfl
       ·exact rfl)
    | ((with_reducible refine Zag ?_ ?_ ?_)
       ·exact rfl
       ·exact Zaa rfl rfl rfl rfl))
      intro K hK
      apply Exists.intro
      refine ⟨fun w3 hw3 => ?_, ?_⟩
      ·have hcs := hw3
       simp only [cD, cC, and_true] at hcs
       clear hw3
       go_simp
       first | done | exact ⟨rfl, rfl⟩ | rfl
      refine hK _ ?_
      clear hK K
      try simp only [pA, pB, sA, sB, sC])
   | ((with_reducible refine Zaf ?_ ?_ ?_)
      ·exact rfl
      ·exact Zab rfl rfl rfl rfl
      simp only [pA, pB, sA, sB, sC]))
  refine Zat ?_
  intro wt hwt hct hfin hap
  have hb5 := hB.trans ((Zam hwt).mono hB.size)
  go_wp2
  go_ret
  exact ⟨by rw [HR.out]; rfl, hb5⟩
 ·have HR : Hid (gateT ⟨1, ga, gb⟩ = lineL [97, 110, 100] [ga, gb]) := zH rfl
  replace hsm : smallN [ga, gb] := hsm
  go_enter Tryz.func65, Tryz.ntmps65
  go_wp2_with fail
  refine Zav (11) [(⟨w.heap.size, 0, none⟩, .int .i64 1), (⟨w.heap.size, 1, none⟩, .int .i64 ga), (⟨w.heap.size, 2, none⟩, .int .i64 gb), (⟨0, 1, none⟩, .string ⟨#[97, 110, 100]⟩)] [(8, [], []), (9, [8], [])] [] [(8, Res.row w.heap.size 2 [ga, gb]), (9, Res.plain (.string (bs (lineL [97, 110, 100] [ga, gb]))))] (by kernel_rfl) (by kernel_rfl) (by kernel_rfl) (by simp only [cD, cC, and_true]; repeat (any_goals (apply And.intro)); all_goals (first | assumption | go_simp)) ?_
  simp only [List.take_succ_cons, List.take_zero, List.drop_succ_cons, List.drop_zero, List.take_nil, List.drop_nil, List.take, List.drop]
  repeat (first
   | ((first
    | ((with_reducible refine Zad ?_ ?_ ?_)
       ·exact rfl
       ·exact rfl)
    | ((with_reducible refine Zag ?_ ?_ ?_)
       ·exact rfl
       ·exact Zaa rfl rfl rfl rfl))
      intro K hK
      apply Exists.intro
      refine ⟨fun w3 hw3 => ?_, ?_⟩
      ·have hcs := hw3
       simp only [cD, cC, and_true] at hcs
       clear hw3
       go_simp
       first | done | exact ⟨rfl, rfl⟩ | rfl
      refine hK _ ?_
      clear hK K
      try simp only [pA, pB, sA, sB, sC])
   | ((with_reducible refine Zaf ?_ ?_ ?_)
      ·exact rfl
      ·exact Zab rfl rfl rfl rfl
      simp only [pA, pB, sA, sB, sC]))
  focus
   (with_reducible refine Zbt w.heap.size 2 [ga, gb] ?_ ?_ ?_ ?_ ?_ (hw := ?_))
   ·exact rfl
   ·exact rfl
   ·omega
   ·intro w3 hw3 hc3 hp3
    have hcs := hc3
    simp only [cD, cC, and_true] at hcs
    (go_simp; exact postRow.new2 _ _ _)
   rotate_left
   ·first | exact Zac rfl | exact Zaa rfl rfl rfl rfl
   intro A6 c6
   try simp only [pA, pB, sA, sB, sC]
  repeat (first
   | ((first
    | ((with_reducible refine Zad ?_ ?_ ?_)
       ·exact rfl
       ·exact rfl)
    | ((with_reducible refine Zag ?_ ?_ ?_)
       ·exact rfl
       ·exact Zaa rfl rfl rfl rfl))
      intro K hK
      apply Exists.intro
      refine ⟨fun w3 hw3 => ?_, ?_⟩
      ·have hcs := hw3
       simp only [cD, cC, and_true] at hcs
       clear hw3
       go_simp
       first | done | exact ⟨rfl, rfl⟩ | rfl
      refine hK _ ?_
      clear hK K
      try simp only [pA, pB, sA, sB, sC])
   | ((with_reducible refine Zaf ?_ ?_ ?_)
      ·exact rfl
      ·exact Zab rfl rfl rfl rfl
      simp only [pA, pB, sA, sB, sC]))
  focus
   (with_reducible refine Zbc (.string (bs (lineL [97, 110, 100] [ga, gb]))) ?_ ?_ ?_ ?_ (hw := ?_))
   ·exact rfl
   ·exact rfl
   ·intro w3 hw3 hc3 hp3
    have hcs := hc3
    simp only [cD, cC, and_true] at hcs
    (have h6 : Own w3 w.heap.size w3.heap.size (.slice A6 2 c6) 2 [ga, gb] := hp3.1.1.1; have ht3 := ht.below (hB.trans ((Zam hw3).mono hB.size)) lR; go_simp; refine (line_any ⟨#[97, 110, 100]⟩ A6 2 c6 [ga, gb] _ h6.reads (by omega) hsm (by decide) ht3).mono ?_; rintro e w4 ⟨rfl, hb4⟩; exact retPost.mk_ (postPlain.mk_ hb4))
   rotate_left
   ·first | exact Zac rfl | exact Zaa rfl rfl rfl rfl
   try simp only [pA, pB, sA, sB, sC]
  repeat (first
   | ((first
    | ((with_reducible refine Zad ?_ ?_ ?_)
       ·exact rfl
       ·exact rfl)
    | ((with_reducible refine Zag ?_ ?_ ?_)
       ·exact rfl
       ·exact Zaa rfl rfl rfl rfl))
      intro K hK
      apply Exists.intro
      refine ⟨fun w3 hw3 => ?_, ?_⟩
      ·have hcs := hw3
       simp only [cD, cC, and_true] at hcs
       clear hw3
       go_simp
       first | done | exact ⟨rfl, rfl⟩ | rfl
      refine hK _ ?_
      clear hK K
      try simp only [pA, pB, sA, sB, sC])
   | ((with_reducible refine Zaf ?_ ?_ ?_)
      ·exact rfl
      ·exact Zab rfl rfl rfl rfl
      simp only [pA, pB, sA, sB, sC]))
  refine Zat ?_
  intro wt hwt hct hfin hap
  have hb5 := hB.trans ((Zam hwt).mono hB.size)
  go_wp2
  go_ret
  exact ⟨by rw [HR.out]; rfl, hb5⟩
 ·have HR : Hid (gateT ⟨2, ga, gb⟩ = lineL [110, 111, 116] [ga]) := zH rfl
  replace hsm : smallN [ga] := hsm
  go_enter Tryz.func65, Tryz.ntmps65
  go_wp2_with fail
  refine Zav (9) [(⟨w.heap.size, 0, none⟩, .int .i64 2), (⟨w.heap.size, 1, none⟩, .int .i64 ga), (⟨w.heap.size, 2, none⟩, .int .i64 gb), (⟨0, 2, none⟩, .string ⟨#[110, 111, 116]⟩)] [(6, [], []), (7, [6], [])] [] [(6, Res.row w.heap.size 1 [ga]), (7, Res.plain (.string (bs (lineL [110, 111, 116] [ga]))))] (by kernel_rfl) (by kernel_rfl) (by kernel_rfl) (by simp only [cD, cC, and_true]; repeat (any_goals (apply And.intro)); all_goals (first | assumption | go_simp)) ?_
  simp only [List.take_succ_cons, List.take_zero, List.drop_succ_cons, List.drop_zero, List.take_nil, List.drop_nil, List.take, List.drop]
  repeat (first
   | ((first
    | ((with_reducible refine Zad ?_ ?_ ?_)
       ·exact rfl
       ·exact rfl)
    | ((with_reducible refine Zag ?_ ?_ ?_)
       ·exact rfl
       ·exact Zaa rfl rfl rfl rfl))
      intro K hK
      apply Exists.intro
      refine ⟨fun w3 hw3 => ?_, ?_⟩
      ·have hcs := hw3
       simp only [cD, cC, and_true] at hcs
       clear hw3
       go_simp
       first | done | exact ⟨rfl, rfl⟩ | rfl
      refine hK _ ?_
      clear hK K
      try simp only [pA, pB, sA, sB, sC])
   | ((with_reducible refine Zaf ?_ ?_ ?_)
      ·exact rfl
      ·exact Zab rfl rfl rfl rfl
      simp only [pA, pB, sA, sB, sC]))
  focus
   (with_reducible refine Zbt w.heap.size 1 [ga] ?_ ?_ ?_ ?_ ?_ (hw := ?_))
   ·exact rfl
   ·exact rfl
   ·omega
   ·intro w3 hw3 hc3 hp3
    have hcs := hc3
    simp only [cD, cC, and_true] at hcs
    (go_simp; exact postRow.new1 _ _)
   rotate_left
   ·first | exact Zac rfl | exact Zaa rfl rfl rfl rfl
   intro A6 c6
   try simp only [pA, pB, sA, sB, sC]
  repeat (first
   | ((first
    | ((with_reducible refine Zad ?_ ?_ ?_)
       ·exact rfl
       ·exact rfl)
    | ((with_reducible refine Zag ?_ ?_ ?_)
       ·exact rfl
       ·exact Zaa rfl rfl rfl rfl))
      intro K hK
      apply Exists.intro
      refine ⟨fun w3 hw3 => ?_, ?_⟩
      ·have hcs := hw3
       simp only [cD, cC, and_true] at hcs
       clear hw3
       go_simp
       first | done | exact ⟨rfl, rfl⟩ | rfl
      refine hK _ ?_
      clear hK K
      try simp only [pA, pB, sA, sB, sC])
   | ((with_reducible refine Zaf ?_ ?_ ?_)
      ·exact rfl
      ·exact Zab rfl rfl rfl rfl
      simp only [pA, pB, sA, sB, sC]))
  focus
   (with_reducible refine Zbc (.string (bs (lineL [110, 111, 116] [ga]))) ?_ ?_ ?_ ?_ (hw := ?_))
   ·exact rfl
   ·exact rfl
   ·intro w3 hw3 hc3 hp3
    have hcs := hc3
    simp only [cD, cC, and_true] at hcs
    (have h6 : Own w3 w.heap.size w3.heap.size (.slice A6 1 c6) 1 [ga] := hp3.1.1.1; have ht3 := ht.below (hB.trans ((Zam hw3).mono hB.size)) lR; go_simp; refine (line_any ⟨#[110, 111, 116]⟩ A6 1 c6 [ga] _ h6.reads (by omega) hsm (by decide) ht3).mono ?_; rintro e w4 ⟨rfl, hb4⟩; exact retPost.mk_ (postPlain.mk_ hb4))
   rotate_left
   ·first | exact Zac rfl | exact Zaa rfl rfl rfl rfl
   try simp only [pA, pB, sA, sB, sC]
  repeat (first
   | ((first
    | ((with_reducible refine Zad ?_ ?_ ?_)
       ·exact rfl
       ·exact rfl)
    | ((with_reducible refine Zag ?_ ?_ ?_)
       ·exact rfl
       ·exact Zaa rfl rfl rfl rfl))
      intro K hK
      apply Exists.intro
      refine ⟨fun w3 hw3 => ?_, ?_⟩
      ·have hcs := hw3
       simp only [cD, cC, and_true] at hcs
       clear hw3
       go_simp
       first | done | exact ⟨rfl, rfl⟩ | rfl
      refine hK _ ?_
      clear hK K
      try simp only [pA, pB, sA, sB, sC])
   | ((with_reducible refine Zaf ?_ ?_ ?_)
      ·exact rfl
      ·exact Zab rfl rfl rfl rfl
      simp only [pA, pB, sA, sB, sC]))
  refine Zat ?_
  intro wt hwt hct hfin hap
  have hb5 := hB.trans ((Zam hwt).mono hB.size)
  go_wp2
  go_ret
  exact ⟨by rw [HR.out]; rfl, hb5⟩
 ·have HR : Hid (gateT ⟨3, ga, gb⟩ = lineL [111, 110, 101] []) := zH rfl
  go_enter Tryz.func65, Tryz.ntmps65
  go_wp2_with fail
  refine (line_any ⟨#[111, 110, 101]⟩ none 0 0 [] _ (RI_none _) (by omega) (fun n hn => by cases hn) (by decide) ht1).mono ?_
  rintro e w4 ⟨rfl, hb4⟩
  go_wp2
  go_ret
  exact ⟨by rw [HR.out]; rfl, hB.trans (hb4.mono hzB)⟩
set_option maxRecDepth 100000 in
set_option maxHeartbeats 2000000 in
theorem CircuitText_any (x y : Int) (Ag : Option Addr) (ng cg : Nat) (Ao : Option Addr) (no co : Nat) (gs : List G3) (os : List Int) (w : World) (hr : RG w Ag ng gs ∧ RI w Ao no os) (hng : ng ≤ 2097152) (hno : no ≤ 2097152) (ht : PT w) (hw : GWs w) :
 Calls Tryz.prog 22 #[.agg #[.int .i64 x, .int .i64 y, .slice Ag ng cg, .slice Ao no co]] w fun e w' => e = .returned (.tuple #[.string (bs (ctF x y gs os)), .bool (circB x y gs os)]) ∧ Below w.heap.size w w' := by
 have hlg := hr.1.len
 have hlo := hr.2.len
 have hB : Below w.heap.size w (w.alloc (.cells #[.int .i64 x, .int .i64 y, .slice Ag ng cg, .slice Ao no co] 27)) := bA
 have hx0 : BxC (w.alloc (.cells #[.int .i64 x, .int .i64 y, .slice Ag ng cg, .slice Ao no co] 27)) w.heap.size x y Ag ng cg Ao no co := BxC.new w _
 cases h1 : circB x y gs os with
 | false =>
  have HR : Hid (ctF x y gs os = []) := zH (by simp [ctF, h1])
  have H1 := zH h1; clear h1
  go_enter Tryz.func22, Tryz.ntmps22
  go_wp2_with fail
  refine (Zah x y Ag ng cg Ao no co gs os _ (hr.1.below hB lR) (hr.2.below hB lR) hng hno).mono ?_
  rintro e v1 ⟨rfl, hb1⟩
  rw [H1.out]
  go_wp2
  go_ret2
  exact ⟨by rw [HR.out]; rfl, hB.trans (hb1.mono hB.size)⟩
 | true =>
  have hbd := Zao h1
  have hgsm := circB_gsm h1
  have hosm := circB_osm h1
  have HR : Hid (ctF x y gs os = circT x y gs os) := zH (by simp [ctF, h1])
  have hxy : smallN [x, y] := fun n hn => by
   simp only [List.mem_cons, List.not_mem_nil, or_false] at hn
   rcases hn with rfl | rfl <;> omega
  obtain ⟨hx, hy, hn3, ho4, _, _⟩ := hbd
  have H1 := zH h1; clear h1
  go_enter Tryz.func22, Tryz.ntmps22
  go_wp2_with fail
  refine (Zah x y Ag ng cg Ao no co gs os _ (hr.1.below hB lR) (hr.2.below hB lR) hng hno).mono ?_
  rintro e v1 ⟨rfl, hb1⟩
  rw [H1.out]
  have hB1 := hB.trans (hb1.mono hB.size)
  have hx1 := hx0.below hb1
  have hq := hx1; obtain ⟨q0, q1, q2, q3⟩ := hq
  have hA2 : Below v1.heap.size v1 (v1.alloc (.cells #[.int .i64 x, .int .i64 y] 3)) := bA
  have hB2 := hB1.trans (hA2.mono hB1.size)
  go_wp2_with fail
  refine (line_any ⟨#[99, 105, 114, 99, 117, 105, 116]⟩ _ 2 2 [x, y] _ (RI_new2 v1 x y _) (by omega) hxy (by decide) (ht.below hB2 lR)).mono ?_
  rintro e v2 ⟨rfl, hb2⟩
  have hB3 := hB2.trans (hb2.mono hB2.size)
  have hx2 := (hx1.below hA2).below hb2
  have hq := hx2; obtain ⟨q0, q1, q2, q3⟩ := hq
  clear hx1 hA2 hB2 hb2
  have hls : (lineL [99, 105, 114, 99, 117, 105, 116] [x, y]).length ≤ 60 := by have := Zcl (wd := [99, 105, 114, 99, 117, 105, 116]) hxy; simp at this; omega
  go_wp2
  go_loopw [4, 19] (fun s i wr => ∃ (k : Nat) (sb : ByteArray), k ≤ ng ∧ i = .int .i64 k ∧ s = .string sb ∧ Hid (sb = bs (lineL [99, 105, 114, 99, 117, 105, 116] [x, y] ++ gatesT (gs.take k))) ∧ BxC wr w.heap.size x y Ag ng cg Ao no co ∧ Below w.heap.size w wr) (fun _ i _ => ng - (intOf i).toNat)
  case atStart => exact ⟨0, _, Nat.zero_le _, rfl, rfl, zH (by rw [List.take_zero]; exact (congrArg bs (List.append_nil _)).symm), hx2, hB3⟩
  case round =>
   clear hx2 hB3 q0 q1 q2 q3
   obtain ⟨k, sb, hk, rfl, rfl, hsb, hxr, hb⟩ := hrel
   have hsz : sb.size ≤ 60 + 60 * k := by
    rw [hsb.out, Zbd, List.length_append]
    have h1 := Zcm hgsm k (by omega)
    omega
   by_cases hlt : k < ng
   ·obtain ⟨b, o, rfl, hbB, c0, c1, c2⟩ := (hr.1.below hb lR).at_ hlt
    have hgl := gateT_len (hgsm k (by omega))
    rw [← Zbd] at hgl
    have hA4 : Below wr.heap.size wr (wr.alloc (.cells #[.int .i64 (gg gs k).k, .int .i64 (gg gs k).a, .int .i64 (gg gs k).b] 49)) := bA
    have hB4 := hb.trans (hA4.mono hb.size)
    go_wp2_with fail
    refine (gateLine_any (gg gs k) _ (hgsm k (by omega)) (ht.below hB4 lR) (hw.below hB4 lR)).mono ?_
    rintro e w4 ⟨rfl, hb4⟩
    have hnx : Hid (sb ++ bs (gateT (gg gs k)) = bs (lineL [99, 105, 114, 99, 117, 105, 116] [x, y] ++ gatesT (gs.take (k + 1)))) := zH (by
     rw [hsb.out, gatesT_snoc (by omega), Zbb, List.append_assoc])
    have hx5 := (hxr.below hA4).below hb4
    have hB5 := hB4.trans (hb4.mono hB4.size)
    go_wp2
    go_roundw
    case rel => exact ⟨k + 1, _, by omega, by go_num, rfl, hnx, hx5, hB5⟩
    case measure => simp [intOf]; omega
   ·obtain rfl : ng = k := by omega
    have hq := hxr; obtain ⟨q0, q1, q2, q3⟩ := hq
    have hol := Zcl (wd := [111, 117, 116, 115]) hosm
    rw [← Zbd] at hol
    simp only [List.length_cons, List.length_nil] at hol
    go_wp2_with fail
    refine (line_any ⟨#[111, 117, 116, 115]⟩ Ao no co os _ (hr.2.below hb lR) (by omega) hosm (by decide) (ht.below hb lR)).mono ?_
    rintro e w5 ⟨rfl, hb5⟩
    have hfin : sb ++ bs (lineL [111, 117, 116, 115] os) = bs (circT x y gs os) := by
     rw [hsb.out, Zbb, List.take_of_length_le (by omega)]; rfl
    have HF := zH hfin; clear hfin
    go_wp2
    go_ret2
    exact ⟨by rw [HR.out, ← HF.out]; rfl, hb.trans (hb5.mono hb.size)⟩
end Go.Proofs.YtnhmfedegfcflaaGreatDoor
