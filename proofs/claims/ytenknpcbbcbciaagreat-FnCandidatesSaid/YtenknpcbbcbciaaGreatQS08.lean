/- append onto the tail of a row of the call's own. -/
import Derived.Test.YtenknpcbbcbciaaGreatQS07
import Derived.Deep.AppendSrc
namespace Go.Proofs.YtenknpcbbcbciaaGreat
open Go.RowKit
set_option linter.unusedVariables false
set_option linter.unusedSimpArgs false
structure Res where
 vals : List Value → Value → Prop
 R : List Value → Value → World → Prop
 blk : List Value → Value → Nat → Prop
 inh : ∀ ds, ∃ v, vals ds v
 st : ∀ ds v w w' S, R ds v w → Alt S w w' → (∀ b, blk ds v b → ¬ S b ∧ b < w.heap.size) → R ds v w'
def Res.plain (u : Value) : Res := ⟨fun _ v => v = u, fun _ _ _ => True, fun _ _ _ => False, fun _ => ⟨u, rfl⟩, fun _ _ _ _ _ _ _ _ => trivial⟩
def Res.row (lo n : Nat) (xs : List Int) : Res :=
 ⟨fun _ v => ∃ A c, v = .slice A n c, fun _ v w => Own w lo w.heap.size v n xs, fun _ v b => v.ownBlock = some b, fun _ => ⟨.slice none n 0, none, 0, rfl⟩, fun _ v w w' S h k hb => (h.alt k fun g hg => (hb g hg).1).now⟩
def CellsAt (w : World) (b : Nat) : Nat → List Value → Prop
 | _, [] => True
 | o, v :: l => w.cell? ⟨b, o, none⟩ = some v ∧ CellsAt w b (o + 1) l
theorem CellsAt.alt {S : Nat → Prop} {w w' : World} {b : Nat} (k : Alt S w w') (hb : ¬ S b) : ∀ {o : Nat} {l : List Value}, CellsAt w b o l → CellsAt w' b o l
 | _, [], _ => trivial
 | o, v :: l, h => ⟨k.cell_ h.1 hb, CellsAt.alt k hb h.2⟩
def Res.box (cs : List Value) : Res :=
 ⟨fun _ v => ∃ b, v = .pointer (some ⟨b, 0, none⟩), fun _ v w => ∀ b, v = .pointer (some ⟨b, 0, none⟩) → b < w.heap.size ∧ CellsAt w b 0 cs ∧ Fz w b, fun _ v b => v = .pointer (some ⟨b, 0, none⟩), fun _ => ⟨.pointer (some ⟨0, 0, none⟩), 0, rfl⟩,
  fun _ v w w' S h k hb b hv => ⟨Nat.lt_of_lt_of_le (h b hv).1 k.size, (h b hv).2.1.alt k (hb b hv).1, (h b hv).2.2.alt k (hb b hv).2 (hb b hv).1⟩⟩
def resAt (rs : List (Nat × Res)) (k : Nat) : Res := ((rs.find? fun e => e.1 == k).map fun e => e.2).getD (Res.plain undef)
def okB (W : World) (own : Nat → Prop) : Nat → Prop := fun b => W.heap.size ≤ b ∨ own b
def CellsL (w : World) (cs : List (Addr × Value)) : Prop := ∀ q ∈ cs, w.cell? q.1 = some q.2
theorem cC {w : World} : CellsL w [] = True := by simp [CellsL]
theorem cD {w : World} {c : Addr × Value} {cs : List (Addr × Value)} : CellsL w (c :: cs) = (w.cell? c.1 = some c.2 ∧ CellsL w cs) := by simp [CellsL]
def mkSep (W : World) (own : Nat → Prop) (cs : List (Addr × Value)) (sk : List (Nat × List Nat × List Nat)) (ini fi : List Nat) (rs : List (Nat × Res)) : Sep where
 C w := Alt (okB W own) W w ∧ CellsL w cs
 Ok := okB W own
 sk := sk
 inits := ini
 fin := fi
 vals k := (resAt rs k).vals
 R k := (resAt rs k).R
 blk k := (resAt rs k).blk
theorem Zby {P : Program} {o : Oper} {a : Act} {post post' : Value → World → Prop} {w : World} (h : sepAt P o a post w) (hp : ∀ v w', post v w' → post' v w') : sepAt P o a post' w := by
 unfold sepAt at *
 generalize (execOp a.eval o).run P w = r at *
 cases r with
 | ok n w' =>
  cases n <;> simp only [sepUpon] at h ⊢
  case value u => exact hp _ _ h
  case skip => exact hp _ _ h
  case enter f args => exact h.mono fun e w'' ⟨v, he, h9⟩ => ⟨v, he, hp _ _ h9⟩
 | halt x w' => simp only [sepUpon] at h
section
variable {P : Program} {W : World} {own : Nat → Prop} {cs : List (Addr × Value)} {sk : List (Nat × List Nat × List Nat)} {ini fi : List Nat} {rs : List (Nat × Res)} {ops : Array Oper} {L : Act → (Nat → Value) → Prop} {k : Nat} {o : Oper} {rest : List Oper} {a : Act} {ρ : Nat → Value}
theorem firm_mk (hcs : ∀ q ∈ cs, ¬ own q.1.block ∧ q.1.block < W.heap.size) : Firm (mkSep W own cs sk ini fi rs) where
 C w w' S h k hS := by
  refine ⟨h.1.trans_ k fun i _ hi => hS i hi, fun q hq => ?_⟩
  obtain ⟨h1, h2⟩ := hcs q hq
  refine k.cell_ (h.2 q hq) fun hb => ?_
  rcases hS _ hb with h3 | h3
  ·omega
  ·exact h1 h3
 new w b h hb := .inl (Nat.le_trans h.1.size hb)
 R k ds v w w' S _ h ka _ hb := (resAt rs k).st ds v w w' S h ka hb
 vals k := (resAt rs k).inh
theorem Zch (n : Nat) (own : Nat → Prop) (cs : List (Addr × Value)) (sk : List (Nat × List Nat × List Nat)) (ini fi : List Nat) (rs : List (Nat × Res)) (ρ0 : Nat → Value) {id : Nat} {Q : Exit → Act → World → Prop} {l : List Oper} {w : World}
 (hm : P.follows .mixedOrders = true) (hB : tailB .any l.toArray n = true) (hG : (goodB .any l.toArray sk ini fi && sk.all fun e => decide (e.1 < n)) = true) (hcs : CellsL w cs) (hown : ∀ q ∈ cs, ¬ own q.1.block)
 (hi : (mkSep w own cs sk ini fi rs).hasAll ρ0 (World.drew w) ini) (ha : (mkSep w own cs sk ini fi rs).apart ρ0 ini)
 (h : wpSep (mkSep w own cs sk ini fi rs) P l.toArray (fun a ρ => ∀ w', Alt (okB w own) w w' → CellsL w' cs → (mkSep w own cs sk ini fi rs).hasAll ρ w' fi → (mkSep w own cs sk ini fi rs).apart ρ fi → wpList P l.toArray Q (l.drop n) a w') 0 (l.take n) a ρ0) : (Code.region id l.toArray true).wp P Q a w :=
 wp_region_sep (mkSep w own cs sk ini fi rs) n ρ0 hm hB hG (firm_mk fun q hq => ⟨hown q hq, World.block_lt_of_cell? w _ (hcs q hq)⟩)
  ⟨(Alt.refl_ _ w).drewN_ 1, fun q hq => hcs q hq⟩ hi ha (by
   have key : ∀ (l' : List Oper) (k : Nat) (a : Act) (ρ : Nat → Value), wpSep (mkSep w own cs sk ini fi rs) P l.toArray (fun a ρ => ∀ w', Alt (okB w own) w w' → CellsL w' cs → (mkSep w own cs sk ini fi rs).hasAll ρ w' fi → (mkSep w own cs sk ini fi rs).apart ρ fi → wpList P l.toArray Q (l.drop n) a w') k l' a ρ →
    wpSep (mkSep w own cs sk ini fi rs) P l.toArray (fun a ρ => ∀ w', (mkSep w own cs sk ini fi rs).C w' → (mkSep w own cs sk ini fi rs).hasAll ρ w' fi → (mkSep w own cs sk ini fi rs).apart ρ fi → wpList P l.toArray Q (l.drop n) a w') k l' a ρ := by
    intro l'
    induction l' with
    | nil => intro k a ρ h w' hw h1 h2; exact h w' hw.1 hw.2 h1 h2
    | cons o l' ih => intro k a ρ h; exact Zcb (fun a ρ => ih (k + 1) a ρ) h
   exact key _ _ _ _ h)
theorem Zbu (n : Nat) (cs : List (Addr × Value)) (sk : List (Nat × List Nat × List Nat)) (fi : List Nat) (rs : List (Nat × Res)) {id : Nat} {Q : Exit → Act → World → Prop} {l : List Oper} {w : World}
 (hm : P.follows .mixedOrders = true) (hB : tailB .any l.toArray n = true) (hG : (goodB .any l.toArray sk [] fi && sk.all fun e => decide (e.1 < n)) = true) (hcs : CellsL w cs)
 (h : wpSep (mkSep w (fun _ => False) cs sk [] fi rs) P l.toArray (fun a ρ => ∀ w', Alt (okB w (fun _ => False)) w w' → CellsL w' cs → (mkSep w (fun _ => False) cs sk [] fi rs).hasAll ρ w' fi → (mkSep w (fun _ => False) cs sk [] fi rs).apart ρ fi → wpList P l.toArray Q (l.drop n) a w') 0 (l.take n) a (fun _ => undef)) : (Code.region id l.toArray true).wp P Q a w :=
 Zch n (fun _ => False) cs sk [] fi rs _ hm hB hG hcs (fun _ _ h => h) trivial (fun d hd => by cases hd) h
theorem Zco {w : World} (h : Alt (okB W (fun _ => False)) W w) : Below W.heap.size W w := h.below_ lR fun i hi hn => by rcases hn with h | h <;> first | omega | exact h
theorem Zao {f : Nat → Option Bool} (h : o.guard = none) : Region.wanted o f = true := by unfold Region.wanted; rw [h]
theorem Zad {l : List Oper} {ts : List Value} {g t : Nat} {want b : Bool} (hg : o.guard = some (g, want)) (ho : (l[g]?).bind (·.dst) = some t) (ht : ts[t]? = some (.bool b)) (hb : (b == want) = true) : Region.wanted o (yielded l.toArray ts.toArray) = true := by
 simp only [beq_iff_eq] at hb
 simp [Region.wanted, hg, yielded, ho, ht, hb]
theorem Zak {l : List Oper} {ts : List Value} {g t : Nat} {want b : Bool} (hg : o.guard = some (g, want)) (ho : (l[g]?).bind (·.dst) = some t) (ht : ts[t]? = some (.bool b)) (hb : (b == want) = false) : Region.wanted o (yielded l.toArray ts.toArray) = false := by
 simp only [beq_eq_false_iff_ne] at hb
 simp [Region.wanted, hg, yielded, ho, ht, hb]
theorem Zbs (h : L a ρ) : wpSep (mkSep W own cs sk ini fi rs) P ops L k [] a ρ := h
theorem Zan (he : effB sk k = false) (hg : o.guard = none) (h : ∀ K : Act → Prop, (∀ a, wpSep (mkSep W own cs sk ini fi rs) P ops L (k + 1) rest a ρ → K a) → ∃ v, (∀ w, CellsL w cs → pureAt P o a w v) ∧ K (a.put o.dst v)) : wpSep (mkSep W own cs sk ini fi rs) P ops L k (o :: rest) a ρ := by
 show sepNode _ _ _ _ _ _ _ _
 unfold sepNode
 rw [if_neg (by show ¬ effB sk k = true; rw [he]; simp), if_pos (Zao hg)]
 obtain ⟨v, h1, h2⟩ := h _ (fun _ h => h)
 exact ⟨v, fun w hw => h1 w hw.2, h2⟩
theorem Zas (he : effB sk k = false) (hw : Region.wanted o (yielded ops a.tmps) = true) (h : ∀ K : Act → Prop, (∀ a, wpSep (mkSep W own cs sk ini fi rs) P ops L (k + 1) rest a ρ → K a) → ∃ v, (∀ w, CellsL w cs → pureAt P o a w v) ∧ K (a.put o.dst v)) : wpSep (mkSep W own cs sk ini fi rs) P ops L k (o :: rest) a ρ := by
 show sepNode _ _ _ _ _ _ _ _
 unfold sepNode
 rw [if_neg (by show ¬ effB sk k = true; rw [he]; simp), if_pos hw]
 obtain ⟨v, h1, h2⟩ := h _ (fun _ h => h)
 exact ⟨v, fun w hw => h1 w hw.2, h2⟩
theorem Zar (he : effB sk k = false) (hw : Region.wanted o (yielded ops a.tmps) = false) (h : wpSep (mkSep W own cs sk ini fi rs) P ops L (k + 1) rest (a.put o.dst undef) ρ) : wpSep (mkSep W own cs sk ini fi rs) P ops L k (o :: rest) a ρ := by
 show sepNode _ _ _ _ _ _ _ _
 unfold sepNode
 rw [if_neg (by show ¬ effB sk k = true; rw [he]; simp), if_neg (by rw [hw]; simp)]
 exact h
theorem Zdh (r : Res) (hr : resAt rs k = r) (he : effB sk k = true)
 (hx : ∀ w, Alt (okB W own) W w → CellsL w cs → (mkSep W own cs sk ini fi rs).pre k ρ w → sepAt P o a (fun v w' => r.vals ((depsL sk k).map ρ) v ∧ r.R ((depsL sk k).map ρ) v w' ∧ Alt ((mkSep W own cs sk ini fi rs).hit k ρ) w w' ∧ ∀ b, r.blk ((depsL sk k).map ρ) v b → b < w'.heap.size ∧ (w.heap.size ≤ b ∨ (mkSep W own cs sk ini fi rs).hit k ρ b)) w)
 (h : ∀ v, r.vals ((depsL sk k).map ρ) v → wpSep (mkSep W own cs sk ini fi rs) P ops L (k + 1) rest (a.put o.dst v) (upd ρ k v)) (hw : Region.wanted o (yielded ops a.tmps) = true := by first | exact Zao rfl | exact Zad rfl rfl rfl rfl) : wpSep (mkSep W own cs sk ini fi rs) P ops L k (o :: rest) a ρ := by
 subst hr
 show sepNode _ _ _ _ _ _ _ _
 unfold sepNode
 have he' : effB (mkSep W own cs sk ini fi rs).sk k = true := he
 rw [if_pos he']
 exact ⟨hw, fun w hw hp => Zby (hx w hw.1 hw.2 hp) fun v w' h => h, fun v hv => h v hv⟩
def postPlain (w : World) (u v : Value) (w' : World) : Prop := v = u ∧ Below w.heap.size w w'
def postRow (w : World) (n : Nat) (xs : List Int) (v : Value) (w' : World) : Prop := ∃ A c, v = .slice A n c ∧ Own w' w.heap.size w'.heap.size (.slice A n c) n xs ∧ Below w.heap.size w w'
def postBox (w : World) (cs : List Value) (v : Value) (w' : World) : Prop := ∃ b, v = .pointer (some ⟨b, 0, none⟩) ∧ w.heap.size ≤ b ∧ b < w'.heap.size ∧ CellsAt w' b 0 cs ∧ Fz w' b ∧ Below w.heap.size w w'
theorem mem_plain (u : Value) (hr : resAt rs k = Res.plain u) (he : effB sk k = true) (hx : ∀ w, Alt (okB W own) W w → CellsL w cs → (mkSep W own cs sk ini fi rs).pre k ρ w → sepAt P o a (postPlain w u) w)
 (h : wpSep (mkSep W own cs sk ini fi rs) P ops L (k + 1) rest (a.put o.dst u) (upd ρ k u)) (hw : Region.wanted o (yielded ops a.tmps) = true := by first | exact Zao rfl | exact Zad rfl rfl rfl rfl) : wpSep (mkSep W own cs sk ini fi rs) P ops L k (o :: rest) a ρ :=
 Zdh (hw := hw) _ hr he (fun w hw hc hp => Zby (hx w hw hc hp) fun v w' ⟨h1, h2⟩ => ⟨h1, trivial, Alt.of_new h2, fun b hb => hb.elim⟩) fun v hv => by
  obtain rfl : v = u := hv
  exact h
theorem mem_row (lo n : Nat) (xs : List Int) (hr : resAt rs k = Res.row lo n xs) (he : effB sk k = true) (hlo : lo ≤ W.heap.size) (hx : ∀ w, Alt (okB W own) W w → CellsL w cs → (mkSep W own cs sk ini fi rs).pre k ρ w → sepAt P o a (postRow w n xs) w)
 (h : ∀ A c, wpSep (mkSep W own cs sk ini fi rs) P ops L (k + 1) rest (a.put o.dst (.slice A n c)) (upd ρ k (.slice A n c))) (hw : Region.wanted o (yielded ops a.tmps) = true := by first | exact Zao rfl | exact Zad rfl rfl rfl rfl) : wpSep (mkSep W own cs sk ini fi rs) P ops L k (o :: rest) a ρ :=
 Zdh (hw := hw) _ hr he (fun w hw hc hp => Zby (hx w hw hc hp) fun v w' ⟨A, c, h1, h2, h3⟩ => by
  subst h1
  exact ⟨⟨A, c, rfl⟩, h2.lo_ (Nat.le_trans hlo hw.size), Alt.of_new h3, fun b hb => ⟨(h2.lt b hb).2.2, .inl (h2.lt b hb).1⟩⟩) fun v hv => by
  obtain ⟨A, c, rfl⟩ := hv
  exact h A c
theorem mem_box (vs : List Value) (hr : resAt rs k = Res.box vs) (he : effB sk k = true) (hx : ∀ w, Alt (okB W own) W w → CellsL w cs → (mkSep W own cs sk ini fi rs).pre k ρ w → sepAt P o a (postBox w vs) w)
 (h : ∀ b, wpSep (mkSep W own cs sk ini fi rs) P ops L (k + 1) rest (a.put o.dst (.pointer (some ⟨b, 0, none⟩))) (upd ρ k (.pointer (some ⟨b, 0, none⟩)))) (hw : Region.wanted o (yielded ops a.tmps) = true := by first | exact Zao rfl | exact Zad rfl rfl rfl rfl) : wpSep (mkSep W own cs sk ini fi rs) P ops L k (o :: rest) a ρ :=
 Zdh (hw := hw) _ hr he (fun w hw hc hp => Zby (hx w hw hc hp) fun v w' ⟨b, h1, h2, h3, h4, h5, h6⟩ => by
  subst h1
  refine ⟨⟨b, rfl⟩, fun b' hb' => ?_, Alt.of_new h6, fun b' hb' => ?_⟩
  ·simp only [Value.pointer.injEq, Option.some.injEq, Addr.mk.injEq, and_true] at hb'
   subst hb'
   exact ⟨h3, h4, h5⟩
  ·have hb'' : Value.pointer (some ⟨b, 0, none⟩) = .pointer (some ⟨b', 0, none⟩) := hb'
   simp only [Value.pointer.injEq, Option.some.injEq, Addr.mk.injEq, and_true] at hb''
   subst hb''
   exact ⟨h3, .inl h2⟩) fun v hv => by
  obtain ⟨b, rfl⟩ := hv
  exact h b
end
theorem postBox.new (w : World) (vs : List Value) (T) (h : CellsAt (w.alloc (.cells vs.toArray T)) w.heap.size 0 vs) : postBox w vs (.pointer (some ⟨w.heap.size, 0, none⟩)) (w.alloc (.cells vs.toArray T)) :=
 ⟨w.heap.size, rfl, Nat.le_refl _, by simp, h, Fz.new w _ _, bA⟩
theorem postPlain.mk_ {w w' : World} {u : Value} (hb : Below w.heap.size w w') : postPlain w u u w' := ⟨rfl, hb⟩
theorem postRow.new (w : World) (ys : List Int) (n : Nat) (hn : ys.length = n) (hm : n ≤ 4194304) : postRow w n ys (.slice (some ⟨w.heap.size, 0, none⟩) n n) (w.alloc (.cells (ys.map (Value.int .i64)).toArray 3)) :=
 ⟨_, _, rfl, (Own_new w ys n w.heap.size hn lR hm).hi_ (by simp), bA⟩
theorem postRow.new1 (w : World) (x : Int) : postRow w 1 [x] (.slice (some ⟨w.heap.size, 0, none⟩) 1 1) (w.alloc (.cells #[.int .i64 x] 3)) := by simpa using postRow.new w [x] 1 rfl (by omega)
theorem postRow.new2 (w : World) (x y : Int) : postRow w 2 [x, y] (.slice (some ⟨w.heap.size, 0, none⟩) 2 2) (w.alloc (.cells #[.int .i64 x, .int .i64 y] 3)) := by simpa using postRow.new w [x, y] 2 rfl (by omega)
section
variable {W : World} {own : Nat → Prop} {cs : List (Addr × Value)} {sk : List (Nat × List Nat × List Nat)} {ini fi : List Nat} {rs : List (Nat × Res)} {ops : Array Oper} {L : Act → (Nat → Value) → Prop} {k : Nat} {o : Oper} {rest : List Oper} {a : Act} {ρ : Nat → Value}
theorem hit_one {d : Nat} (hd : consL sk k = [d]) {v : Value} (hρ : ρ d = v) {r : Res} (hrd : resAt rs d = r) : (mkSep W own cs sk ini fi rs).hit k ρ = r.blk ((depsL sk d).map ρ) v := by
 subst hρ; subst hrd
 funext b; apply propext
 show (∃ d', d' ∈ consL sk k ∧ (resAt rs d').blk ((depsL sk d').map ρ) (ρ d') b) ↔ _
 rw [hd]; simp
theorem Zcl {d : Nat} {w : World} (hd : d ∈ depsL sk k) (hp : (mkSep W own cs sk ini fi rs).pre k ρ w) {v : Value} (hρ : ρ d = v) {r : Res} (hrd : resAt rs d = r) : r.R ((depsL sk d).map ρ) v w ∧ ∀ b, r.blk ((depsL sk d).map ρ) v b → okB W own b ∧ b < w.heap.size := by
 subst hρ; subst hrd
 exact Sep.hasAll_iff.1 hp.1 d hd
theorem mem_appI (d lo n m : Nat) (xs ys : List Int) (A0 : Option Addr) (c0 : Nat) (A : Option Addr) (c : Nat) (s x : Operand) (hr : resAt rs k = Res.row lo (n + m) (xs ++ ys)) (he : effB sk k = true) (hlo : lo ≤ W.heap.size) (hrd : resAt rs d = Res.row lo n xs) (hd : consL sk k = [d]) (hdd : d ∈ depsL sk k) (hρ : ρ d = .slice A0 n c0)
 (ho : o.op = .call { callee := .builtin .append, args := #[s, x], argTypes := #[24, 24] }) (hs : a.eval s = .slice A0 n c0) (hx : a.eval x = .slice A m c)
 (hlen : n + m ≤ 8388608) (hread : ∀ w, Alt (okB W own) W w → CellsL w cs → (mkSep W own cs sk ini fi rs).pre k ρ w → RI w A m ys)
 (h : ∀ A' c', wpSep (mkSep W own cs sk ini fi rs) Tryz.prog ops L (k + 1) rest (a.put o.dst (.slice A' (n + m) c')) (upd ρ k (.slice A' (n + m) c'))) (hw : Region.wanted o (yielded ops a.tmps) = true := by first | exact Zao rfl | exact Zad rfl rfl rfl rfl) : wpSep (mkSep W own cs sk ini fi rs) Tryz.prog ops L k (o :: rest) a ρ :=
 Zdh (hw := hw) _ hr he (fun w hw hc hp => by
  have h1 : Own w lo w.heap.size (.slice A0 n c0) n xs := (Zcl hdd hp hρ hrd).1
  have hh : (mkSep W own cs sk ini fi rs).hit k ρ = fun b => (Value.slice A0 n c0).ownBlock = some b := hit_one hd hρ hrd
  rw [hh]
  obtain ⟨A', c', w', hrun, h2, h3, h4, h5⟩ := run_appI w o.type lo w.heap.size n c0 m c A0 A xs ys h1 (hread w hw hc hp) hlen (Nat.le_trans hlo hw.size)
  unfold sepAt execOp
  simp only [ho, resolve, invoke, builtin, Sem.run_bind, Sem.run_pure, Result.andThen_ok, List.map_toArray, List.map_cons, List.map_nil, hs, hx, hrun]
  exact ⟨⟨A', c', rfl⟩, h2, Alt.of_grown h3 (fun i hi => hi), fun b hb => ⟨(h2.lt b hb).2.2, by
   rcases h4 with h4 | h4
   ·exact .inr (h4 ▸ hb)
   ·have hb' : (Value.slice A' (n + m) c').ownBlock = some b := hb
    rw [h4] at hb'; injection hb' with hb'
    exact .inl (by omega)⟩⟩) fun v hv => by
  obtain ⟨A', c', rfl⟩ := hv
  exact h A' c'
end
section
variable {P : Program} {W : World} {own : Nat → Prop} {cs : List (Addr × Value)} {sk : List (Nat × List Nat × List Nat)} {ini fi : List Nat} {rs : List (Nat × Res)} {ops : Array Oper} {L : Act → (Nat → Value) → Prop} {k : Nat} {o : Oper} {rest : List Oper} {a : Act} {ρ : Nat → Value}
end
section
variable {P : Program} {W : World} {own : Nat → Prop} {cs : List (Addr × Value)} {sk : List (Nat × List Nat × List Nat)} {ini fi : List Nat} {rs : List (Nat × Res)} {ops : Array Oper} {L : Act → (Nat → Value) → Prop} {k : Nat} {o : Oper} {rest : List Oper} {a : Act} {ρ : Nat → Value}
end
section
variable {P : Program} {W : World} {own : Nat → Prop} {cs : List (Addr × Value)} {sk : List (Nat × List Nat × List Nat)} {ini fi : List Nat} {rs : List (Nat × Res)} {ops : Array Oper} {L : Act → (Nat → Value) → Prop} {k : Nat} {o : Oper} {rest : List Oper} {a : Act} {ρ : Nat → Value}
end
def Res.cur (W : World) (b : Nat) (R : Nat → Prop) (T : Nat) (n : Int) : Res :=
 ⟨fun _ v => ∃ x : Nat, ((x : Int) < n ∨ x = 0) ∧ v = .int .i64 x, fun _ _ w => Cur w b R T ∧ ∀ i, R i → i < w.heap.size ∧ w.heap[i]? = W.heap[i]?, fun _ _ c => c = b ∨ R c, fun _ => ⟨.int .i64 (0 : Nat), 0, .inr rfl, rfl⟩,
  fun _ v w w' S h k hb => ⟨h.1.alt k (hb b (.inl rfl)).1 (fun i hi => (hb i (.inr hi)).1), fun i hi => ⟨Nat.lt_of_lt_of_le (h.2 i hi).1 k.size, (k.block i (h.2 i hi).1 (hb i (.inr hi)).1).trans (h.2 i hi).2⟩⟩⟩
def Res.curQ (W : World) (b : Nat) (R : Nat → Prop) (T : Nat) (Q : Value → Prop) (hQ : ∃ v, Q v) : Res :=
 ⟨fun _ v => Q v, fun _ _ w => Cur w b R T ∧ ∀ i, R i → i < w.heap.size ∧ w.heap[i]? = W.heap[i]?, fun _ _ c => c = b ∨ R c, fun _ => hQ,
  fun _ v w w' S h k hb => ⟨h.1.alt k (hb b (.inl rfl)).1 (fun i hi => (hb i (.inr hi)).1), fun i hi => ⟨Nat.lt_of_lt_of_le (h.2 i hi).1 k.size, (k.block i (h.2 i hi).1 (hb i (.inr hi)).1).trans (h.2 i hi).2⟩⟩⟩
def postPick (w : World) (b : Nat) (R : Nat → Prop) (T : Nat) (n : Int) (v : Value) (w' : World) : Prop := ∃ x : Nat, ((x : Int) < n ∨ x = 0) ∧ v = .int .i64 x ∧ Cur w' b R T ∧ Alt (fun i => i = b) w w'
section
variable {P : Program} {W : World} {own : Nat → Prop} {cs : List (Addr × Value)} {sk : List (Nat × List Nat × List Nat)} {ini fi : List Nat} {rs : List (Nat × Res)} {ops : Array Oper} {L : Act → (Nat → Value) → Prop} {k : Nat} {o : Oper} {rest : List Oper} {a : Act} {ρ : Nat → Value}
theorem mem_pick (d b : Nat) (R : Nat → Prop) (T T' : Nat) (n n' : Int) (W0 : World) (v0 : Value) (hR : ¬ R b) (hr : resAt rs k = Res.cur W0 b R T' n') (he : effB sk k = true) (hrd : resAt rs d = Res.cur W0 b R T n) (hd : consL sk k = [d]) (hdd : d ∈ depsL sk k) (hρ : ρ d = v0)
 (hx : ∀ w, Alt (okB W own) W w → CellsL w cs → Cur w b R T → sepAt P o a (postPick w b R T' n') w)
 (h : ∀ x : Nat, ((x : Int) < n' ∨ x = 0) → wpSep (mkSep W own cs sk ini fi rs) P ops L (k + 1) rest (a.put o.dst (.int .i64 x)) (upd ρ k (.int .i64 x))) (hw : Region.wanted o (yielded ops a.tmps) = true := by first | exact Zao rfl | exact Zad rfl rfl rfl rfl) : wpSep (mkSep W own cs sk ini fi rs) P ops L k (o :: rest) a ρ :=
 Zdh (hw := hw) _ hr he (fun w hw hc hp => by
  have h1 : Cur w b R T ∧ ∀ i, R i → i < w.heap.size ∧ w.heap[i]? = W0.heap[i]? := (Zcl hdd hp hρ hrd).1
  have hh : (mkSep W own cs sk ini fi rs).hit k ρ = fun c => c = b ∨ R c := hit_one hd hρ hrd
  rw [hh]
  refine Zby (hx w hw hc h1.1) fun v w' ⟨x, hx1, he1, hc1, ha1⟩ => ⟨⟨x, hx1, he1⟩, ⟨hc1, fun i hi => ?_⟩, ha1.mono_ (fun i _ hi => .inl hi), fun c hc => ⟨?_, .inr hc⟩⟩
  ·exact ⟨Nat.lt_of_lt_of_le (h1.2 i hi).1 ha1.size, (ha1.block i (h1.2 i hi).1 (fun e => hR (e ▸ hi))).trans (h1.2 i hi).2⟩
  ·rcases hc with hc | hc
   ·subst hc; exact hc1.lt
   ·exact Nat.lt_of_lt_of_le (h1.2 c hc).1 ha1.size) fun v hv => by
  obtain ⟨x, hx, rfl⟩ := hv
  exact h x hx
theorem mem_cur (d b : Nat) (R : Nat → Prop) (T T' : Nat) (Q Q' : Value → Prop) (hQ : ∃ v, Q v) (hQ' : ∃ v, Q' v) (W0 : World) (v0 : Value) (hR : ¬ R b) (hr : resAt rs k = Res.curQ W0 b R T' Q' hQ') (he : effB sk k = true) (hrd : resAt rs d = Res.curQ W0 b R T Q hQ) (hd : consL sk k = [d]) (hdd : d ∈ depsL sk k) (hρ : ρ d = v0)
 (hx : ∀ w, Alt (okB W own) W w → CellsL w cs → (mkSep W own cs sk ini fi rs).pre k ρ w → Cur w b R T → sepAt P o a (fun v w' => Q' v ∧ Cur w' b R T' ∧ Alt (fun i => i = b) w w') w)
 (h : ∀ v, Q' v → wpSep (mkSep W own cs sk ini fi rs) P ops L (k + 1) rest (a.put o.dst v) (upd ρ k v)) (hw : Region.wanted o (yielded ops a.tmps) = true := by first | exact Zao rfl | exact Zad rfl rfl rfl rfl) : wpSep (mkSep W own cs sk ini fi rs) P ops L k (o :: rest) a ρ :=
 Zdh (hw := hw) _ hr he (fun w hw hc hp => by
  have h1 : Cur w b R T ∧ ∀ i, R i → i < w.heap.size ∧ w.heap[i]? = W0.heap[i]? := (Zcl hdd hp hρ hrd).1
  have hh : (mkSep W own cs sk ini fi rs).hit k ρ = fun c => c = b ∨ R c := hit_one hd hρ hrd
  rw [hh]
  refine Zby (hx w hw hc hp h1.1) fun v w' ⟨hq1, hc1, ha1⟩ => ⟨hq1, ⟨hc1, fun i hi => ?_⟩, ha1.mono_ (fun i _ hi => .inl hi), fun c hc => ⟨?_, .inr hc⟩⟩
  ·exact ⟨Nat.lt_of_lt_of_le (h1.2 i hi).1 ha1.size, (ha1.block i (h1.2 i hi).1 (fun e => hR (e ▸ hi))).trans (h1.2 i hi).2⟩
  ·rcases hc with hc | hc
   ·subst hc; exact hc1.lt
   ·exact Nat.lt_of_lt_of_le (h1.2 c hc).1 ha1.size) h
end
attribute [local go_sem] sepAt sepUpon pureAt pureUpon
theorem alt_back {b : Nat} {R own : Nat → Prop} {base wr wy : World} (hk : Alt (fun i => i = b) base wr) (h : Alt (okB wr (fun i => (i = b ∨ R i) ∨ own i)) wr wy) (hown : ∀ i, own i → base.heap.size ≤ i) (hR : ∀ i, R i → wy.heap[i]? = wr.heap[i]?) : Alt (fun i => i = b) base wy :=
 ⟨h.os.trans hk.os, h.tape.trans hk.tape, h.output.trans hk.output, Nat.le_trans hk.size h.size, fun i hi hn => by
  have e := hk.block i hi hn
  by_cases hRi : R i
  ·exact (hR i hRi).trans e
  ·refine (h.block i (by have := hk.size; omega) (fun hc => ?_)).trans e
   rcases hc with h1 | (h1 | h1) | h1
   ·have := hk.size; omega
   ·exact hn h1
   ·exact hRi h1
   ·have := hown i h1; omega⟩
end Go.Proofs.YtenknpcbbcbciaaGreat
namespace Go.Proofs.YtenknpcbbcbciaaGreat
open Go.RowKit
set_option linter.unusedVariables false
set_option linter.unusedSimpArgs false
attribute [local go_sem] sepAt sepUpon pureAt pureUpon
def Res.anyQ (Q : Value → Prop) (hQ : ∃ v, Q v) : Res := ⟨fun _ v => Q v, fun _ _ _ => True, fun _ _ _ => False, fun _ => hQ, fun _ _ _ _ _ _ _ _ => trivial⟩
section
variable {P : Program} {W : World} {own : Nat → Prop} {cs : List (Addr × Value)} {sk : List (Nat × List Nat × List Nat)} {ini fi : List Nat} {rs : List (Nat × Res)} {ops : Array Oper} {L : Act → (Nat → Value) → Prop} {k : Nat} {o : Oper} {rest : List Oper} {a : Act} {ρ : Nat → Value}
theorem mem_any (Q : Value → Prop) (hQ : ∃ v, Q v) (hr : resAt rs k = Res.anyQ Q hQ) (he : effB sk k = true) (hx : ∀ w, Alt (okB W own) W w → CellsL w cs → (mkSep W own cs sk ini fi rs).pre k ρ w → sepAt P o a (fun v w' => Q v ∧ Below w.heap.size w w') w)
 (h : ∀ v, Q v → wpSep (mkSep W own cs sk ini fi rs) P ops L (k + 1) rest (a.put o.dst v) (upd ρ k v)) (hw : Region.wanted o (yielded ops a.tmps) = true := by first | exact Zao rfl | exact Zad rfl rfl rfl rfl) : wpSep (mkSep W own cs sk ini fi rs) P ops L k (o :: rest) a ρ :=
 Zdh (hw := hw) _ hr he (fun w hw hc hp => Zby (hx w hw hc hp) fun v w' ⟨h1, h2⟩ => ⟨h1, trivial, Alt.of_new h2, fun b hb => hb.elim⟩) h
end
end Go.Proofs.YtenknpcbbcbciaaGreat
namespace Go.Proofs.YtenknpcbbcbciaaGreat
open Go.RowKit
set_option linter.unusedVariables false
set_option linter.unusedSimpArgs false
def MkO (w : World) (lo b : Nat) (x y : Int) (Ao : Option Addr) (no co : Nat) (gs : List G3) (G : Option Nat) : Prop :=
 b < w.heap.size ∧ G ≠ some b ∧ (∀ q, w.frozen? ⟨b, q, none⟩ = false) ∧ ∃ Ag cg, BxC w b x y Ag gs.length cg Ao no co ∧ OwnG w lo w.heap.size (.slice Ag gs.length cg) gs.length gs ∧ (Value.slice Ag gs.length cg).ownBlock = G
section
variable {w w' : World} {lo b : Nat} {x y : Int} {Ao : Option Addr} {no co : Nat} {gs : List G3} {G : Option Nat}
theorem MkO.lt (h : MkO w lo b x y Ao no co gs G) : ∀ g, G = some g → lo ≤ g ∧ g < w.heap.size := by
 obtain ⟨_, _, _, Ag, cg, _, ho, he⟩ := h
 intro g hg; have := ho.lt g (he.trans hg); omega
theorem MkO.below_ {B : Nat} (h : MkO w lo b x y Ao no co gs G) (k : Below B w w') (hB : w.heap.size ≤ B) : MkO w' lo b x y Ao no co gs G := by
 obtain ⟨h1, h2, hf, Ag, cg, hx, ho, he⟩ := h
 exact ⟨Nat.lt_of_lt_of_le h1 k.size, h2, fun q => (k.frozen (p := ⟨b, q, none⟩) (by show b < B; omega)).trans (hf q), Ag, cg, hx.below (k.mono hB), (ho.below k (.inl hB)).now, he⟩
theorem MkO.alloc_ (h : MkO w lo b x y Ao no co gs G) (o : Obj) : MkO (w.alloc o) lo b x y Ao no co gs G := h.below_ ((Below.refl _ _).alloc lR o) lR
theorem MkO.grown_ {r : Option Nat} (h : MkO w lo b x y Ao no co gs G) (k : w.grownBy w' r) (hb : r ≠ some b) (hG : ∀ g, r = some g → G ≠ some g) : MkO w' lo b x y Ao no co gs G := by
 obtain ⟨h1, h2, hf, Ag, cg, hx, ho, he⟩ := h
 have hc : ∀ {q : Nat} {v : Value}, w.cell? ⟨b, q, none⟩ = some v → w'.cell? ⟨b, q, none⟩ = some v := fun {q v} hv => (World.cell?_of_block (w := w) (k.block b h1 (fun e => hb e.symm))).trans hv
 refine ⟨Nat.lt_of_lt_of_le h1 k.size, h2, fun q => (World.frozen?_of_block (w := w) (a := ⟨b, q, none⟩) (k.block b h1 (fun e => hb e.symm))).trans (hf q), Ag, cg, ⟨hc hx.1, hc hx.2.1, hc hx.2.2.1, hc hx.2.2.2⟩, (ho.grown k ?_).now, he⟩
 cases hr : (Value.slice Ag gs.length cg).ownBlock with
 | none => exact .inl rfl
 | some g => exact .inr (fun hq => hG g hq.symm (he ▸ hr))
theorem MkO.new (w : World) (lo : Nat) (x y : Int) (T : TypeId) : MkO (w.alloc (.cells #[.int .i64 x, .int .i64 y, .slice none 0 0, .slice none 0 0] T)) lo w.heap.size x y none 0 0 [] none :=
 ⟨by simp, by simp, fun q => World.frozen?_alloc_at _ _ _ _ rfl, none, 0, BxC.new w T, OwnG.none_ _ _ _, rfl⟩
theorem MkO.made {w5 : World} {gs' : List G3} {Ag A5 : Option Addr} {n cg c5 : Nat} (h1 : b < w.heap.size) (h2 : (Value.slice Ag gs.length cg).ownBlock ≠ some b) (hf : ∀ q, w.frozen? ⟨b, q, none⟩ = false)
 (hbx : BxC w b x y Ag gs.length cg Ao no co) (hown : OwnG w5 lo w5.heap.size (.slice A5 n c5) n gs') (hg : w.grownBy w5 (Value.slice Ag gs.length cg).ownBlock)
 (hat : (Value.slice A5 n c5).ownBlock = (Value.slice Ag gs.length cg).ownBlock ∨ (Value.slice A5 n c5).ownBlock = some w.heap.size) :
 MkO (w5.setCell ⟨b, 2, none⟩ (.slice A5 n c5)) lo b x y Ao no co gs' (Value.slice A5 n c5).ownBlock ∧ Mv b (Value.slice Ag gs.length cg).ownBlock (Value.slice A5 n c5).ownBlock w (w5.setCell ⟨b, 2, none⟩ (.slice A5 n c5)) := by
 have hl := hown.len
 have hne : (Value.slice A5 n c5).ownBlock ≠ some b := by
  rcases hat with h | h
  ·rw [h]; exact h2
  ·rw [h]; intro hc; injection hc with hc; omega
 have hsz : w.heap.size ≤ w5.heap.size := hg.size
 subst hl
 refine ⟨⟨by simp; omega, hne, fun q => (World.frozen?_setCell _ _ _ _).trans ((World.frozen?_of_block (w := w) (a := ⟨b, q, none⟩) (hg.block b h1 (fun e => h2 e.symm))).trans (hf q)), A5, c5, (hbx.grown hg h2).setG _ _ _, ?_, rfl⟩, ?_⟩
 ·simpa using hown.far1 ⟨b, 2, none⟩ (.slice A5 gs'.length c5) hne
 ·refine ⟨hg.os, hg.tape, hg.output, by simpa using hsz, fun k hk hkb hkG => ?_, ?_⟩
  ·rw [Below.heap_setCell _ _ _ _ hkb]; exact hg.block k hk (fun e => hkG e.symm)
  ·rcases hat with h | h
   ·exact .inl h
   ·exact .inr ⟨_, h, Nat.le_refl _⟩
theorem MkO.outs (h : MkO w lo b x y Ao no co gs G) (A' : Option Addr) (n' c' : Nat) : MkO (w.setCell ⟨b, 3, none⟩ (.slice A' n' c')) lo b x y A' n' c' gs G := by
 obtain ⟨h1, h2, hf, Ag, cg, hx, ho, he⟩ := h
 refine ⟨by simpa using h1, h2, fun q => (World.frozen?_setCell _ _ _ _).trans (hf q), Ag, cg, hx.setO _ _ _, ?_, he⟩
 simpa using ho.far1 ⟨b, 3, none⟩ (.slice A' n' c') (he ▸ h2)
end
def prodRest (X : Int) (i : Nat) (s : Go2) : List Int := if i = 1 then s.o.drop 1 ++ [X + s.g.length + 1] else s.o.drop i
def prodG1 (X : Int) (i : Nat) (s : Go2) : List G3 := if i = 1 then s.g ++ [⟨3, 0, 0⟩] ++ [⟨2, X + s.g.length, 0⟩] else s.g
def prodStep (X : Int) (us vs : List Int) (n i : Nat) (s : Go2) : Go2 :=
 if i = 0 then rowG X (gi vs i) us s.g n
 else ⟨(addS X (rowG X (gi vs i) us (prodG1 X i s) n).g (prodRest X i s) (rowG X (gi vs i) us (prodG1 X i s) n).o n).g,
  s.o.take i ++ (addS X (rowG X (gi vs i) us (prodG1 X i s) n).g (prodRest X i s) (rowG X (gi vs i) us (prodG1 X i s) n).o n).o ++ [(addS X (rowG X (gi vs i) us (prodG1 X i s) n).g (prodRest X i s) (rowG X (gi vs i) us (prodG1 X i s) n).o n).c]⟩
def prodS (X : Int) (g0 : List G3) (us vs : List Int) (n : Nat) : Nat → Go2
 | 0 => ⟨g0, []⟩
 | i + 1 => prodStep X us vs n i (prodS X g0 us vs n i)
theorem prodStep_g (X : Int) (us vs : List Int) (n i : Nat) (s : Go2) : (prodStep X us vs n i s).g.length ≤ s.g.length + 6 * n + 2 := by
 unfold prodStep
 split
 ·rw [row_g]; omega
 ·have h1 := addS_g X (rowG X (gi vs i) us (prodG1 X i s) n).g (prodRest X i s) (rowG X (gi vs i) us (prodG1 X i s) n).o n
  have h2 := row_g X (gi vs i) us (prodG1 X i s) n
  have h3 : (prodG1 X i s).length ≤ s.g.length + 2 := by unfold prodG1; split <;> simp
  dsimp only; omega
theorem prodS_g (X : Int) (g0 : List G3) (us vs : List Int) (n : Nat) (hn : n ≤ 8) (i : Nat) : (prodS X g0 us vs n i).g.length ≤ g0.length + 50 * i := by
 induction i with
 | zero => simp [prodS]
 | succ i ih => have := prodStep_g X us vs n i (prodS X g0 us vs n i); simp only [prodS]; omega
theorem prodS_o (X : Int) (g0 : List G3) (us vs : List Int) (n : Nat) (hn : 1 ≤ n) (i : Nat) : (prodS X g0 us vs n (i + 1)).o.length = if i = 0 then n else i + n + 1 := by
 induction i with
 | zero => simp [prodS, prodStep, row_o]
 | succ i ih =>
  rw [prodS, prodStep, if_neg (by omega), if_neg (by omega)]
  simp only [List.length_append, List.length_take, addS_o, List.length_cons, List.length_nil]
  rw [ih]; split <;> omega
theorem prodRest_len {X : Int} {i n : Nat} {s : Go2} (hi : 1 ≤ i) (hn : i < n) (h : s.o.length = if i = 1 then n else i - 1 + n + 1) : (prodRest X i s).length = n := by
 unfold prodRest
 split
 ·rename_i h1; rw [if_pos h1] at h; simp [h]; omega
 ·rename_i h1; rw [if_neg h1] at h; simp [h]; omega
theorem RI.drop_ {w : World} {g o n k : Nat} {xs : List Int} (h : RI w (some ⟨g, o, none⟩) n xs) (hk : k ≤ n) : RI w (some ⟨g, o + k, none⟩) (n - k) (xs.drop k) := by
 refine ⟨by simp [h.len], fun hn => ?_⟩
 obtain ⟨b, q, hA, hlt, hc⟩ := h.2 (by omega)
 simp only [Option.some.injEq, Addr.mk.injEq, and_true] at hA
 obtain ⟨rfl, rfl⟩ := hA
 refine ⟨g, o + k, rfl, hlt, fun j hj => ?_⟩
 rw [show o + k + j = o + (k + j) by omega, hc (k + j) (by omega)]
 simp [gi]
theorem RI.take_ {w : World} {A : Option Addr} {n k : Nat} {xs : List Int} (h : RI w A n xs) (hk : k ≤ n) : RI w A k (xs.take k) := by
 refine ⟨by simp [h.len]; omega, fun hn => ?_⟩
 obtain ⟨b, q, hA, hlt, hc⟩ := h.2 (by omega)
 refine ⟨b, q, hA, hlt, fun j hj => ?_⟩
 rw [hc j (by omega)]
 simp [gi, List.getElem?_take, hj]
def OH (w : World) (b : Nat) (G : Option Nat) (lo hi : Nat) (v : Value) (n : Nat) (xs : List Int) : Prop := Own w lo hi v n xs ∧ ∀ g, v.ownBlock = some g → g ≠ b ∧ G ≠ some g
theorem OM.toOH {w : World} {b lo n : Nat} {G : Option Nat} {v : Value} {xs : List Int} (h : OM w b G lo v n xs) : OH w b G lo w.heap.size v n xs := h
theorem OH.toOM {w : World} {b lo hi n : Nat} {G : Option Nat} {v : Value} {xs : List Int} (h : OH w b G lo hi v n xs) : OM w b G lo v n xs := ⟨h.1.now, h.2⟩
theorem OH.mv {w w' : World} {b lo hi n : Nat} {G G' : Option Nat} {v : Value} {xs : List Int} (h : OH w b G lo hi v n xs) (k : Mv b G G' w w') : OH w' b G' lo hi v n xs :=
 ⟨⟨((OH.toOM h).mv k).1.1, h.1.2⟩, ((OH.toOM h).mv k).2⟩
theorem OH.below_ {w w' : World} {b lo hi n B : Nat} {G : Option Nat} {v : Value} {xs : List Int} (h : OH w b G lo hi v n xs) (k : Below B w w') (hB : w.heap.size ≤ B) : OH w' b G lo hi v n xs := ⟨h.1.below k (.inl hB), h.2⟩
theorem OH.alloc_ {w : World} {b lo hi n : Nat} {G : Option Nat} {v : Value} {xs : List Int} (h : OH w b G lo hi v n xs) (o : Obj) : OH (w.alloc o) b G lo hi v n xs := h.below_ ((Below.refl _ _).alloc lR o) lR
theorem OH.app {w w' : World} {b lo hi n lo' m c : Nat} {G : Option Nat} {v : Value} {xs ys : List Int} {A : Option Addr} (h : OH w b G lo hi v n xs) (ho : OM w b G lo' (.slice A m c) m ys) (hg : w.grownBy w' (Value.slice A m c).ownBlock) (hl : hi ≤ lo') : OH w' b G lo hi v n xs := by
 refine ⟨h.1.grown hg ?_, h.2⟩
 cases hv : v.ownBlock with
 | none => exact .inl rfl
 | some g => exact .inr (fun he => by have := h.1.lt g hv; have := ho.1.lt g he.symm; omega)
theorem with_0 (A : Option Addr) (n c : Nat) (xs : List Int) (w : World) (ha : RI w A n xs) (hn : n ≤ 2097152) :
 Calls Tryz.prog 46 #[.slice A n c, .slice none 0 0] w fun e w' => ∃ A' c', e = .returned (.slice A' n c') ∧ Own w' w.heap.size w'.heap.size (.slice A' n c') n xs ∧ Below w.heap.size w w' :=
 (with_any A none n c 0 0 xs [] w ha ⟨rfl, fun h => absurd h (by omega)⟩ hn (by omega)).mono fun e w' ⟨A', c', h1, h2, h3⟩ => ⟨A', c', by simpa using h1, by simpa using h2, h3⟩
theorem run_app_off (w : World) (ty : TypeId) (lo hi g n oc q c : Nat) (xs : List Int) (v : Int) (hown : Own w lo hi (.slice (some ⟨g, 0, none⟩) n oc) n xs) (hn : 2 ≤ n) (hn2 : n ≤ 1000) (hlo : lo ≤ w.heap.size) (hr : RI w (some ⟨q, 0, none⟩) 1 [v]) :
 ∃ gA oA c' w', (Builtin.append_ #[24, 24] ty #[.slice (some ⟨g, 1, none⟩) (n - 1) (oc - 1), .slice (some ⟨q, 0, none⟩) 1 c]).run Tryz.prog w = .ok (.slice (some ⟨gA, oA, none⟩) n c') w' ∧
  RI w' (some ⟨gA, oA, none⟩) n (xs.drop 1 ++ [v]) ∧ RI w' (some ⟨g, 0, none⟩) 1 (xs.take 1) ∧ w.grownBy w' (some g) ∧ (gA = g ∨ gA = w.heap.size) := by
 obtain ⟨i, hi0, hz0, hz1, hz2⟩ := info_parts info_int
 have hl := hown.len
 have hcv : w.cell? ⟨q, 0, none⟩ = some (.int .i64 v) := by
  obtain ⟨b, o, hA, _, hc⟩ := hr.at_ (k := 0) (by omega)
  simp only [Option.some.injEq, Addr.mk.injEq, and_true] at hA
  obtain ⟨rfl, rfl⟩ := hA
  simpa [gi] using hc
 have hnews : ∀ j u, [Value.int .i64 v][j]? = some u → w.cell? ((⟨q, 0, none⟩ : Addr).add j) = some u := by
  intro j u hu
  cases j with
  | zero => rw [Zcf]; simp at hu; rw [← hu]; simpa using hcv
  | succ j => simp at hu
 rcases hown.1.2 with ⟨h, _⟩ | ⟨g', cap, cur, h, hgl, hg, hnc, _, hcs, _⟩
 ·simp at h
 ·simp only [Value.slice.injEq, Option.some.injEq, Addr.mk.injEq, and_true, true_and] at h
  obtain ⟨rfl, rfl⟩ := h
  by_cases hroom : n + 1 ≤ oc
  ·have hs : Src Tryz.prog i.size 24 (.slice (some ⟨q, 0, none⟩) 1 c) 1 [.int .i64 v] w := Src.ofSlice w Tryz.underlying24 _ _ _ _ (by simp [hz1]) hnews (by simp [Value.oneCell'])
   have hcc : ∀ o, o = n → (w.cell? ⟨g, o, none⟩).isSome = true ∧ w.frozen? ⟨g, o, none⟩ = false := by
    rintro o rfl
    refine ⟨?_, frozen_of_row w g _ cur _ hg⟩
    rw [cell_of_row _ g _ _ _ _ hg]
    simp; omega
   have r1 := run_append_room_src (P := Tryz.prog) w 24 24 ty 3 i Tryz.underlying24 hi0 g 1 (n - 1) (oc - 1) _ 1 _ hs (by omega) (fun j hj => (hcc _ (by simp at hj; rw [hz1]; omega)).1) (fun j hj => (hcc _ (by simp at hj; rw [hz1]; omega)).2)
   have r2 := run_append_room_src (P := Tryz.prog) w 24 24 ty 3 i Tryz.underlying24 hi0 g 0 n oc _ 1 _ hs (by omega) (fun j hj => (hcc _ (by simp at hj; rw [hz1]; omega)).1) (fun j hj => (hcc _ (by simp at hj; rw [hz1]; omega)).2)
   obtain ⟨A', c', w', r3, h2, h3, h4, h5⟩ := run_appI w ty lo hi n oc 1 c (some ⟨g, 0, none⟩) (some ⟨q, 0, none⟩) xs [v] hown hr (by omega) hlo
   rw [r2] at r3
   simp only [Result.ok.injEq, Value.slice.injEq, true_and] at r3
   obtain ⟨⟨rfl, rfl⟩, hw⟩ := r3
   have he : 1 + (n - 1) * i.size = 0 + n * i.size := by rw [hz1]; omega
   rw [he, show n - 1 + 1 = n by omega, hw] at r1
   have hrd := h2.reads
   refine ⟨g, 1, oc - 1, w', r1, ?_, ?_, ?_, .inl rfl⟩
   ·have := hrd.drop_ (k := 1) (by omega)
    rw [List.drop_append_of_le_length (by omega)] at this
    simpa using this
   ·have := hrd.take_ (k := 1) (by omega)
    rwa [List.take_append_of_le_length (by omega)] at this
   ·simpa [Value.ownBlock] using h3
  ·have hoc : oc = n := by omega
   subst hoc
   have hold : ∀ j u, ((xs.drop 1).map (Value.int .i64))[j]? = some u → w.cell? ((⟨g, 1, none⟩ : Addr).add j) = some u := by
    intro j u hu
    have hrd := hown.reads.drop_ (k := 1) (by omega)
    rw [Zcf]
    rw [List.getElem?_map] at hu
    have hj : j < (xs.drop 1).length := by
     rcases Nat.lt_or_ge j (xs.drop 1).length with h | h
     ·exact h
     ·rw [List.getElem?_eq_none h] at hu; simp at hu
    rw [List.getElem?_eq_getElem hj] at hu
    obtain ⟨b, o, hA, _, hc⟩ := hrd.at_ (k := j) (by simp at hj; omega)
    simp only [Option.some.injEq, Addr.mk.injEq, and_true] at hA
    obtain ⟨rfl, rfl⟩ := hA
    rw [Nat.zero_add] at hc
    rw [hc, gi_lt hj]
    simpa using hu
   have r1 := run_append_grow (P := Tryz.prog) w 24 ty 3 i (.int .i64 0) Tryz.underlying24 hi0 hz0 ⟨g, 1, none⟩ (oc - 1) (oc - 1) ((xs.drop 1).map (Value.int .i64)) (by simp [hz1]; omega) hold ⟨q, 0, none⟩ 1 c [.int .i64 v] (by simp [hz1]) hnews (by omega) (by omega) (growslice_fits (by omega) (by rw [hz2]; omega))
   rw [show oc - 1 + 1 = oc by omega] at r1
   have hB : Below w.heap.size w (w.drew.alloc (.cells (((xs.drop 1).map (Value.int .i64)).toArray ++ #[Value.int .i64 v] ++ Builtin.zeroCells (Value.int .i64 0).cells (grownCap w oc (oc - 1) 3 - oc)) 3)) := by
    have := (Zaa (Below.refl w.heap.size w) 1).alloc lR (.cells (((xs.drop 1).map (Value.int .i64)).toArray ++ #[Value.int .i64 v] ++ Builtin.zeroCells (Value.int .i64 0).cells (grownCap w oc (oc - 1) 3 - oc)) 3)
    exact this
   refine ⟨w.heap.size, 0, _, _, r1, ?_, ?_, ?_, .inr rfl⟩
   ·refine ⟨by simp; omega, fun _ => ⟨w.heap.size, 0, rfl, by simp, fun j hj => ?_⟩⟩
    have hh : (w.drew.alloc (.cells (((xs.drop 1).map (Value.int .i64)).toArray ++ #[Value.int .i64 v] ++ Builtin.zeroCells (Value.int .i64 0).cells (grownCap w oc (oc - 1) 3 - oc)) 3)).heap[w.heap.size]? = _ := heap_alloc_new w.drew _
    rw [Nat.zero_add]
    rw [cell_of_row _ w.heap.size j _ _ _ hh]
    have hlen : ((xs.drop 1 ++ [v]).map (Value.int .i64)).length = oc := by simp; omega
    have : (((xs.drop 1).map (Value.int .i64)).toArray ++ #[Value.int .i64 v] ++ Builtin.zeroCells (Value.int .i64 0).cells (grownCap w oc (oc - 1) 3 - oc))[j]? = ((xs.drop 1 ++ [v]).map (Value.int .i64))[j]? := by
     rw [Array.getElem?_append_left (by simp; omega)]
     simp [List.map_append]
    rw [this, List.getElem?_map, List.getElem?_eq_getElem (by simp; omega), gi_lt (by simp; omega)]
    rfl
   ·exact (hown.reads.take_ (k := 1) (by omega)).below hB lR
   ·exact ⟨hB.os, hB.tape, hB.output, hB.size, fun k hk _ => hB.block k hk⟩
end Go.Proofs.YtenknpcbbcbciaaGreat
