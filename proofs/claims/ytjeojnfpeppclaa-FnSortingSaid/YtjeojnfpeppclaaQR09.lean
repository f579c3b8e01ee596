/- Plain: the networks of merging and of insertion, and that they sort. No program in sight. -/
import Derived.Test.YtjeojnfpeppclaaQR08
import Derived.Test.YtjeojnfpeppclaaQR07
namespace Go.Proofs.Ytjeojnfpeppclaa
open Go.RowKit
set_option linter.unusedVariables false
set_option linter.unusedSimpArgs false
structure Res where
 vals : List Value → Value → Prop
 R : List Value → Value → World → Prop
 blk : List Value → Value → Nat → Prop
 inh : ∀ ds, ∃ v, vals ds v
 st : ∀ ds v w w' S, R ds v w → Alt S w w' → (∀ b, blk ds v b → ¬ S b ∧ b < w.heap.size) → R ds v w'
def Res.plain (u : Value) : Res := ⟨fun _ v => v = u, fun _ _ _ => True, fun _ _ _ => False, fun _ => ⟨u, rfl⟩, fun _ _ _ _ _ _ _ _ => trivial⟩
def Res.row (lo n : Nat) (xs : List Int) : Res :=
 ⟨fun _ v => ∃ A c, v = .slice A n c, fun _ v w => Own w lo w.heap.size v n xs, fun _ v b => v.ownBlock = some b, fun _ => ⟨.slice none n 0, none, 0, rfl⟩, fun _ v w w' S h k hb => (h.alt k fun g hg => (hb g hg).1).now⟩
def resAt (rs : List (Nat × Res)) (k : Nat) : Res := ((rs.find? fun e => e.1 == k).map fun e => e.2).getD (Res.plain undef)
def okB (W : World) (own : Nat → Prop) : Nat → Prop := fun b => W.heap.size ≤ b ∨ own b
def CellsL (w : World) (cs : List (Addr × Value)) : Prop := ∀ q ∈ cs, w.cell? q.1 = some q.2
theorem cC {w : World} : CellsL w [] = True := by simp [CellsL]
theorem cD {w : World} {c : Addr × Value} {cs : List (Addr × Value)} : CellsL w (c :: cs) = (w.cell? c.1 = some c.2 ∧ CellsL w cs) := by simp [CellsL]
def mkSep (W : World) (own : Nat → Prop) (cs : List (Addr × Value)) (sk : List (Nat × List Nat × List Nat)) (ini fi : List Nat) (rs : List (Nat × Res)) : Sep where
 C w := Alt (okB W own) W w ∧ CellsL w cs
 Ok := okB W own
 sk := sk
 inits := ini
 fin := fi
 vals k := (resAt rs k).vals
 R k := (resAt rs k).R
 blk k := (resAt rs k).blk
theorem Zbu {P : Program} {o : Oper} {a : Act} {post post' : Value → World → Prop} {w : World} (h : sepAt P o a post w) (hp : ∀ v w', post v w' → post' v w') : sepAt P o a post' w := by
 unfold sepAt at *
 generalize (execOp a.eval o).run P w = r at *
 cases r with
 | ok n w' =>
  cases n <;> simp only [sepUpon] at h ⊢
  case value u => exact hp _ _ h
  case skip => exact hp _ _ h
  case enter f args => exact h.mono fun e w'' ⟨v, he, h9⟩ => ⟨v, he, hp _ _ h9⟩
 | halt x w' => simp only [sepUpon] at h
section
variable {P : Program} {W : World} {own : Nat → Prop} {cs : List (Addr × Value)} {sk : List (Nat × List Nat × List Nat)} {ini fi : List Nat} {rs : List (Nat × Res)} {ops : Array Oper} {L : Act → (Nat → Value) → Prop} {k : Nat} {o : Oper} {rest : List Oper} {a : Act} {ρ : Nat → Value}
theorem firm_mk (hcs : ∀ q ∈ cs, ¬ own q.1.block ∧ q.1.block < W.heap.size) : Firm (mkSep W own cs sk ini fi rs) where
 C w w' S h k hS := by
  refine ⟨h.1.trans_ k fun i _ hi => hS i hi, fun q hq => ?_⟩
  obtain ⟨h1, h2⟩ := hcs q hq
  refine k.cell_ (h.2 q hq) fun hb => ?_
  rcases hS _ hb with h3 | h3
  ·omega
  ·exact h1 h3
 new w b h hb := .inl (Nat.le_trans h.1.size hb)
 R k ds v w w' S _ h ka _ hb := (resAt rs k).st ds v w w' S h ka hb
 vals k := (resAt rs k).inh
theorem wp_region_mem (n : Nat) (own : Nat → Prop) (cs : List (Addr × Value)) (sk : List (Nat × List Nat × List Nat)) (ini fi : List Nat) (rs : List (Nat × Res)) (ρ0 : Nat → Value) {id : Nat} {Q : Exit → Act → World → Prop} {l : List Oper} {w : World}
 (hm : P.follows .mixedOrders = true) (hB : tailB .any l.toArray n = true) (hG : (goodB .any l.toArray sk ini fi && sk.all fun e => decide (e.1 < n)) = true) (hcs : CellsL w cs) (hown : ∀ q ∈ cs, ¬ own q.1.block)
 (hi : (mkSep w own cs sk ini fi rs).hasAll ρ0 (World.drew w) ini) (ha : (mkSep w own cs sk ini fi rs).apart ρ0 ini)
 (h : wpSep (mkSep w own cs sk ini fi rs) P l.toArray (fun a ρ => ∀ w', Alt (okB w own) w w' → CellsL w' cs → (mkSep w own cs sk ini fi rs).hasAll ρ w' fi → (mkSep w own cs sk ini fi rs).apart ρ fi → wpList P l.toArray Q (l.drop n) a w') 0 (l.take n) a ρ0) : (Code.region id l.toArray true).wp P Q a w :=
 wp_region_sep (mkSep w own cs sk ini fi rs) n ρ0 hm hB hG (firm_mk fun q hq => ⟨hown q hq, World.block_lt_of_cell? w _ (hcs q hq)⟩)
  ⟨(Alt.refl_ _ w).drewN_ 1, fun q hq => hcs q hq⟩ hi ha (by
   have key : ∀ (l' : List Oper) (k : Nat) (a : Act) (ρ : Nat → Value), wpSep (mkSep w own cs sk ini fi rs) P l.toArray (fun a ρ => ∀ w', Alt (okB w own) w w' → CellsL w' cs → (mkSep w own cs sk ini fi rs).hasAll ρ w' fi → (mkSep w own cs sk ini fi rs).apart ρ fi → wpList P l.toArray Q (l.drop n) a w') k l' a ρ →
    wpSep (mkSep w own cs sk ini fi rs) P l.toArray (fun a ρ => ∀ w', (mkSep w own cs sk ini fi rs).C w' → (mkSep w own cs sk ini fi rs).hasAll ρ w' fi → (mkSep w own cs sk ini fi rs).apart ρ fi → wpList P l.toArray Q (l.drop n) a w') k l' a ρ := by
    intro l'
    induction l' with
    | nil => intro k a ρ h w' hw h1 h2; exact h w' hw.1 hw.2 h1 h2
    | cons o l' ih => intro k a ρ h; exact Zbl (fun a ρ => ih (k + 1) a ρ) h
   exact key _ _ _ _ h)
theorem Zau (n : Nat) (cs : List (Addr × Value)) (sk : List (Nat × List Nat × List Nat)) (fi : List Nat) (rs : List (Nat × Res)) {id : Nat} {Q : Exit → Act → World → Prop} {l : List Oper} {w : World}
 (hm : P.follows .mixedOrders = true) (hB : tailB .any l.toArray n = true) (hG : (goodB .any l.toArray sk [] fi && sk.all fun e => decide (e.1 < n)) = true) (hcs : CellsL w cs)
 (h : wpSep (mkSep w (fun _ => False) cs sk [] fi rs) P l.toArray (fun a ρ => ∀ w', Alt (okB w (fun _ => False)) w w' → CellsL w' cs → (mkSep w (fun _ => False) cs sk [] fi rs).hasAll ρ w' fi → (mkSep w (fun _ => False) cs sk [] fi rs).apart ρ fi → wpList P l.toArray Q (l.drop n) a w') 0 (l.take n) a (fun _ => undef)) : (Code.region id l.toArray true).wp P Q a w :=
 wp_region_mem n (fun _ => False) cs sk [] fi rs _ hm hB hG hcs (fun _ _ h => h) trivial (fun d hd => by cases hd) h
theorem Zbh {w : World} (h : Alt (okB W (fun _ => False)) W w) : Below W.heap.size W w := h.below_ lR fun i hi hn => by rcases hn with h | h <;> first | omega | exact h
theorem Zaj {f : Nat → Option Bool} (h : o.guard = none) : Region.wanted o f = true := by unfold Region.wanted; rw [h]
theorem Zab {l : List Oper} {ts : List Value} {g t : Nat} {want b : Bool} (hg : o.guard = some (g, want)) (ho : (l[g]?).bind (·.dst) = some t) (ht : ts[t]? = some (.bool b)) (hb : (b == want) = true) : Region.wanted o (yielded l.toArray ts.toArray) = true := by
 simp only [beq_iff_eq] at hb
 simp [Region.wanted, hg, yielded, ho, ht, hb]
theorem Zah {l : List Oper} {ts : List Value} {g t : Nat} {want b : Bool} (hg : o.guard = some (g, want)) (ho : (l[g]?).bind (·.dst) = some t) (ht : ts[t]? = some (.bool b)) (hb : (b == want) = false) : Region.wanted o (yielded l.toArray ts.toArray) = false := by
 simp only [beq_eq_false_iff_ne] at hb
 simp [Region.wanted, hg, yielded, ho, ht, hb]
theorem Zbj (h : L a ρ) : wpSep (mkSep W own cs sk ini fi rs) P ops L k [] a ρ := h
theorem Zam (he : effB sk k = false) (hg : o.guard = none) (h : ∀ K : Act → Prop, (∀ a, wpSep (mkSep W own cs sk ini fi rs) P ops L (k + 1) rest a ρ → K a) → ∃ v, (∀ w, CellsL w cs → pureAt P o a w v) ∧ K (a.put o.dst v)) : wpSep (mkSep W own cs sk ini fi rs) P ops L k (o :: rest) a ρ := by
 show sepNode _ _ _ _ _ _ _ _
 unfold sepNode
 rw [if_neg (by show ¬ effB sk k = true; rw [he]; simp), if_pos (Zaj hg)]
 obtain ⟨v, h1, h2⟩ := h _ (fun _ h => h)
 exact ⟨v, fun w hw => h1 w hw.2, h2⟩
theorem Zar (he : effB sk k = false) (hw : Region.wanted o (yielded ops a.tmps) = true) (h : ∀ K : Act → Prop, (∀ a, wpSep (mkSep W own cs sk ini fi rs) P ops L (k + 1) rest a ρ → K a) → ∃ v, (∀ w, CellsL w cs → pureAt P o a w v) ∧ K (a.put o.dst v)) : wpSep (mkSep W own cs sk ini fi rs) P ops L k (o :: rest) a ρ := by
 show sepNode _ _ _ _ _ _ _ _
 unfold sepNode
 rw [if_neg (by show ¬ effB sk k = true; rw [he]; simp), if_pos hw]
 obtain ⟨v, h1, h2⟩ := h _ (fun _ h => h)
 exact ⟨v, fun w hw => h1 w hw.2, h2⟩
theorem Zaq (he : effB sk k = false) (hw : Region.wanted o (yielded ops a.tmps) = false) (h : wpSep (mkSep W own cs sk ini fi rs) P ops L (k + 1) rest (a.put o.dst undef) ρ) : wpSep (mkSep W own cs sk ini fi rs) P ops L k (o :: rest) a ρ := by
 show sepNode _ _ _ _ _ _ _ _
 unfold sepNode
 rw [if_neg (by show ¬ effB sk k = true; rw [he]; simp), if_neg (by rw [hw]; simp)]
 exact h
theorem mem_eff (r : Res) (hr : resAt rs k = r) (he : effB sk k = true)
 (hx : ∀ w, Alt (okB W own) W w → CellsL w cs → (mkSep W own cs sk ini fi rs).pre k ρ w → sepAt P o a (fun v w' => r.vals ((depsL sk k).map ρ) v ∧ r.R ((depsL sk k).map ρ) v w' ∧ Alt ((mkSep W own cs sk ini fi rs).hit k ρ) w w' ∧ ∀ b, r.blk ((depsL sk k).map ρ) v b → b < w'.heap.size ∧ (w.heap.size ≤ b ∨ (mkSep W own cs sk ini fi rs).hit k ρ b)) w)
 (h : ∀ v, r.vals ((depsL sk k).map ρ) v → wpSep (mkSep W own cs sk ini fi rs) P ops L (k + 1) rest (a.put o.dst v) (upd ρ k v)) (hw : Region.wanted o (yielded ops a.tmps) = true := by first | exact Zaj rfl | exact Zab rfl rfl rfl rfl) : wpSep (mkSep W own cs sk ini fi rs) P ops L k (o :: rest) a ρ := by
 subst hr
 show sepNode _ _ _ _ _ _ _ _
 unfold sepNode
 have he' : effB (mkSep W own cs sk ini fi rs).sk k = true := he
 rw [if_pos he']
 exact ⟨hw, fun w hw hp => Zbu (hx w hw.1 hw.2 hp) fun v w' h => h, fun v hv => h v hv⟩
def postPlain (w : World) (u v : Value) (w' : World) : Prop := v = u ∧ Below w.heap.size w w'
def postRow (w : World) (n : Nat) (xs : List Int) (v : Value) (w' : World) : Prop := ∃ A c, v = .slice A n c ∧ Own w' w.heap.size w'.heap.size (.slice A n c) n xs ∧ Below w.heap.size w w'
theorem mem_plain (u : Value) (hr : resAt rs k = Res.plain u) (he : effB sk k = true) (hx : ∀ w, Alt (okB W own) W w → CellsL w cs → (mkSep W own cs sk ini fi rs).pre k ρ w → sepAt P o a (postPlain w u) w)
 (h : wpSep (mkSep W own cs sk ini fi rs) P ops L (k + 1) rest (a.put o.dst u) (upd ρ k u)) (hw : Region.wanted o (yielded ops a.tmps) = true := by first | exact Zaj rfl | exact Zab rfl rfl rfl rfl) : wpSep (mkSep W own cs sk ini fi rs) P ops L k (o :: rest) a ρ :=
 mem_eff (hw := hw) _ hr he (fun w hw hc hp => Zbu (hx w hw hc hp) fun v w' ⟨h1, h2⟩ => ⟨h1, trivial, Alt.of_new h2, fun b hb => hb.elim⟩) fun v hv => by
  obtain rfl : v = u := hv
  exact h
theorem mem_row (lo n : Nat) (xs : List Int) (hr : resAt rs k = Res.row lo n xs) (he : effB sk k = true) (hlo : lo ≤ W.heap.size) (hx : ∀ w, Alt (okB W own) W w → CellsL w cs → (mkSep W own cs sk ini fi rs).pre k ρ w → sepAt P o a (postRow w n xs) w)
 (h : ∀ A c, wpSep (mkSep W own cs sk ini fi rs) P ops L (k + 1) rest (a.put o.dst (.slice A n c)) (upd ρ k (.slice A n c))) (hw : Region.wanted o (yielded ops a.tmps) = true := by first | exact Zaj rfl | exact Zab rfl rfl rfl rfl) : wpSep (mkSep W own cs sk ini fi rs) P ops L k (o :: rest) a ρ :=
 mem_eff (hw := hw) _ hr he (fun w hw hc hp => Zbu (hx w hw hc hp) fun v w' ⟨A, c, h1, h2, h3⟩ => by
  subst h1
  exact ⟨⟨A, c, rfl⟩, h2.lo_ (Nat.le_trans hlo hw.size), Alt.of_new h3, fun b hb => ⟨(h2.lt b hb).2.2, .inl (h2.lt b hb).1⟩⟩) fun v hv => by
  obtain ⟨A, c, rfl⟩ := hv
  exact h A c
end
theorem postRow.mk_ {w w' : World} {n c : Nat} {A : Option Addr} {xs : List Int} (h : Own w' w.heap.size w'.heap.size (.slice A n c) n xs) (hb : Below w.heap.size w w') : postRow w n xs (.slice A n c) w' := ⟨A, c, rfl, h, hb⟩
theorem postPlain.mk_ {w w' : World} {u : Value} (hb : Below w.heap.size w w') : postPlain w u u w' := ⟨rfl, hb⟩
section
variable {W : World} {own : Nat → Prop} {cs : List (Addr × Value)} {sk : List (Nat × List Nat × List Nat)} {ini fi : List Nat} {rs : List (Nat × Res)} {ops : Array Oper} {L : Act → (Nat → Value) → Prop} {k : Nat} {o : Oper} {rest : List Oper} {a : Act} {ρ : Nat → Value}
theorem hit_one {d : Nat} (hd : consL sk k = [d]) {v : Value} (hρ : ρ d = v) {r : Res} (hrd : resAt rs d = r) : (mkSep W own cs sk ini fi rs).hit k ρ = r.blk ((depsL sk d).map ρ) v := by
 subst hρ; subst hrd
 funext b; apply propext
 show (∃ d', d' ∈ consL sk k ∧ (resAt rs d').blk ((depsL sk d').map ρ) (ρ d') b) ↔ _
 rw [hd]; simp
theorem has_dep {d : Nat} {w : World} (hd : d ∈ depsL sk k) (hp : (mkSep W own cs sk ini fi rs).pre k ρ w) {v : Value} (hρ : ρ d = v) {r : Res} (hrd : resAt rs d = r) : r.R ((depsL sk d).map ρ) v w ∧ ∀ b, r.blk ((depsL sk d).map ρ) v b → okB W own b ∧ b < w.heap.size := by
 subst hρ; subst hrd
 exact Sep.hasAll_iff.1 hp.1 d hd
end
section
variable {P : Program} {W : World} {own : Nat → Prop} {cs : List (Addr × Value)} {sk : List (Nat × List Nat × List Nat)} {ini fi : List Nat} {rs : List (Nat × Res)} {ops : Array Oper} {L : Act → (Nat → Value) → Prop} {k : Nat} {o : Oper} {rest : List Oper} {a : Act} {ρ : Nat → Value}
end
section
variable {P : Program} {W : World} {own : Nat → Prop} {cs : List (Addr × Value)} {sk : List (Nat × List Nat × List Nat)} {ini fi : List Nat} {rs : List (Nat × Res)} {ops : Array Oper} {L : Act → (Nat → Value) → Prop} {k : Nat} {o : Oper} {rest : List Oper} {a : Act} {ρ : Nat → Value}
end
section
variable {P : Program} {W : World} {own : Nat → Prop} {cs : List (Addr × Value)} {sk : List (Nat × List Nat × List Nat)} {ini fi : List Nat} {rs : List (Nat × Res)} {ops : Array Oper} {L : Act → (Nat → Value) → Prop} {k : Nat} {o : Oper} {rest : List Oper} {a : Act} {ρ : Nat → Value}
end
theorem info_Step : (Try.prog.info? 54).map (fun i => (i.zero, i.size, i.bytes)) = some (some (.agg #[.int .i64 0, .int .i64 0]), 2, 16) := by kernel_rfl
theorem pcells_snoc (ls : List Sp) (x : Sp) : pcells (ls ++ [x]) = pcells ls ++ [.int .i64 x.l, .int .i64 x.h] := by simp [pcells]
section
variable {w w' : World} {lo hi n : Nat} {v : Value} {ls : List Sp}
theorem OwnS.alt {S : Nat → Prop} (h : OwnS w lo hi v n ls) (k : Alt S w w') (hs : ∀ g, v.ownBlock = some g → ¬ S g) : OwnS w' lo hi v n ls := by
 refine ⟨⟨h.1.1, ?_⟩, h.2⟩
 rcases h.1.2 with h1 | ⟨g, cap, cur, rfl, hlo, hg, r⟩
 ·exact .inl h1
 ·have hl := h.lt g (by simp [Value.ownBlock])
  exact .inr ⟨g, cap, cur, rfl, hlo, by rw [k.block g hl.2.2 (hs g (by simp [Value.ownBlock]))]; exact hg, r⟩
theorem OwnS.now (h : OwnS w lo hi v n ls) : OwnS w lo w.heap.size v n ls := ⟨h.1, fun g hg => (h.lt g hg).2.2⟩
theorem OwnS.alloc (h : OwnS w lo hi v n ls) (o : Obj) : OwnS (w.alloc o) lo hi v n ls := h.below ((Below.refl _ _).alloc lR o) (.inl lR)
theorem OwnS.lo_ {lo' : Nat} (h : OwnS w lo hi v n ls) (hl : lo' ≤ lo) : OwnS w lo' hi v n ls := by
 refine ⟨⟨h.1.1, ?_⟩, h.2⟩
 rcases h.1.2 with h1 | ⟨g, cap, cur, hv, hb, r⟩
 ·exact .inl h1
 ·exact .inr ⟨g, cap, cur, hv, by omega, r⟩
theorem OwnS.none_ (w : World) (lo hi : Nat) : OwnS w lo hi (.slice none 0 0) 0 [] := ⟨by simpa [pcells] using World.ownsRow_nil w lo _ _, fun g hg => by simp [Value.ownBlock] at hg⟩
theorem OwnS.new0 (w : World) (lo : Nat) (hl : lo ≤ w.heap.size) : OwnS (w.alloc (.cells #[] 54)) lo (w.heap.size + 1) (.slice (some ⟨w.heap.size, 0, none⟩) 0 0) 0 [] := by
 have h := World.ownsRow_lit (base := lo) (e := 54) (size := 2) w #[] 0 hl (by unfold maxLen; omega) (by simp)
 exact ⟨by simpa [pcells] using h, fun g hg => by simp [Value.ownBlock] at hg; omega⟩
end
theorem RS.alt {S : Nat → Prop} {w w' : World} {A : Option Addr} {n : Nat} {ls : List Sp} (h : RS w A n ls) (k : Alt S w w') (hs : ∀ b o, A = some ⟨b, o, none⟩ → ¬ S b) : RS w' A n ls :=
 ⟨h.1, fun hn => by
  obtain ⟨b, o, hA, hlt, hc⟩ := h.2 hn
  have hb := hs b o hA
  exact ⟨b, o, hA, Nat.lt_of_lt_of_le hlt k.size, fun j hj => ⟨k.cell_ (hc j hj).1 hb, k.cell_ (hc j hj).2 hb⟩⟩⟩
theorem Zal {w : World} {ops : Array Oper} {rest : List Oper} {o : Oper} {a : Act} {Q : Exit → Act → World → Prop} (hgd : o.guard = none) (s x : Operand)
 (ho : o.op = .call { callee := .builtin .append, args := #[s, x], argTypes := #[25, 25] })
 {lo hi n c0 c b : Nat} {A0 : Option Addr} {ls : List Sp} {p : Sp} (hs : a.eval s = .slice A0 n c0) (hown : OwnS w lo hi (.slice A0 n c0) n ls) (hx : a.eval x = .slice (some ⟨b, 0, none⟩) 1 c) (h0 : w.cell? ⟨b, 0, none⟩ = some (.int .i64 p.l)) (h1 : w.cell? ⟨b, 1, none⟩ = some (.int .i64 p.h))
 (hlen : n ≤ 1048576) (hlo : lo ≤ w.heap.size)
 (h : ∀ A' c' w', OwnS w' lo w'.heap.size (.slice A' (n + 1) c') (n + 1) (ls ++ [p]) → w.grownBy w' (Value.slice A0 n c0).ownBlock → ((Value.slice A' (n + 1) c').ownBlock = (Value.slice A0 n c0).ownBlock ∨ (Value.slice A' (n + 1) c').ownBlock = some w.heap.size) → wpList Try.prog ops Q rest (a.put o.dst (.slice A' (n + 1) c')) w') : wpList Try.prog ops Q (o :: rest) a w :=
 wpList_plain hgd fun _ hK => by
  obtain ⟨i, hi0, hz0, hz1, hz2⟩ := info_parts info_Step
  have hrv : RV w (some ⟨b, 0, none⟩) 1 2 [.int .i64 p.l, .int .i64 p.h] := by
   refine ⟨rfl, fun _ => ⟨_, rfl, fun j u hu => ?_⟩⟩
   rcases j with _ | _ | j
   ·simp at hu; subst hu; rw [addr_add]; exact h0
   ·simp at hu; subst hu; rw [addr_add]; exact h1
   ·simp at hu
  obtain ⟨A', c', w', hrun, h2, h3, h4, h5⟩ := run_appV (P := Try.prog) w 25 o.type 54 i (.agg #[.int .i64 0, .int .i64 0]) 2 16 Try.underlying25 hi0 hz0 hz1 hz2 rfl (by decide) lo n c0 1 c A0 (some ⟨b, 0, none⟩) _ _ hown.1 hrv (by intro u hu; simp at hu; rcases hu with rfl | rfl <;> rfl) (by unfold maxLen; omega) (by omega) hlo
  rw [← pcells_snoc] at h2
  unfold Oper.wp execOp
  simp only [ho, resolve, invoke, builtin, Sem.run_bind, Sem.run_pure, Result.andThen_ok, List.map_toArray, List.map_cons, List.map_nil, hs, hx, hrun]
  exact hK _ _ (h A' c' w' ⟨h2, fun g hg => (h2.lt g hg).2⟩ h3 h4)
theorem Zbg {B : Nat} {a w w' : World} {lo hi n c : Nat} {A : Option Addr} {ls : List Sp} (h : Below B a w) (hown : OwnS w lo hi (.slice A n c) n ls) (hg : w.grownBy w' (Value.slice A n c).ownBlock) (hB : B ≤ w.heap.size) (hl : B ≤ lo) : Below B a w' :=
 h.grown hg hB fun k hk => Nat.le_trans hl (hown.lt k hk).1
structure BF (w : World) (g n : Nat) (f : Nat → Bool) : Prop where
 lt : g < w.heap.size
 at_ : ∀ j, j < n → w.cell? ⟨g, j, none⟩ = some (.bool (f j))
 fz : Fz w g
theorem BF.alt {S : Nat → Prop} {w w' : World} {g n : Nat} {f : Nat → Bool} (h : BF w g n f) (k : Alt S w w') (hs : ¬ S g) : BF w' g n f :=
 ⟨Nat.lt_of_lt_of_le h.lt k.size, fun j hj => k.cell_ (h.at_ j hj) hs, h.fz.alt k h.lt hs⟩
theorem BF.congr {w : World} {g n : Nat} {f f' : Nat → Bool} (h : BF w g n f) (he : ∀ j, j < n → f j = f' j) : BF w g n f' :=
 ⟨h.lt, fun j hj => by rw [← he j hj]; exact h.at_ j hj, h.fz⟩
theorem BF.put {w : World} {g n : Nat} {f : Nat → Bool} {v : Nat} (h : BF w g n f) (hv : v < n) : BF (w.setCell ⟨g, v, none⟩ (.bool true)) g n (fun j => f j || decide (j = v)) := by
 refine ⟨by simpa using h.lt, fun j hj => ?_, h.fz.set _ _⟩
 by_cases he : j = v
 ·subst he
  rw [World.cell?_setCell_same _ _ _ (h.at_ j hj)]
  simp
 ·rw [World.cell?_setCell_other _ _ _ _ (by first | (simp; done) | (simp; omega)), h.at_ j hj]
  simp [he]
theorem info_boolF : (Try.prog.info? 4).map (fun i => (i.zero, i.size, i.bytes)) = some (some (.bool false), 1, 1) := by kernel_rfl
theorem BF.made {w : World} {lo g n : Nat} (h : w.ownsRow lo 4 1 (.slice (some ⟨g, 0, none⟩) n n) n (madeCells (Value.bool false).cells (n * 1)).toList) (hg : g < w.heap.size) : BF w g n (fun _ => false) := by
 refine ⟨hg, fun j hj => ?_, fun q => h.frozenAt q⟩
 rw [h.cellAt j (by omega)]
 simp [madeCells, Value.cells, hj, Nat.mod_one]
def Res.orow (lo hi g n c : Nat) (xs : List Int) : Res :=
 ⟨fun _ v => v = undef, fun _ _ w => Own w lo hi (.slice (some ⟨g, 0, none⟩) n c) n xs, fun _ _ b => b = g, fun _ => ⟨undef, rfl⟩,
  fun _ v w w' S h k hb => h.alt k fun q hq => by
   have hq' : g = q := by simpa [Value.ownBlock] using hq
   exact hq' ▸ (hb g rfl).1⟩
section
variable {P : Program} {W : World} {own : Nat → Prop} {cs : List (Addr × Value)} {sk : List (Nat × List Nat × List Nat)} {ini fi : List Nat} {rs : List (Nat × Res)} {ops : Array Oper} {L : Act → (Nat → Value) → Prop} {k : Nat} {o : Oper} {rest : List Oper} {a : Act} {ρ : Nat → Value}
theorem mem_so (d lo hi g n c : Nat) (xs : List Int) (j : Nat) (u : Int) (v0 : Value) (hr : resAt rs k = Res.orow lo hi g n c (xs.set j u)) (he : effB sk k = true) (hrd : resAt rs d = Res.orow lo hi g n c xs) (hd : consL sk k = [d]) (hdd : d ∈ depsL sk k) (hρ : ρ d = v0)
 (hx : ∀ w, Alt (okB W own) W w → CellsL w cs → Own w lo hi (.slice (some ⟨g, 0, none⟩) n c) n xs → sepAt P o a (fun v w' => v = undef ∧ w' = w.setCell ⟨g, j, none⟩ (.int .i64 u)) w)
 (h : wpSep (mkSep W own cs sk ini fi rs) P ops L (k + 1) rest (a.put o.dst undef) (upd ρ k undef)) (hw : Region.wanted o (yielded ops a.tmps) = true := by first | exact Zaj rfl | exact Zab rfl rfl rfl rfl) : wpSep (mkSep W own cs sk ini fi rs) P ops L k (o :: rest) a ρ :=
 mem_eff (hw := hw) _ hr he (fun w hw hc hp => by
  have h0 := has_dep hdd hp hρ hrd
  have h1 : Own w lo hi (.slice (some ⟨g, 0, none⟩) n c) n xs := h0.1
  have hh : (mkSep W own cs sk ini fi rs).hit k ρ = fun b => b = g := hit_one hd hρ hrd
  rw [hh]
  refine Zbu (hx w hw hc h1) fun v w' ⟨e1, e2⟩ => ?_
  subst e2
  have hst := h1.stored j u
  have hgl : g < w.heap.size := (h1.lt g rfl).2.2
  exact ⟨e1, hst.1, Alt.of_grown hst.2 (fun i hi => (Option.some.inj hi).symm), fun b hb => ⟨by have hb' : b = g := hb; rw [hb']; simpa using hgl, .inr hb⟩⟩) fun v hv => by
  obtain rfl : v = undef := hv
  exact h
end
theorem own_at {g q n c : Nat} (h : (Value.slice (some ⟨g, 0, none⟩) n c).ownBlock = some q) : q = g := (by simpa [Value.ownBlock] using h : g = q).symm
theorem bitsN_consS (n k : Nat) : bitsN n (k + 1) = ((n % 2 : Nat) : Int) :: bitsN (n / 2) k := by
 unfold bitsN tab
 rw [List.range_succ_eq_map, List.map_cons, List.map_map]
 congr 1
 ·simp
 ·refine List.map_congr_left fun i _ => ?_
  show ((n / 2 ^ (i + 1) % 2 : Nat) : Int) = ((n / 2 / 2 ^ i % 2 : Nat) : Int)
  rw [Nat.div_div_eq_div_mul, Nat.pow_succ, Nat.mul_comm]
theorem bitsN_numS {xs : List Int} (h : allB 0 1 xs = true) : bitsN (numN xs).toNat xs.length = xs := by
 induction xs with
 | nil => rfl
 | cons b l ih =>
  have h1 := allB_iff.1 h
  have hb := h1 b (by simp)
  have hl : allB 0 1 l = true := allB_iff.2 fun z hz => h1 z (by simp [hz])
  have hn := (numN_bd hl).1
  rw [List.length_cons, bitsN_consS, numN]
  have e1 : (b + 2 * numN l).toNat / 2 = (numN l).toNat := by omega
  rw [e1, ih hl]
  congr 1
  omega
def swp (p : Sp) (x : List Int) : List Int := if gi x p.h.toNat < gi x p.l.toNat then (x.set p.l.toNat (gi x p.h.toNat)).set p.h.toNat (gi x p.l.toNat) else x
def srt (ls : List Sp) (x : List Int) : Nat → List Int
 | 0 => x
 | k + 1 => swp (ss ls k) (srt ls x k)
def didB (ls : List Sp) (x : List Int) (k : Nat) : Bool := decide (gi (srt ls x k) (ss ls k).h.toNat < gi (srt ls x k) (ss ls k).l.toNat)
theorem swp_len (p : Sp) (x : List Int) : (swp p x).length = x.length := by unfold swp; split <;> simp
theorem srt_len (ls : List Sp) (x : List Int) (k : Nat) : (srt ls x k).length = x.length := by
 induction k with
 | zero => rfl
 | succ k ih => rw [srt, swp_len, ih]
theorem gi_setI {x : List Int} {i j : Nat} (u : Int) (hi : i < x.length) : gi (x.set i u) j = if i = j then u else gi x j := by
 unfold gi
 rw [List.getD_eq_getElem?_getD, List.getD_eq_getElem?_getD, List.getElem?_set]
 split
 ·rename_i h; subst h; simp [hi]
 ·rfl
theorem gi_swp {p : Sp} {x : List Int} (h0 : 0 ≤ p.l) (h1 : p.l < p.h) (h2 : p.h < x.length) (j : Nat) :
 gi (swp p x) j = if j = p.l.toNat then min (gi x p.l.toNat) (gi x p.h.toNat) else if j = p.h.toNat then max (gi x p.l.toNat) (gi x p.h.toNat) else gi x j := by
 unfold swp
 split
 ·rename_i h
  rw [gi_setI _ (by simp; omega), gi_setI _ (by omega)]
  by_cases e1 : j = p.l.toNat
  ·rw [if_pos e1, if_neg (by omega), if_pos e1.symm]; omega
  ·rw [if_neg e1]
   by_cases e2 : j = p.h.toNat
   ·rw [if_pos e2, if_pos e2.symm]; omega
   ·rw [if_neg e2, if_neg (fun e => e2 e.symm), if_neg (fun e => e1 e.symm)]
 ·rename_i h
  by_cases e1 : j = p.l.toNat
  ·rw [if_pos e1, e1]; omega
  ·rw [if_neg e1]
   by_cases e2 : j = p.h.toNat
   ·rw [if_pos e2, e2]; omega
   ·rw [if_neg e2]
theorem gi_eqS {xs ys : List Int} (hl : xs.length = ys.length) (h : ∀ j, j < xs.length → gi xs j = gi ys j) : xs = ys := by
 refine List.ext_getElem hl fun j h1 h2 => ?_
 have := h j h1
 unfold gi at this
 simpa [List.getD_eq_getElem?_getD, h1, h2] using this
theorem gi_mapS (f : Int → Int) {xs : List Int} {j : Nat} (h : j < xs.length) : gi (xs.map f) j = f (gi xs j) := by
 unfold gi; simp [List.getD_eq_getElem?_getD, h]
def thr (t v : Int) : Int := if t < v then 1 else 0
theorem thr_min (t a b : Int) : min (thr t a) (thr t b) = thr t (min a b) := by unfold thr; split <;> split <;> split <;> omega
theorem thr_max (t a b : Int) : max (thr t a) (thr t b) = thr t (max a b) := by unfold thr; split <;> split <;> split <;> omega
theorem swp_thr {p : Sp} {x : List Int} (h0 : 0 ≤ p.l) (h1 : p.l < p.h) (h2 : p.h < x.length) (t : Int) : swp p (x.map (thr t)) = (swp p x).map (thr t) := by
 refine gi_eqS (by simp [swp_len]) fun j hj => ?_
 have hj' : j < x.length := by simpa [swp_len] using hj
 rw [gi_mapS _ (by rw [swp_len]; exact hj'), gi_swp h0 h1 (by simpa using h2), gi_swp h0 h1 h2]
 rw [gi_mapS _ (by omega), gi_mapS _ (by omega), gi_mapS _ hj', thr_min, thr_max]
 split
 ·rfl
 ·split <;> rfl
theorem srt_thr {n : Int} {ls : List Sp} {x : List Int} (hb : anyBad n ls = false) (hx : (x.length : Int) = n) (t : Int) : ∀ k, k ≤ ls.length → srt ls (x.map (thr t)) k = (srt ls x k).map (thr t) := by
 intro k
 induction k with
 | zero => intro _; rfl
 | succ k ih =>
  intro hk
  have ho := ok_at hb (j := k) (by omega)
  rw [srt, srt, ih (by omega), swp_thr ho.1 ho.2.1 (by rw [srt_len]; omega)]
theorem zo_num {x : List Int} (h : ∀ j, j < x.length → gi x j = 0 ∨ gi x j = 1) : ∃ k, k < 2 ^ x.length ∧ x = bitsN k x.length := by
 have hb : allB 0 1 x = true := allB_iff.2 fun z hz => by
  obtain ⟨j, hj, rfl⟩ := List.getElem_of_mem hz
  have := h j hj
  unfold gi at this
  simp [List.getD_eq_getElem?_getD, hj] at this
  omega
 have h1 := numN_bd hb
 refine ⟨(numN x).toNat, ?_, (bitsN_numS hb).symm⟩
 have : ((numN x).toNat : Int) = numN x := by omega
 have h2 : ((2 ^ x.length : Nat) : Int) = (2 : Int) ^ x.length := by simp
 omega
theorem thr_zo {x : List Int} (t : Int) : ∀ j, j < (x.map (thr t)).length → gi (x.map (thr t)) j = 0 ∨ gi (x.map (thr t)) j = 1 := fun j hj => by
 rw [gi_mapS _ (by simpa using hj)]; unfold thr; split <;> omega
theorem idle {n : Nat} {ls : List Sp} {x : List Int} (hb : anyBad n ls = false) (hx : x.length = n) {j : Nat} (hj : j < ls.length) (h : ∀ k, k < 2 ^ n → didB ls (bitsN k n) j = false) : didB ls x j = false := by
 cases hd : didB ls x j with
 | false => rfl
 | true =>
  exfalso
  unfold didB at hd
  have hd := of_decide_eq_true hd
  obtain ⟨k, hk, he⟩ := zo_num (thr_zo (x := x) (gi (srt ls x j) (ss ls j).h.toNat))
  rw [List.length_map, hx] at hk he
  have h1 := h k hk
  rw [← he] at h1
  unfold didB at h1
  have h1 := of_decide_eq_false h1
  have ho := ok_at hb hj
  have hl := srt_len ls x j
  rw [srt_thr hb (by omega) _ j (by omega), gi_mapS _ (by omega), gi_mapS _ (by omega)] at h1
  apply h1
  unfold thr
  rw [if_neg (by omega), if_pos hd]
  decide
def kept (ls : List Sp) (f : Nat → Bool) : Nat → List Sp
 | 0 => []
 | k + 1 => if f k then kept ls f k ++ [ss ls k] else kept ls f k
def idles (f : Nat → Bool) : Nat → List Int
 | 0 => []
 | k + 1 => if f k then idles f k else idles f k ++ [(k : Int)]
theorem kept_idles (ls : List Sp) (f : Nat → Bool) (k : Nat) : (kept ls f k).length + (idles f k).length = k := by
 induction k with
 | zero => rfl
 | succ k ih =>
  rw [kept, idles]
  cases f k <;> simp <;> omega
theorem ss_snoc_lt {ls : List Sp} {p : Sp} {j : Nat} (h : j < ls.length) : ss (ls ++ [p]) j = ss ls j := by unfold ss; simp [List.getD_eq_getElem?_getD, List.getElem?_append_left h]
theorem ss_snoc_eq (ls : List Sp) (p : Sp) : ss (ls ++ [p]) ls.length = p := by unfold ss; simp
theorem srt_congr {ls ms : List Sp} {x : List Int} : ∀ k, (∀ j, j < k → ss ls j = ss ms j) → srt ls x k = srt ms x k := by
 intro k
 induction k with
 | zero => intro _; rfl
 | succ k ih => intro h; rw [srt, srt, ih (fun j hj => h j (by omega)), h k (by omega)]
theorem srt_kept {ls : List Sp} {x : List Int} {f : Nat → Bool} : ∀ k, (∀ j, j < k → f j = false → didB ls x j = false) → srt (kept ls f k) x (kept ls f k).length = srt ls x k := by
 intro k
 induction k with
 | zero => intro _; rfl
 | succ k ih =>
  intro h
  have hi := ih (fun j hj => h j (by omega))
  rw [kept]
  cases hf : f k with
  | true =>
   rw [if_pos rfl, List.length_append, show ([ss ls k] : List Sp).length = 1 from rfl, srt, srt, ss_snoc_eq, srt_congr (ms := kept ls f k) _ (fun j hj => ss_snoc_lt hj), hi]
  | false =>
   rw [if_neg (by simp), hi, srt]
   have hd := h k (by omega) hf
   unfold didB at hd
   have hd := of_decide_eq_false hd
   unfold swp
   rw [if_neg hd]
theorem kept_bad {n : Int} {ls : List Sp} (f : Nat → Bool) (hb : anyBad n ls = false) : ∀ k, k ≤ ls.length → anyBad n (kept ls f k) = false ∧ (kept ls f k).length ≤ k := by
 intro k
 induction k with
 | zero => intro _; exact ⟨rfl, Nat.le_refl _⟩
 | succ k ih =>
  intro hk
  have hi := ih (by omega)
  rw [kept]
  split
  ·refine ⟨?_, by simp; omega⟩
   unfold anyBad at *
   rw [List.any_append, hi.1]
   have h1 := List.any_eq_false.1 hb ls[k] (List.getElem_mem (by omega))
   rw [← ss_lt (by omega : k < ls.length)] at h1
   simp only [List.any_cons, List.any_nil, Bool.or_false, Bool.false_or]
   simpa using h1
  ·exact ⟨hi.1, by omega⟩
def usedB (n : Nat) (ls : List Sp) (j : Nat) : Bool := (List.range (2 ^ n)).any fun k => didB ls (bitsN k n) j
theorem usedB_no {n : Nat} {ls : List Sp} {j : Nat} (h : usedB n ls j = false) : ∀ k, k < 2 ^ n → didB ls (bitsN k n) j = false := fun k hk => by
 unfold usedB at h
 have := List.any_eq_false.1 h k (List.mem_range.2 hk)
 simpa using this
theorem prune_same {n : Nat} {ls : List Sp} {x : List Int} (hb : anyBad n ls = false) (hx : x.length = n) :
 srt (kept ls (usedB n ls) ls.length) x (kept ls (usedB n ls) ls.length).length = srt ls x ls.length :=
 srt_kept ls.length fun j hj hf => idle hb hx hj (usedB_no hf)
def upB (x : List Int) : Bool := (List.range (x.length - 1)).all fun j => decide (gi x j ≤ gi x (j + 1))
theorem upB_iff {x : List Int} : upB x = true ↔ ∀ j, j + 1 < x.length → gi x j ≤ gi x (j + 1) := by
 unfold upB
 rw [List.all_eq_true]
 constructor
 ·intro h j hj; exact of_decide_eq_true (h j (List.mem_range.2 (by omega)))
 ·intro h j hj; exact decide_eq_true (h j (by have := List.mem_range.1 hj; omega))
def ttT : Nat → Nat → Nat
 | 0, _ => 0
 | n + 1, j => if j = n then 2 ^ 2 ^ n * (2 ^ 2 ^ n - 1) else 2 ^ 2 ^ n * ttT n j + ttT n j
theorem ttT_lt (n j : Nat) : ttT n j < 2 ^ 2 ^ n := by
 induction n with
 | zero => simp [ttT]
 | succ n ih =>
  have hp : 0 < 2 ^ 2 ^ n := Nat.pos_of_ne_zero (by simp)
  have e : 2 ^ 2 ^ (n + 1) = 2 ^ 2 ^ n * 2 ^ 2 ^ n := by rw [← Nat.pow_add, Nat.pow_succ]; congr 1; omega
  rw [e, ttT]
  generalize 2 ^ 2 ^ n = P at *
  split
  ·exact Nat.mul_lt_mul_of_pos_left (by omega) hp
  ·have : P * ttT n j + P ≤ P * P := by rw [← Nat.mul_succ]; exact Nat.mul_le_mul_left _ ih
   omega
theorem ttT_bit {n : Nat} : ∀ {j k : Nat}, j < n → k < 2 ^ n → (ttT n j).testBit k = k.testBit j := by
 induction n with
 | zero => intro j k h; omega
 | succ n ih =>
  intro j k hj hk
  have hp : 0 < 2 ^ n := Nat.pos_of_ne_zero (by simp)
  have hq : 0 < 2 ^ 2 ^ n := Nat.pos_of_ne_zero (by simp)
  rw [Nat.pow_succ] at hk
  rw [ttT]
  by_cases h1 : j = n
  ·subst h1
   rw [if_pos rfl, show 2 ^ 2 ^ j * (2 ^ 2 ^ j - 1) = 2 ^ 2 ^ j * (2 ^ 2 ^ j - 1) + 0 by omega, Nat.testBit_two_pow_mul_add _ hq]
   by_cases h2 : k < 2 ^ j
   ·rw [if_pos h2, Nat.testBit_lt_two_pow h2]; simp
   ·rw [if_neg h2, Nat.testBit_two_pow_sub_one, decide_eq_true (by omega)]
    have : k = 2 ^ j * 1 + (k - 2 ^ j) := by omega
    rw [this, Nat.testBit_two_pow_mul_add _ (by omega)]
    simp
  ·rw [if_neg h1, Nat.testBit_two_pow_mul_add _ (ttT_lt n j)]
   by_cases h2 : k < 2 ^ n
   ·rw [if_pos h2]; exact ih (by omega) h2
   ·rw [if_neg h2, ih (by omega) (by omega)]
    have : k = 2 ^ n * 1 + (k - 2 ^ n) := by omega
    rw [this, Nat.testBit_two_pow_mul_add _ (by omega), if_pos (by omega)]
    congr 1
    omega
def tgi (L : List Nat) (j : Nat) : Nat := L.getD j 0
def tst (p : Sp) (L : List Nat) : List Nat := (L.set p.l.toNat (tgi L p.l.toNat &&& tgi L p.h.toNat)).set p.h.toNat (tgi L p.l.toNat ||| tgi L p.h.toNat)
def trun : List Sp → List Nat → List Nat
 | [], L => L
 | p :: ls, L => trun ls (tst p L)
def tup : List Nat → Bool
 | [] => true
 | a :: r => (match r with | [] => true | b :: _ => Nat.beq (a &&& b) a) && tup r
def tabOk (n : Nat) (ls : List Sp) : Bool := tup (trun ls ((List.range n).map (ttT n)))
theorem tgi_set {L : List Nat} {i j : Nat} (u : Nat) (hi : i < L.length) : tgi (L.set i u) j = if i = j then u else tgi L j := by
 unfold tgi
 rw [List.getD_eq_getElem?_getD, List.getD_eq_getElem?_getD, List.getElem?_set]
 split
 ·rename_i h; subst h; simp [hi]
 ·rfl
def Tels (n : Nat) (L : List Nat) (x : Nat → List Int) : Prop := L.length = n ∧ ∀ k, k < 2 ^ n → (x k).length = n ∧ ∀ j, j < n → gi (x k) j = if (tgi L j).testBit k then 1 else 0
theorem tels_step {n : Nat} {L : List Nat} {x : Nat → List Int} {p : Sp} (h : Tels n L x) (h0 : 0 ≤ p.l) (h1 : p.l < p.h) (h2 : p.h < n) : Tels n (tst p L) (fun k => swp p (x k)) := by
 refine ⟨by simp [tst, h.1], fun k hk => ?_⟩
 obtain ⟨h3, h4⟩ := h.2 k hk
 refine ⟨by rw [swp_len, h3], fun j hj => ?_⟩
 have hl := h.1
 have ht : tgi (tst p L) j = if p.h.toNat = j then tgi L p.l.toNat ||| tgi L p.h.toNat else if p.l.toNat = j then tgi L p.l.toNat &&& tgi L p.h.toNat else tgi L j := by
  unfold tst
  rw [tgi_set _ (by simp; omega), tgi_set _ (by omega)]
 have ha := h4 p.l.toNat (by omega)
 have hb := h4 p.h.toNat (by omega)
 have hc := h4 j hj
 show gi (swp p (x k)) j = _
 rw [gi_swp h0 h1 (by omega)]
 by_cases e1 : j = p.l.toNat
 ·rw [if_neg (by omega), if_pos e1.symm] at ht
  rw [if_pos e1, ht, Nat.testBit_and, ha, hb]
  cases (tgi L p.l.toNat).testBit k <;> cases (tgi L p.h.toNat).testBit k <;> decide
 ·rw [if_neg e1]
  by_cases e2 : j = p.h.toNat
  ·rw [if_pos e2.symm] at ht
   rw [if_pos e2, ht, Nat.testBit_or, ha, hb]
   cases (tgi L p.l.toNat).testBit k <;> cases (tgi L p.h.toNat).testBit k <;> decide
  ·rw [if_neg (fun e => e2 e.symm), if_neg (fun e => e1 e.symm)] at ht
   rw [if_neg e2, ht, hc]
theorem srt_cons (p : Sp) (ls : List Sp) (x : List Int) : ∀ k, srt (p :: ls) x (k + 1) = srt ls (swp p x) k := by
 intro k
 induction k with
 | zero => rfl
 | succ k ih => rw [srt, ih, srt]; rfl
theorem tels_run {n : Nat} : ∀ {ls : List Sp} {L : List Nat} {x : Nat → List Int}, anyBad n ls = false → Tels n L x → Tels n (trun ls L) (fun k => srt ls (x k) ls.length) := by
 intro ls
 induction ls with
 | nil => intro L x _ h; exact h
 | cons p ls ih =>
  intro L x hb h
  have ho := ok_at hb (j := 0) (by simp)
  have hb' : anyBad n ls = false := by
   unfold anyBad at *
   rw [List.any_cons, Bool.or_eq_false_iff] at hb
   exact hb.2
  have hp : ss (p :: ls) 0 = p := rfl
  rw [hp] at ho
  have := ih hb' (tels_step h ho.1 ho.2.1 ho.2.2)
  refine ⟨this.1, fun k hk => ?_⟩
  have h9 := this.2 k hk
  show (srt (p :: ls) (x k) (ls.length + 1)).length = n ∧ ∀ j, j < n → gi (srt (p :: ls) (x k) (ls.length + 1)) j = _
  rw [srt_cons]
  exact h9
theorem tup_at : ∀ {L : List Nat} (h : tup L = true) {j : Nat} (hj : j + 1 < L.length), tgi L j &&& tgi L (j + 1) = tgi L j := by
 intro L
 induction L with
 | nil => intro _ j hj; simp at hj
 | cons a r ih =>
  intro h j hj
  unfold tup at h
  rw [Bool.and_eq_true] at h
  cases j with
  | zero =>
   cases r with
   | nil => simp at hj
   | cons b r => exact Nat.eq_of_beq_eq_true h.1
  | succ j =>
   have := ih h.2 (j := j) (by simpa using hj)
   exact this
theorem tels_start (n : Nat) : Tels n ((List.range n).map (ttT n)) (fun k => bitsN k n) := by
 refine ⟨by simp, fun k hk => ⟨Zat _ _, fun j hj => ?_⟩⟩
 rw [show tgi ((List.range n).map (ttT n)) j = ttT n j by unfold tgi; simp [List.getD_eq_getElem?_getD, hj], ttT_bit hj hk, Nat.testBit_eq_decide_div_mod_eq]
 have : gi (bitsN k n) j = ((k / 2 ^ j % 2 : Nat) : Int) := by unfold bitsN; rw [gi_tab hj]
 rw [this]
 rcases Nat.mod_two_eq_zero_or_one (k / 2 ^ j) with h | h <;> rw [h] <;> rfl
theorem tab_sorts {n : Nat} {ls : List Sp} (hb : anyBad n ls = false) (h : tabOk n ls = true) : ∀ k, k < 2 ^ n → upB (srt ls (bitsN k n) ls.length) = true := fun k hk => by
 have ht := tels_run hb (tels_start n)
 obtain ⟨h1, h2⟩ := ht.2 k hk
 refine upB_iff.2 fun j hj => ?_
 rw [h1] at hj
 rw [h2 j (by omega), h2 (j + 1) (by omega)]
 have := tup_at h (j := j) (by rw [ht.1]; exact hj)
 have hb := congrArg (fun v => v.testBit k) this
 simp only [Nat.testBit_and] at hb
 cases e1 : (tgi (trun ls ((List.range n).map (ttT n))) j).testBit k <;> cases e2 : (tgi (trun ls ((List.range n).map (ttT n))) (j + 1)).testBit k <;> simp_all
def topN (n : Nat) : Nat → Nat → Nat
 | 0, t => t
 | f + 1, t => if 2 * t < n then topN n f (2 * t) else t
def mFr (d p r : Nat) : Nat → Nat → List Sp
 | _, 0 => []
 | i, c + 1 => if i &&& p = r then ⟨(i : Int), ((i + d : Nat) : Int)⟩ :: mFr d p r (i + 1) c else mFr d p r (i + 1) c
def mMid (n p : Nat) : Nat → Nat → Nat → Nat → List Sp
 | 0, _, _, _ => []
 | f + 1, q, r, d => mFr d p r 0 (n - d) ++ (if q = p then [] else mMid n p f (q / 2) p (q - p))
def mOut (n top : Nat) : Nat → Nat → List Sp
 | 0, _ => []
 | f + 1, p => if p = 0 then [] else mMid n p 5 top 0 p ++ mOut n top f (p / 2)
def mgn (n : Nat) : List Sp := if n = 1 then [] else mOut n (topN n 4 1) 5 (topN n 4 1)
def iFr : Nat → List Sp
 | 0 => []
 | i + 1 => ⟨(i : Int), ((i + 1 : Nat) : Int)⟩ :: iFr i
def iAll : Nat → Nat → List Sp
 | _, 0 => []
 | k, c + 1 => iFr k ++ iAll (k + 1) c
def ins (n : Nat) : List Sp := iAll 1 (n - 1)
def insF (n : Int) : Option (List Sp) := if inB 1 12 n && decide ((ins n.toNat).length ≤ 60) then some (ins n.toNat) else none
def mgnF (n : Int) : Option (List Sp) := if inB 1 12 n then some (mgn n.toNat) else none
theorem n_cases {n : Int} (h : inB 1 12 n = true) : n = 1 ∨ n = 2 ∨ n = 3 ∨ n = 4 ∨ n = 5 ∨ n = 6 ∨ n = 7 ∨ n = 8 ∨ n = 9 ∨ n = 10 ∨ n = 11 ∨ n = 12 := by
 have := inB_iff.1 h
 omega
def okN (n : Nat) (ls : List Sp) : Bool := !(anyBad n ls) && (decide (ls.length ≤ 60) && tabOk n ls)
theorem mgn_ok1 : okN 1 (mgn 1) = true := by kernel_rfl
theorem mgn_ok2 : okN 2 (mgn 2) = true := by kernel_rfl
theorem mgn_ok3 : okN 3 (mgn 3) = true := by kernel_rfl
theorem mgn_ok4 : okN 4 (mgn 4) = true := by kernel_rfl
theorem mgn_ok5 : okN 5 (mgn 5) = true := by kernel_rfl
theorem mgn_ok6 : okN 6 (mgn 6) = true := by kernel_rfl
theorem mgn_ok7 : okN 7 (mgn 7) = true := by kernel_rfl
theorem mgn_ok8 : okN 8 (mgn 8) = true := by kernel_rfl
theorem mgn_ok9 : okN 9 (mgn 9) = true := by kernel_rfl
theorem mgn_ok10 : okN 10 (mgn 10) = true := by kernel_rfl
theorem mgn_ok11 : okN 11 (mgn 11) = true := by kernel_rfl
theorem mgn_ok12 : okN 12 (mgn 12) = true := by kernel_rfl
theorem ins_ok1 : okN 1 (ins 1) = true := by kernel_rfl
theorem ins_ok2 : okN 2 (ins 2) = true := by kernel_rfl
theorem ins_ok3 : okN 3 (ins 3) = true := by kernel_rfl
theorem ins_ok4 : okN 4 (ins 4) = true := by kernel_rfl
theorem ins_ok5 : okN 5 (ins 5) = true := by kernel_rfl
theorem ins_ok6 : okN 6 (ins 6) = true := by kernel_rfl
theorem ins_ok7 : okN 7 (ins 7) = true := by kernel_rfl
theorem ins_ok8 : okN 8 (ins 8) = true := by kernel_rfl
theorem ins_ok9 : okN 9 (ins 9) = true := by kernel_rfl
theorem ins_ok10 : okN 10 (ins 10) = true := by kernel_rfl
theorem ins_ok11 : okN 11 (ins 11) = true := by kernel_rfl
theorem ins_no12 : decide ((ins 12).length ≤ 60) = false := by kernel_rfl
theorem okN_parts {n : Nat} {ls : List Sp} (h : okN n ls = true) : anyBad n ls = false ∧ ls.length ≤ 60 ∧ tabOk n ls = true := by
 unfold okN at h
 rw [Bool.and_eq_true, Bool.and_eq_true] at h
 refine ⟨by simpa using h.1, of_decide_eq_true h.2.1, h.2.2⟩
theorem mgn_law {n : Int} {ls : List Sp} (h : mgnF n = some ls) : ∃ N : Nat, n = N ∧ 1 ≤ N ∧ N ≤ 12 ∧ ls = mgn N ∧ netB n ls = true ∧ ls.length ≤ 60 ∧ ∀ k, k < 2 ^ N → upB (srt ls (bitsN k N) ls.length) = true := by
 unfold mgnF at h
 by_cases hc : inB 1 12 n = true
 ·rw [if_pos hc] at h
  injection h with h
  have key : okN n.toNat (mgn n.toNat) = true := by
   rcases n_cases hc with e | e | e | e | e | e | e | e | e | e | e | e <;> subst e
   ·exact mgn_ok1
   ·exact mgn_ok2
   ·exact mgn_ok3
   ·exact mgn_ok4
   ·exact mgn_ok5
   ·exact mgn_ok6
   ·exact mgn_ok7
   ·exact mgn_ok8
   ·exact mgn_ok9
   ·exact mgn_ok10
   ·exact mgn_ok11
   ·exact mgn_ok12
  obtain ⟨h1, h2, h3⟩ := okN_parts key
  have hb := inB_iff.1 hc
  obtain ⟨N, rfl⟩ := Int.eq_ofNat_of_zero_le (show 0 ≤ n by omega)
  rw [Int.toNat_natCast] at *
  subst h
  refine ⟨N, rfl, by omega, by omega, rfl, ?_, h2, tab_sorts h1 h3⟩
  unfold netB
  rw [hc, h1, decide_eq_true h2]
  rfl
 ·rw [if_neg hc] at h; cases h
theorem ins_law {n : Int} {ls : List Sp} (h : insF n = some ls) : ∃ N : Nat, n = N ∧ 1 ≤ N ∧ N ≤ 12 ∧ ls = ins N ∧ netB n ls = true ∧ ls.length ≤ 60 ∧ ∀ k, k < 2 ^ N → upB (srt ls (bitsN k N) ls.length) = true := by
 unfold insF at h
 by_cases hc : (inB 1 12 n && decide ((ins n.toNat).length ≤ 60)) = true
 ·rw [if_pos hc] at h
  injection h with h
  rw [Bool.and_eq_true] at hc
  obtain ⟨hc, hl⟩ := hc
  have key : okN n.toNat (ins n.toNat) = true := by
   rcases n_cases hc with e | e | e | e | e | e | e | e | e | e | e | e <;> subst e
   ·exact ins_ok1
   ·exact ins_ok2
   ·exact ins_ok3
   ·exact ins_ok4
   ·exact ins_ok5
   ·exact ins_ok6
   ·exact ins_ok7
   ·exact ins_ok8
   ·exact ins_ok9
   ·exact ins_ok10
   ·exact ins_ok11
   ·exact absurd hl (by rw [show (12 : Int).toNat = 12 from rfl, ins_no12]; decide)
  obtain ⟨h1, h2, h3⟩ := okN_parts key
  have hb := inB_iff.1 hc
  obtain ⟨N, rfl⟩ := Int.eq_ofNat_of_zero_le (show 0 ≤ n by omega)
  rw [Int.toNat_natCast] at *
  subst h
  refine ⟨N, rfl, by omega, by omega, rfl, ?_, h2, tab_sorts h1 h3⟩
  unfold netB
  rw [hc, h1, decide_eq_true h2]
  rfl
 ·rw [if_neg hc] at h; cases h
end Go.Proofs.Ytjeojnfpeppclaa
