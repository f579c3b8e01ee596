/- Drawn circuits: whatever the bytes are, a circuit of few gates comes back and the reader stays one. -/
import Derived.Test.YtnhmfedegfcflaaGreatDoorQR09
namespace Go.Proofs.YtnhmfedegfcflaaGreatDoor
open Go.RowKit
set_option linter.unusedVariables false
set_option linter.unusedSimpArgs false
def Res.cur (W : World) (b : Nat) (R : Nat → Prop) (T : Nat) (n : Int) : Res :=
 ⟨fun _ v => ∃ x : Nat, ((x : Int) < n ∨ x = 0) ∧ v = .int .i64 x, fun _ _ w => Cur w b R T ∧ ∀ i, R i → i < w.heap.size ∧ w.heap[i]? = W.heap[i]?, fun _ _ c => c = b ∨ R c, fun _ => ⟨.int .i64 (0 : Nat), 0, .inr rfl, rfl⟩,
  fun _ v w w' S h k hb => ⟨h.1.alt k (hb b (.inl rfl)).1 (fun i hi => (hb i (.inr hi)).1), fun i hi => ⟨Nat.lt_of_lt_of_le (h.2 i hi).1 k.size, (k.block i (h.2 i hi).1 (hb i (.inr hi)).1).trans (h.2 i hi).2⟩⟩⟩
def Res.curQ (W : World) (b : Nat) (R : Nat → Prop) (T : Nat) (Q : Value → Prop) (hQ : ∃ v, Q v) : Res :=
 ⟨fun _ v => Q v, fun _ _ w => Cur w b R T ∧ ∀ i, R i → i < w.heap.size ∧ w.heap[i]? = W.heap[i]?, fun _ _ c => c = b ∨ R c, fun _ => hQ,
  fun _ v w w' S h k hb => ⟨h.1.alt k (hb b (.inl rfl)).1 (fun i hi => (hb i (.inr hi)).1), fun i hi => ⟨Nat.lt_of_lt_of_le (h.2 i hi).1 k.size, (k.block i (h.2 i hi).1 (hb i (.inr hi)).1).trans (h.2 i hi).2⟩⟩⟩
def Res.rowE (lo n : Nat) : Res :=
 ⟨fun _ v => ∃ A c, v = .slice A n c, fun _ v w => ∃ xs, Own w lo w.heap.size v n xs, fun _ v b => v.ownBlock = some b, fun _ => ⟨.slice none n 0, none, 0, rfl⟩, fun _ v w w' S ⟨xs, h⟩ k hb => ⟨xs, (h.alt k fun g hg => (hb g hg).1).now⟩⟩
def postPick (w : World) (b : Nat) (R : Nat → Prop) (T : Nat) (n : Int) (v : Value) (w' : World) : Prop := ∃ x : Nat, ((x : Int) < n ∨ x = 0) ∧ v = .int .i64 x ∧ Cur w' b R T ∧ Alt (fun i => i = b) w w'
section
variable {P : Program} {W : World} {own : Nat → Prop} {cs : List (Addr × Value)} {sk : List (Nat × List Nat × List Nat)} {ini fi : List Nat} {rs : List (Nat × Res)} {ops : Array Oper} {L : Act → (Nat → Value) → Prop} {k : Nat} {o : Oper} {rest : List Oper} {a : Act} {ρ : Nat → Value}
theorem mem_pick (d b : Nat) (R : Nat → Prop) (T T' : Nat) (n n' : Int) (W0 : World) (v0 : Value) (hR : ¬ R b) (hr : resAt rs k = Res.cur W0 b R T' n') (he : effB sk k = true) (hrd : resAt rs d = Res.cur W0 b R T n) (hd : consL sk k = [d]) (hdd : d ∈ depsL sk k) (hρ : ρ d = v0)
 (hx : ∀ w, Alt (okB W own) W w → CellsL w cs → Cur w b R T → sepAt P o a (postPick w b R T' n') w)
 (h : ∀ x : Nat, ((x : Int) < n' ∨ x = 0) → wpSep (mkSep W own cs sk ini fi rs) P ops L (k + 1) rest (a.put o.dst (.int .i64 x)) (upd ρ k (.int .i64 x))) (hw : Region.wanted o (yielded ops a.tmps) = true := by first | exact Zac rfl | exact Zaa rfl rfl rfl rfl) : wpSep (mkSep W own cs sk ini fi rs) P ops L k (o :: rest) a ρ :=
 Zbl (hw := hw) _ hr he (fun w hw hc hp => by
  have h1 : Cur w b R T ∧ ∀ i, R i → i < w.heap.size ∧ w.heap[i]? = W0.heap[i]? := (Zbo hdd hp hρ hrd).1
  have hh : (mkSep W own cs sk ini fi rs).hit k ρ = fun c => c = b ∨ R c := hit_one hd hρ hrd
  rw [hh]
  refine Zaz (hx w hw hc h1.1) fun v w' ⟨x, hx1, he1, hc1, ha1⟩ => ⟨⟨x, hx1, he1⟩, ⟨hc1, fun i hi => ?_⟩, ha1.mono_ (fun i _ hi => .inl hi), fun c hc => ⟨?_, .inr hc⟩⟩
  ·exact ⟨Nat.lt_of_lt_of_le (h1.2 i hi).1 ha1.size, (ha1.block i (h1.2 i hi).1 (fun e => hR (e ▸ hi))).trans (h1.2 i hi).2⟩
  ·rcases hc with hc | hc
   ·subst hc; exact hc1.lt
   ·exact Nat.lt_of_lt_of_le (h1.2 c hc).1 ha1.size) fun v hv => by
  obtain ⟨x, hx, rfl⟩ := hv
  exact h x hx
theorem mem_rowE (lo n : Nat) (hr : resAt rs k = Res.rowE lo n) (he : effB sk k = true) (hlo : lo ≤ W.heap.size) (hx : ∀ w, Alt (okB W own) W w → CellsL w cs → (mkSep W own cs sk ini fi rs).pre k ρ w → sepAt P o a (fun v w' => ∃ xs, postRow w n xs v w') w)
 (h : ∀ A c, wpSep (mkSep W own cs sk ini fi rs) P ops L (k + 1) rest (a.put o.dst (.slice A n c)) (upd ρ k (.slice A n c))) (hw : Region.wanted o (yielded ops a.tmps) = true := by first | exact Zac rfl | exact Zaa rfl rfl rfl rfl) : wpSep (mkSep W own cs sk ini fi rs) P ops L k (o :: rest) a ρ :=
 Zbl (hw := hw) _ hr he (fun w hw hc hp => Zaz (hx w hw hc hp) fun v w' ⟨xs, A, c, h1, h2, h3⟩ => by
  subst h1
  exact ⟨⟨A, c, rfl⟩, ⟨xs, h2.lo_ (Nat.le_trans hlo hw.size)⟩, Alt.of_new h3, fun b hb => ⟨(h2.lt b hb).2.2, .inl (h2.lt b hb).1⟩⟩) fun v hv => by
  obtain ⟨A, c, rfl⟩ := hv
  exact h A c
theorem mem_appE {ops : Array Oper} {L : Act → (Nat → Value) → Prop} (d d2 lo n m : Nat) (A0 : Option Addr) (c0 : Nat) (A : Option Addr) (c : Nat) (s x : Operand) (hr : resAt rs k = Res.rowE lo (n + m)) (he : effB sk k = true) (hlo : lo ≤ W.heap.size) (hrd : resAt rs d = Res.rowE lo n) (hd : consL sk k = [d]) (hdd : d ∈ depsL sk k) (hρ : ρ d = .slice A0 n c0)
 (hrd2 : resAt rs d2 = Res.rowE lo m) (hdd2 : d2 ∈ depsL sk k) (hρ2 : ρ d2 = .slice A m c)
 (ho : o.op = .call { callee := .builtin .append, args := #[s, x], argTypes := #[25, 25] }) (hs : a.eval s = .slice A0 n c0) (hx : a.eval x = .slice A m c) (hlen : n + m ≤ 8388608)
 (h : ∀ A' c', wpSep (mkSep W own cs sk ini fi rs) Tryz.prog ops L (k + 1) rest (a.put o.dst (.slice A' (n + m) c')) (upd ρ k (.slice A' (n + m) c'))) (hw : Region.wanted o (yielded ops a.tmps) = true := by first | exact Zac rfl | exact Zaa rfl rfl rfl rfl) : wpSep (mkSep W own cs sk ini fi rs) Tryz.prog ops L k (o :: rest) a ρ :=
 Zbl (hw := hw) _ hr he (fun w hw hc hp => by
  obtain ⟨xs, h1⟩ : ∃ xs, Own w lo w.heap.size (.slice A0 n c0) n xs := (Zbo hdd hp hρ hrd).1
  obtain ⟨ys, h6⟩ : ∃ ys, Own w lo w.heap.size (.slice A m c) m ys := (Zbo hdd2 hp hρ2 hrd2).1
  have hh : (mkSep W own cs sk ini fi rs).hit k ρ = fun b => (Value.slice A0 n c0).ownBlock = some b := hit_one hd hρ hrd
  rw [hh]
  obtain ⟨A', c', w', hrun, h2, h3, h4, h5⟩ := run_appI w o.type lo w.heap.size n c0 m c A0 A xs ys h1 h6.reads hlen (Nat.le_trans hlo hw.size)
  unfold sepAt execOp
  simp only [ho, resolve, invoke, builtin, Sem.run_bind, Sem.run_pure, Result.andThen_ok, List.map_toArray, List.map_cons, List.map_nil, hs, hx, hrun]
  exact ⟨⟨A', c', rfl⟩, ⟨_, h2⟩, Alt.of_grown h3 (fun i hi => hi), fun b hb => ⟨(h2.lt b hb).2.2, by
   rcases h4 with h4 | h4
   ·exact .inr (h4 ▸ hb)
   ·have hb' : (Value.slice A' (n + m) c').ownBlock = some b := hb
    rw [h4] at hb'; injection hb' with hb'
    exact .inl (by omega)⟩⟩) fun v hv => by
  obtain ⟨A', c', rfl⟩ := hv
  exact h A' c'
theorem mem_cur (d b : Nat) (R : Nat → Prop) (T T' : Nat) (Q Q' : Value → Prop) (hQ : ∃ v, Q v) (hQ' : ∃ v, Q' v) (W0 : World) (v0 : Value) (hR : ¬ R b) (hr : resAt rs k = Res.curQ W0 b R T' Q' hQ') (he : effB sk k = true) (hrd : resAt rs d = Res.curQ W0 b R T Q hQ) (hd : consL sk k = [d]) (hdd : d ∈ depsL sk k) (hρ : ρ d = v0)
 (hx : ∀ w, Alt (okB W own) W w → CellsL w cs → (mkSep W own cs sk ini fi rs).pre k ρ w → Cur w b R T → sepAt P o a (fun v w' => Q' v ∧ Cur w' b R T' ∧ Alt (fun i => i = b) w w') w)
 (h : ∀ v, Q' v → wpSep (mkSep W own cs sk ini fi rs) P ops L (k + 1) rest (a.put o.dst v) (upd ρ k v)) (hw : Region.wanted o (yielded ops a.tmps) = true := by first | exact Zac rfl | exact Zaa rfl rfl rfl rfl) : wpSep (mkSep W own cs sk ini fi rs) P ops L k (o :: rest) a ρ :=
 Zbl (hw := hw) _ hr he (fun w hw hc hp => by
  have h1 : Cur w b R T ∧ ∀ i, R i → i < w.heap.size ∧ w.heap[i]? = W0.heap[i]? := (Zbo hdd hp hρ hrd).1
  have hh : (mkSep W own cs sk ini fi rs).hit k ρ = fun c => c = b ∨ R c := hit_one hd hρ hrd
  rw [hh]
  refine Zaz (hx w hw hc hp h1.1) fun v w' ⟨hq1, hc1, ha1⟩ => ⟨hq1, ⟨hc1, fun i hi => ?_⟩, ha1.mono_ (fun i _ hi => .inl hi), fun c hc => ⟨?_, .inr hc⟩⟩
  ·exact ⟨Nat.lt_of_lt_of_le (h1.2 i hi).1 ha1.size, (ha1.block i (h1.2 i hi).1 (fun e => hR (e ▸ hi))).trans (h1.2 i hi).2⟩
  ·rcases hc with hc | hc
   ·subst hc; exact hc1.lt
   ·exact Nat.lt_of_lt_of_le (h1.2 c hc).1 ha1.size) h
end
attribute [local go_sem] sepAt sepUpon pureAt pureUpon
theorem PX.alt {S : Nat → Prop} {w w' : World} {lo b : Nat} {C : Ci} {A : Option Addr} {ca : Nat} {O : Option Addr} {co : Nat} (h : PX w lo b C A ca O co) (k : Alt S w w') (hb : ¬ S b) (hs : ∀ g, lo ≤ g → ¬ S g) : PX w' lo b C A ca O co :=
 ⟨h.bx.alt k hb, h.fz.alt k h.lt hb, ⟨(h.ox.1.1.alt k (fun g hg => hs g (h.ox.1.1.lt g hg).1)).now, (h.ox.1.2.1.alt k (fun g hg => hs g (h.ox.1.2.1.lt g hg).1)).now, h.ox.1.2.2⟩, h.ox.2⟩
theorem PX.newV (w : World) (lo : Nat) (x y : Int) (T : TypeId) : PX (w.alloc (.cells #[.int .i64 x, .int .i64 y, .slice none 0 0, .slice none 0 0] T)) lo w.heap.size ⟨x, y, [], []⟩ none 0 none 0 :=
 ⟨BxC.new w T, Fz.new w _ _, OwnC.none_ _ _ _, by simp [Value.ownBlock], by simp [Value.ownBlock]⟩
def RetDw (b : Nat) (R : Nat → Prop) (T ng no : Nat) (w : World) (e : Ending) (w' : World) : Prop :=
 ∃ (C : Ci) (A : Option Addr) (ca : Nat) (O : Option Addr) (co : Nat), e = .returned (.agg #[.int .i64 C.i0, .int .i64 C.i1, .slice A C.gs.length ca, .slice O C.os.length co]) ∧ OwnC w' w.heap.size w'.heap.size A C.gs.length ca O C.os.length co C.gs C.os ∧ (0 ≤ C.i0 ∧ C.i0 ≤ 3) ∧ (0 ≤ C.i1 ∧ C.i1 ≤ 3) ∧ C.gs.length ≤ ng ∧ C.os.length ≤ no ∧ Cur w' b R T ∧ Alt (fun i => i = b) w w'
theorem RetDw.of_ {b lo bm T U ng no : Nat} {R : Nat → Prop} {w base w1 : World} {C : Ci} {A : Option Addr} {ca : Nat} {O : Option Addr} {co : Nat} (hp : PX w1 lo bm C A ca O co) (hlo : w.heap.size < lo) (hk : Alt (fun i => i = b) base w1) (hA : Below w.heap.size w base) (hbs : base.heap.size = w.heap.size + 1)
 (hu : Cur w1 b R U) (hU : U ≤ T) (hR : ∀ i, R i → i < w.heap.size) (hb : b < w.heap.size) (hx : 0 ≤ C.i0 ∧ C.i0 ≤ 3) (hy : 0 ≤ C.i1 ∧ C.i1 ≤ 3) (hn : C.gs.length ≤ ng) (ho : C.os.length ≤ no) :
 RetDw b R T ng no w (.returned (.agg #[.int .i64 C.i0, .int .i64 C.i1, .slice A C.gs.length ca, .slice O C.os.length co])) ((((w1.setCell ⟨w.heap.size, 0, none⟩ (.int .i64 C.i0)).setCell ⟨w.heap.size, 1, none⟩ (.int .i64 C.i1)).setCell ⟨w.heap.size, 2, none⟩ (.slice A C.gs.length ca)).setCell ⟨w.heap.size, 3, none⟩ (.slice O C.os.length co)) := by
 have hz := hk.size
 have h1 : Alt (fun i => i = b) w w1 := (Alt.of_new (S := fun i => i = b) hA).trans_ hk (fun _ _ h => h)
 have h2 := Zbh (Alt.refl_ (fun i => i = w.heap.size) w1) (fun _ => rfl) C.i0 C.i1 A C.gs.length ca O C.os.length co
 refine ⟨C, A, ca, O, co, rfl, ?_, hx, hy, hn, ho, (hu.mono hU).alt h2 (by omega) (fun i hi h => by have := hR i hi; omega), Zbh h1 (fun h => absurd h (by omega)) _ _ _ _ _ _ _ _⟩
 rw [Zbr]
 exact (hp.ox.1.set4 (.inl hlo) _ _ _ _ _ _ _ _).lo_ (by omega)
theorem least_any (a b : Int) (w : World) : Calls Tryz.prog 42 #[.int .i64 a, .int .i64 b] w fun e w' => e = .returned (.int .i64 (min a b)) ∧ w = w' := by
 by_cases h : a < b
 ·have hm : Hid (min a b = a) := zH (by omega)
  go_enter Tryz.func42, Tryz.ntmps42
  go_wp2
  go_ret
  exact ⟨by rw [hm.out]; rfl, rfl⟩
 ·have hm : Hid (min a b = b) := zH (by omega)
  go_enter Tryz.func42, Tryz.ntmps42
  go_wp2
  go_ret
  exact ⟨by rw [hm.out]; rfl, rfl⟩
theorem alt_back {b : Nat} {R own : Nat → Prop} {base wr wy : World} (hk : Alt (fun i => i = b) base wr) (h : Alt (okB wr (fun i => (i = b ∨ R i) ∨ own i)) wr wy) (hown : ∀ i, own i → base.heap.size ≤ i) (hR : ∀ i, R i → wy.heap[i]? = wr.heap[i]?) : Alt (fun i => i = b) base wy :=
 ⟨h.os.trans hk.os, h.tape.trans hk.tape, h.output.trans hk.output, Nat.le_trans hk.size h.size, fun i hi hn => by
  have e := hk.block i hi hn
  by_cases hRi : R i
  ·exact (hR i hRi).trans e
  ·refine (h.block i (by have := hk.size; omega) (fun hc => ?_)).trans e
   rcases hc with h1 | (h1 | h1) | h1
   ·have := hk.size; omega
   ·exact hn h1
   ·exact hRi h1
   ·have := hown i h1; omega⟩
theorem PX.outE {S : Nat → Prop} {w wy : World} {lo b n : Nat} {C : Ci} {A : Option Addr} {ca : Nat} {O O' : Option Addr} {co co' : Nat} {os' : List Int} (h : PX w lo b C A ca O co) (k : Alt S w wy) (hb : ¬ S b) (hA : ∀ g, (Value.slice A C.gs.length ca).ownBlock = some g → ¬ S g)
 (hO : Own wy lo wy.heap.size (.slice O' n co') n os') (hS : ∀ g, (Value.slice O' n co').ownBlock = some g → S g) : PX (wy.setCell ⟨b, 3, none⟩ (.slice O' n co')) lo b { C with os := os' } A ca O' co' := by
 obtain rfl : os'.length = n := hO.len
 have hx : OwnX wy lo b A C.gs.length ca O' os'.length co' C.gs os' := ⟨⟨(h.ox.1.1.alt k hA).now, hO, fun g h1 h2 => hA g h1 (hS g h2)⟩, h.ox.2.1, fun hc => hb (hS b hc)⟩
 exact ⟨(h.bx.alt k hb).setO _ _ _, (h.fz.alt k h.lt hb).set _ _, hx.store 3 _⟩
set_option maxHeartbeats 4000000 in
theorem circuit_any (b : Nat) (R : Nat → Prop) (T : Nat) (w : World) (h : Cur w b R T) (hT : T < 800000000) (hR : ∀ i, R i → i < w.heap.size) (hRb : ¬ R b) :
 Calls Tryz.prog 58 #[.pointer (some ⟨b, 0, none⟩)] w (RetDw b R (T + 1000) 8 3 w) := by
 have hA1 : Below w.heap.size w (w.alloc (.cells #[.int .i64 0, .int .i64 0, .slice none 0 0, .slice none 0 0] 27)) := bA
 have hr0 : BxC (w.alloc (.cells #[.int .i64 0, .int .i64 0, .slice none 0 0, .slice none 0 0] 27)) w.heap.size 0 0 none 0 0 none 0 0 := BxC.new w _
 have hb := h.lt
 have hc0 := h.alt (Alt.of_new (S := fun _ => False) hA1) (fun h => h) (fun _ _ h => h)
 have hs0 : (w.alloc (.cells #[.int .i64 0, .int .i64 0, .slice none 0 0, .slice none 0 0] 27)).heap.size = w.heap.size + 1 := by simp
 go_enter Tryz.func58, Tryz.ntmps58
 go_wp2_with fail
 refine (Zaj 4 b R _ _ hc0 (by omega) (by omega)).mono ?_
 rintro e a1 ⟨x, hx, hx2, rfl, c1, y1, s1⟩
 go_wp2_with fail
 refine (Zaj 4 b R _ _ c1 (by omega) (by omega)).mono ?_
 rintro e a2 ⟨y, hy, hy2, rfl, c2, y2, s2⟩
 have hs2 : a2.heap.size = w.heap.size + 1 := by omega
 go_wp2_with fail
 refine (ciNew_any x y _).mono ?_
 rintro e a3 ⟨rfl, rfl⟩
 have c3 := c2.alt (Alt.of_new (S := fun _ => False) ((Below.refl _ _).alloc lR (.cells #[.int .i64 x, .int .i64 y, .slice none 0 0, .slice none 0 0] 95))) (fun h => h) (fun _ _ h => h)
 have hp0 := PX.newV a2 (w.heap.size + 2) x y 95
 have ka := (((Alt.refl_ (fun i => i = b) (w.alloc (.cells #[.int .i64 0, .int .i64 0, .slice none 0 0, .slice none 0 0] 27))).trans_ y1 (fun _ _ h => h)).trans_ y2 (fun _ _ h => h)).alloc_ (.cells #[.int .i64 x, .int .i64 y, .slice none 0 0, .slice none 0 0] 95)
 have hs3 : (a2.alloc (.cells #[.int .i64 x, .int .i64 y, .slice none 0 0, .slice none 0 0] 95)).heap.size = w.heap.size + 2 := by simp; omega
 rw [hs2] at hp0 ⊢
 generalize a2.alloc (.cells #[.int .i64 x, .int .i64 y, .slice none 0 0, .slice none 0 0] 95) = a4 at *
 clear y1 y2 s1 s2 hs2 c1 c2
 go_wp2_with fail
 refine (Zaj 9 b R _ _ c3 (by omega) (by omega)).mono ?_
 rintro e a5 ⟨k, hk0, hk9, rfl, c5, y5, s5⟩
 have hp5 := hp0.alt y5 (by omega) (fun g hg => by omega)
 have kb := ka.trans_ y5 (fun _ _ h => h)
 clear hp0 y5 ka c3
 go_wp2
 go_loopw [4] (fun i wr => ∃ (j : Nat) (C : Ci) (A : Option Addr) (ca U : Nat), j ≤ 8 ∧ i = .int .i64 j ∧ PX wr (w.heap.size + 2) (w.heap.size + 1) C A ca none 0 ∧ C.os = [] ∧ (0 ≤ C.i0 ∧ C.i0 ≤ 3) ∧ (0 ≤ C.i1 ∧ C.i1 ≤ 3) ∧ C.gs.length + j ≤ 8 ∧ Cur wr b R U ∧ U + 20 * j ≤ T + 300 ∧ Alt (fun i => i = b) (w.alloc (.cells #[.int .i64 0, .int .i64 0, .slice none 0 0, .slice none 0 0] 27)) wr) (fun i _ => (intOf i).toNat)
 case atStart => exact ⟨k, ⟨x, y, [], []⟩, none, 0, _, by omega, rfl, hp5, rfl, by simp; omega, by simp; omega, by simp; omega, c5, by omega, kb⟩
 case round =>
  obtain ⟨j, C, A, ca, U, hj, rfl, hp, hos, hx, hy, hn, hu, hU, hk⟩ := hrel
  clear hp5 c5 kb
  by_cases hj0 : j = 0
  ·subst hj0
   obtain ⟨N, hN⟩ : ∃ N : Nat, Hid (C.i0 + C.i1 + (C.gs.length : Int) = (N : Int)) := ⟨(C.i0 + C.i1 + (C.gs.length : Int)).toNat, zH (by omega)⟩
   have hNb : N ≤ 20 := by have := hN.out; omega
   have hq := hp.bx; obtain ⟨m0, m1, m2, m3⟩ := hq
   rw [hos] at m3
   have hz0 := hk.size
   have hz1 := hp.lt
   have hfz : ∀ q, (w.alloc (.cells #[.int .i64 0, .int .i64 0, .slice none 0 0, .slice none 0 0] 27)).frozen? ⟨w.heap.size, q, none⟩ = false := Fz.new w _ _
   go_wp2_with fail
   refine (Zba C.i0 C.i1 A C.gs.length ca none 0 0 _ (by omega) (by omega) (by omega)).mono ?_
   rintro e w1 ⟨rfl, hb1⟩
   rw [hN.out]
   have hz2 := hb1.size
   have hp1 := hp.below hb1 lR
   have hkk := hk.new_ hb1
   have u1 := hu.alt (Alt.of_new (S := fun _ => False) hb1) (fun h => h) (fun _ _ h => h)
   clear hp hk hu hb1 m0 m1 m2 m3
   have hq := hp1.bx; obtain ⟨m0, m1, m2, m3⟩ := hq
   rw [hos] at m3
   have hr9 := hr0.alt hkk (by omega)
   have hF : Fz w1 w.heap.size := Fz.alt hfz hkk (by omega) (by omega)
   have e0 := hF 0; have e1 := hF 1; have e2 := hF 2; have e3 := hF 3
   by_cases hN0 : N = 0
   ·subst hN0
    have hq := hr9; obtain ⟨r0, r1, r2, r3⟩ := hq
    have hp9 : PX w1 (w.heap.size + 2) (w.heap.size + 1) { C with os := [] } A ca none 0 := by rw [← hos]; exact hp1
    go_wp2
    have hq9 := BxC.set4 (hr9) C.i0 C.i1 A C.gs.length ca none 0 0
    obtain ⟨q0, q1, q2, q3⟩ := hq9
    refine bodyPost_ret (v := .agg #[.int .i64 C.i0, .int .i64 C.i1, .slice A C.gs.length ca, .slice none 0 0]) (by simp [results, Tryz.results58, go_sem, q0, q1, q2, q3]) rfl ?_
    exact RetDw.of_ hp9 (by omega) hkk hA1 hs0 u1 (by omega) hR hb hx hy (by simp; omega) (by simp)
   ·have hN1 : ((N : Int) == 0) = false := by simp; omega
    clear hr9 hF e0 e1 e2 e3 m0 m1 m2 m3
    go_wp2_with fail
    refine (Zaj 3 b R _ _ u1 (by omega) (by omega)).mono ?_
    rintro e p2 ⟨v2, hv2, hw2, rfl, u2, k2, z2⟩
    have hp2 := hp1.alt k2 (by omega) (fun g hg => by omega)
    have q2 := hkk.trans_ k2 (fun _ _ h => h)
    clear hp1 hkk k2 u1
    go_wp2
    go_loopw [8] (fun i wr => ∃ (j : Nat) (os : List Int) (O : Option Addr) (co U : Nat), j ≤ 3 ∧ i = .int .i64 j ∧ PX wr (w.heap.size + 2) (w.heap.size + 1) { C with os := os } A ca O co ∧ os.length + j ≤ 3 ∧ Cur wr b R U ∧ U + 20 * j ≤ T + 500 ∧ Alt (fun i => i = b) (w.alloc (.cells #[.int .i64 0, .int .i64 0, .slice none 0 0, .slice none 0 0] 27)) wr) (fun i _ => (intOf i).toNat)
    case atStart => exact ⟨1 + v2, [], none, 0, _, by omega, by go_num, by rw [← hos]; exact hp2, by simp; omega, u2, by omega, q2⟩
    case round =>
     obtain ⟨j, os, O, co, U, hj, rfl, hp, hol, hu, hU, hk⟩ := hrel
     clear hp2 u2 q2
     by_cases hj0 : j = 0
     ·subst hj0
      have hr9 := hr0.alt hk (by omega)
      have hF : Fz wr w.heap.size := Fz.alt hfz hk (by omega) (by omega)
      have e0 := hF 0; have e1 := hF 1; have e2 := hF 2; have e3 := hF 3
      have hq := hr9; obtain ⟨r0, r1, r2, r3⟩ := hq
      have hq := hp.bx; obtain ⟨m0, m1, m2, m3⟩ := hq
      dsimp only at m0 m1 m2 m3
      go_wp2
      have hq9 := BxC.set4 (hr9) C.i0 C.i1 A C.gs.length ca O os.length co
      obtain ⟨q0, q1, q2, q3⟩ := hq9
      refine bodyPost_ret (v := .agg #[.int .i64 C.i0, .int .i64 C.i1, .slice A C.gs.length ca, .slice O os.length co]) (by simp [results, Tryz.results58, go_sem, q0, q1, q2, q3]) rfl ?_
      exact RetDw.of_ hp (by omega) hk hA1 hs0 hu (by omega) hR hb hx hy (by simp; omega) (by simp; omega)
     ·obtain ⟨j, rfl⟩ : ∃ m, j = m + 1 := ⟨j - 1, by omega⟩
      have hz3 := hk.size
      have hz4 := hp.lt
      have hq := hp.bx; obtain ⟨m0, m1, m2, m3⟩ := hq
      dsimp only at m0 m1 m2 m3
      have hlo5 : w.heap.size + 2 ≤ wr.heap.size := by omega
      have hO : ∀ g, (Value.slice O os.length co).ownBlock = some g → w.heap.size + 2 ≤ g ∧ g < wr.heap.size ∧ g ≠ w.heap.size + 1 := fun g hg => ⟨(hp.ox.1.2.1.lt g hg).1, (hp.ox.1.2.1.lt g hg).2.2, fun h => hp.ox.2.2 (h ▸ hg)⟩
      go_wp2_with fail
      go_wp2_with fail
      refine Zau (15) ((fun i => (i = b ∨ R i) ∨ (Value.slice O os.length co).ownBlock = some i)) [(⟨w.heap.size + 1, 3, none⟩, .slice O os.length co), (⟨w.heap.size + 1, 3, none⟩, .slice O os.length co)] [(10, [], []), (11, [101], [101]), (13, [], []), (14, [100, 13], [100])] [100, 101] [11, 14] [(100, Res.rowE (w.heap.size + 2) os.length), (101, Res.cur wr b R U 1), (10, Res.plain (.int .i64 (min N 4))), (11, Res.cur wr b R (U + 2) (min N 4)), (13, Res.rowE (w.heap.size + 2) 1), (14, Res.rowE (w.heap.size + 2) (os.length + 1))] ((upd (upd (fun _ => undef) 100 (.slice O os.length co)) 101 (.int .i64 (0 : Nat)))) (by kernel_rfl) (by kernel_rfl) (by kernel_rfl) (by simp only [cD, cC, and_true]; repeat (any_goals (apply And.intro)); all_goals (first | assumption | go_simp)) (fun q9 hq9 => by simp only [List.mem_cons, List.not_mem_nil, or_false, or_self] at hq9; subst hq9; rintro ((h | h) | h) <;> first | (have h' : w.heap.size + 1 = b := h; omega) | (have h' : w.heap.size + 1 < w.heap.size := hR _ h; omega) | exact (hO _ h).2.2 rfl) (⟨⟨⟨os, hp.ox.1.2.1⟩, fun i hi => ⟨.inr (.inr hi), (hO i hi).2.1⟩⟩, ⟨⟨hu.alt ((Alt.refl_ (fun _ => False) wr).drewN_ 1) (fun h => h) (fun _ _ h => h), fun i hi => ⟨by have := hR i hi; show i < wr.heap.size; omega, rfl⟩⟩, fun i hi => ⟨.inr (.inl hi), hi.elim (fun h => h ▸ hu.lt) (fun h => by have := hR i h; show i < wr.heap.size; omega)⟩⟩, trivial⟩) ((fun d hd d' hd' hn c hc hc' => by simp only [List.mem_cons, List.not_mem_nil, or_false] at hd hd'; rcases hd with rfl | rfl <;> rcases hd' with rfl | rfl <;> first | exact hn rfl | (have h1 := hO c hc; rcases hc' with h2 | h2; (have h3 : c = b := h2; omega); (have h3 := hR c h2; omega)) | (have h1 := hO c hc'; rcases hc with h2 | h2; (have h3 : c = b := h2; omega); (have h3 := hR c h2; omega)))) ?_
      simp only [List.take_succ_cons, List.take_zero, List.drop_succ_cons, List.drop_zero, List.take_nil, List.drop_nil, List.take, List.drop]
      repeat (first
       | ((first
        | ((with_reducible refine Zad ?_ ?_ ?_)
           ·exact rfl
           ·exact rfl)
        | ((with_reducible refine Zag ?_ ?_ ?_)
           ·exact rfl
           ·exact Zaa rfl rfl rfl rfl))
          intro K hK
          apply Exists.intro
          refine ⟨fun w3 hw3 => ?_, ?_⟩
          ·have hcs := hw3
           simp only [cD, cC, and_true] at hcs
           clear hw3
           go_simp
           first | done | exact ⟨rfl, rfl⟩ | rfl
          refine hK _ ?_
          clear hK K
          try simp only [pA, pB, sA, sB, sC])
       | ((with_reducible refine Zaf ?_ ?_ ?_)
          ·exact rfl
          ·exact Zab rfl rfl rfl rfl
          simp only [pA, pB, sA, sB, sC]))
      focus
       (with_reducible refine Zbc (.int .i64 (min (N : Int) 4)) ?_ ?_ ?_ ?_ (hw := ?_))
       ·exact rfl
       ·exact rfl
       ·intro w3 hw3 hc3 hp3
        have hcs := hc3
        simp only [cD, cC, and_true] at hcs
        (go_simp; refine (least_any N 4 _).mono ?_; rintro e w4 ⟨rfl, rfl⟩; exact retPost.mk_ (postPlain.mk_ (Below.refl _ _)))
       rotate_left
       ·first | exact Zac rfl | exact Zaa rfl rfl rfl rfl
       try simp only [pA, pB, sA, sB, sC]
      refine mem_pick 101 b R U (U + 2) 1 (min (N : Int) 4) wr (.int .i64 (0 : Nat)) hRb (by rfl) (by rfl) (by rfl) (by rfl) (by decide) (by rfl) (fun w3 hw3 hc3 hu3 => ?_) (fun x9 hx9 => ?_)
      ·go_simp
       refine (Zaj _ b R U _ hu3 (by omega) (by omega)).mono ?_
       rintro e w4 ⟨v, hv, hw, rfl, c4, k4, z4⟩
       exact retPost.mk_ ⟨v, hv, rfl, c4, k4⟩
      try simp only [pA, pB, sA, sB, sC]
      have hx10 : x9 ≤ 4 := by omega
      repeat (first
       | ((first
        | ((with_reducible refine Zad ?_ ?_ ?_)
           ·exact rfl
           ·exact rfl)
        | ((with_reducible refine Zag ?_ ?_ ?_)
           ·exact rfl
           ·exact Zaa rfl rfl rfl rfl))
          intro K hK
          apply Exists.intro
          refine ⟨fun w3 hw3 => ?_, ?_⟩
          ·have hcs := hw3
           simp only [cD, cC, and_true] at hcs
           clear hw3
           go_simp
           first | done | exact ⟨rfl, rfl⟩ | rfl
          refine hK _ ?_
          clear hK K
          try simp only [pA, pB, sA, sB, sC])
       | ((with_reducible refine Zaf ?_ ?_ ?_)
          ·exact rfl
          ·exact Zab rfl rfl rfl rfl
          simp only [pA, pB, sA, sB, sC]))
      refine mem_rowE (w.heap.size + 2) 1 (by rfl) (by rfl) hlo5 (fun w3 hw3 hc3 hp3 => ?_) (fun A3 c3' => ?_)
      ·go_simp
       exact ⟨_, postRow.new1 _ _⟩
      try simp only [pA, pB, sA, sB, sC]
      refine mem_appE 100 13 (w.heap.size + 2) os.length 1 O co A3 c3' (.tmp 86) (.tmp 94) (by rfl) (by rfl) hlo5 (by rfl) (by rfl) (by decide) (by rfl) (by rfl) (by decide) (by rfl) (by rfl) (by rfl) (by rfl) (by omega) (fun G' cG' => ?_)
      try simp only [pA, pB, sA, sB, sC]
      repeat (first
       | ((first
        | ((with_reducible refine Zad ?_ ?_ ?_)
           ·exact rfl
           ·exact rfl)
        | ((with_reducible refine Zag ?_ ?_ ?_)
           ·exact rfl
           ·exact Zaa rfl rfl rfl rfl))
          intro K hK
          apply Exists.intro
          refine ⟨fun w3 hw3 => ?_, ?_⟩
          ·have hcs := hw3
           simp only [cD, cC, and_true] at hcs
           clear hw3
           go_simp
           first | done | exact ⟨rfl, rfl⟩ | rfl
          refine hK _ ?_
          clear hK K
          try simp only [pA, pB, sA, sB, sC])
       | ((with_reducible refine Zaf ?_ ?_ ?_)
          ·exact rfl
          ·exact Zab rfl rfl rfl rfl
          simp only [pA, pB, sA, sB, sC]))
      refine Zat ?_
      intro wy hwy hcy hfin hap
      obtain ⟨xs, hO4⟩ : ∃ xs, Own wy (w.heap.size + 2) wy.heap.size (.slice G' (os.length + 1) cG') (os.length + 1) xs := hfin.2.1.1
      have hC4 : Cur wy b R (U + 2) ∧ ∀ i, R i → i < wy.heap.size ∧ wy.heap[i]? = wr.heap[i]? := hfin.1.1
      have hok : ∀ g, (Value.slice G' (os.length + 1) cG').ownBlock = some g → okB wr (fun i => (i = b ∨ R i) ∨ (Value.slice O os.length co).ownBlock = some i) g := fun g hg => (hfin.2.1.2 g hg).1
      have k4 := alt_back hk hwy (fun i hi => by have := hO i hi; omega) (fun i hi => (hC4.2 i hi).2)
      have hxl : xs.length = os.length + 1 := hO4.len
      have hSbm : ¬ okB wr (fun i => (i = b ∨ R i) ∨ (Value.slice O os.length co).ownBlock = some i) (w.heap.size + 1) := fun hc => by
       rcases hc with h1 | (h1 | h1) | h1
       ·omega
       ·omega
       ·have := hR _ h1; omega
       ·exact (hO _ h1).2.2 rfl
      have p4 := hp.outE hwy hSbm (fun g hg hc => by
       have h9 := hp.ox.1.1.lt g hg
       rcases hc with h1 | (h1 | h1) | h1
       ·omega
       ·omega
       ·have := hR _ h1; omega
       ·exact hp.ox.1.2.2 g hg h1) hO4 hok
      have k5 := k4.set_ ⟨w.heap.size + 1, 3, none⟩ (.slice G' (os.length + 1) cG') (fun h => absurd h (by show ¬ w.heap.size + 1 < _; omega))
      have c5 := hC4.1.alt ((Alt.refl_ (fun i => i = w.heap.size + 1) wy).set_ ⟨w.heap.size + 1, 3, none⟩ (.slice G' (os.length + 1) cG') (fun _ => rfl)) (by omega) (fun i hi h => by have := hR i hi; omega)
      have hq := hp.bx.alt hwy hSbm; obtain ⟨m0, m1, m2, m3⟩ := hq
      have f3 := (hp.fz.alt hwy hp.lt hSbm) 3
      dsimp only at m0 m1 m2 m3
      clear hfin hap hcy hwy hok
      go_wp2
      go_roundw
      case rel => exact ⟨j, xs, G', cG', _, by omega, by go_num, by rw [← hxl] at p4 ⊢; exact p4, by omega, c5, by omega, k5⟩
      case measure => simp [intOf] <;> omega
  ·obtain ⟨j, rfl⟩ : ∃ m, j = m + 1 := ⟨j - 1, by omega⟩
   obtain ⟨N, hN⟩ : ∃ N : Nat, Hid (C.i0 + C.i1 + (C.gs.length : Int) = (N : Int)) := ⟨(C.i0 + C.i1 + (C.gs.length : Int)).toNat, zH (by omega)⟩
   have hNb : N ≤ 20 := by have := hN.out; omega
   have hq := hp.bx; obtain ⟨m0, m1, m2, m3⟩ := hq
   rw [hos] at m3
   have hz0 := hk.size
   have hz1 := hp.lt
   have hbm : ¬ w.heap.size + 1 = b := by omega
   have hbg : ∀ g, w.heap.size + 2 ≤ g → ¬ g = b := fun g hg => by omega
   have hgA : ∀ g, (Value.slice A C.gs.length ca).ownBlock = some g → w.heap.size + 2 ≤ g := fun g hg => (hp.ox.1.1.lt g hg).1
   have hSb : ¬ (b = w.heap.size + 1 ∨ (Value.slice A C.gs.length ca).ownBlock = some b) := fun h => h.elim (fun h => by omega) (fun h => by have := hgA b h; omega)
   have hSR : ∀ i, R i → ¬ (i = w.heap.size + 1 ∨ (Value.slice A C.gs.length ca).ownBlock = some i) := fun i hi h => by have := hR i hi; exact h.elim (fun h => by omega) (fun h => by have := hgA i h; omega)
   go_wp2_with fail
   refine (Zba C.i0 C.i1 A C.gs.length ca none 0 0 _ (by omega) (by omega) (by omega)).mono ?_
   rintro e w1 ⟨rfl, hb1⟩
   rw [hN.out]
   have hp1 := hp.below hb1 lR
   have q1 := hk.new_ hb1
   have u1 := hu.alt (Alt.of_new (S := fun _ => False) hb1) (fun h => h) (fun _ _ h => h)
   have hz2 := hb1.size
   clear hp hk hu hb1 m0 m1 m2 m3
   go_wp2_with fail
   refine (Zaj 4 b R _ _ u1 (by omega) (by omega)).mono ?_
   rintro e p2 ⟨v2, hv2, hw2, rfl, u2, k2, z2⟩
   have hp2 := (hp1).alt k2 hbm hbg
   have q2 := (q1).trans_ k2 (fun _ _ h => h)
   have l2 := k2.size
   by_cases hN0 : N = 0
   ·subst hN0
    go_wp2_with fail
    refine (oneX_any (w.heap.size + 2) (w.heap.size + 1) C A ca none 0 _ hp2 (by omega) (by omega) (by omega) (by omega)).mono ?_
    rintro e wz ⟨A7, c7, rfl, hp7, k7, o7⟩
    have u7 := u2.alt k7 hSb hSR
    have q7 := q2.trans_ (S := fun i => i = b) k7 (fun i hi hT => hT.elim (fun h => by omega) (fun h => by have := hgA i h; omega))
    clear k7 o7
    go_wp2
    go_roundw
    case rel => exact ⟨j, _, A7, c7, _, by omega, by go_num, hp7, hos, hx, hy, by simp; omega, u7, by omega, q7⟩
    case measure => simp [intOf] <;> omega
   ·by_cases hv3 : v2 = 3
    ·subst hv3
     go_wp2_with fail
     refine (one_any 2 b R _ _ u2 (by omega) (by omega)).mono ?_
     rintro e p3 ⟨t3, rfl, u3, k3, z3⟩
     have hp3 := (hp2).alt k3 hbm hbg
     have q3 := (q2).trans_ k3 (fun _ _ h => h)
     have l3 := k3.size
     cases t3 with
     | true =>
      go_wp2_with fail
      refine (oneX_any (w.heap.size + 2) (w.heap.size + 1) C A ca none 0 _ hp3 (by omega) (by omega) (by omega) (by omega)).mono ?_
      rintro e wz ⟨A7, c7, rfl, hp7, k7, o7⟩
      have u7 := u3.alt k7 hSb hSR
      have q7 := q3.trans_ (S := fun i => i = b) k7 (fun i hi hT => hT.elim (fun h => by omega) (fun h => by have := hgA i h; omega))
      clear k7 o7
      go_wp2
      go_roundw
      case rel => exact ⟨j, _, A7, c7, _, by omega, by go_num, hp7, hos, hx, hy, by simp; omega, u7, by omega, q7⟩
      case measure => simp [intOf] <;> omega
     | false =>
      go_wp2_with fail
      refine (Zaj N b R _ _ u3 (by omega) (by omega)).mono ?_
      rintro e p4 ⟨v4, hv4, hw4, rfl, u4, k4, z4⟩
      have hp4 := (hp3).alt k4 hbm hbg
      have q4 := (q3).trans_ k4 (fun _ _ h => h)
      have l4 := k4.size
      go_wp2_with fail
      refine (Zaj N b R _ _ u4 (by omega) (by omega)).mono ?_
      rintro e p5 ⟨v5, hv5, hw5, rfl, u5, k5, z5⟩
      have hp5 := (hp4).alt k5 hbm hbg
      have q5 := (q4).trans_ k5 (fun _ _ h => h)
      have l5 := k5.size
      go_wp2_with fail
      refine (andX_any (w.heap.size + 2) (w.heap.size + 1) C A ca none 0 _ _ _ hp5 (by omega) (by omega) (by omega) (by omega)).mono ?_
      rintro e wz ⟨A7, c7, rfl, hp7, k7, o7⟩
      have u7 := u5.alt k7 hSb hSR
      have q7 := q5.trans_ (S := fun i => i = b) k7 (fun i hi hT => hT.elim (fun h => by omega) (fun h => by have := hgA i h; omega))
      clear k7 o7
      go_wp2
      go_roundw
      case rel => exact ⟨j, _, A7, c7, _, by omega, by go_num, hp7, hos, hx, hy, by simp; omega, u7, by omega, q7⟩
      case measure => simp [intOf] <;> omega
    ·by_cases hv4 : v2 = 2
     ·subst hv4
      go_wp2_with fail
      refine (Zaj N b R _ _ u2 (by omega) (by omega)).mono ?_
      rintro e p3 ⟨v3, hv3, hw3, rfl, u3, k3, z3⟩
      have hp3 := (hp2).alt k3 hbm hbg
      have q3 := (q2).trans_ k3 (fun _ _ h => h)
      have l3 := k3.size
      go_wp2_with fail
      refine (notX_any (w.heap.size + 2) (w.heap.size + 1) C A ca none 0 _ _ hp3 (by omega) (by omega) (by omega) (by omega)).mono ?_
      rintro e wz ⟨A7, c7, rfl, hp7, k7, o7⟩
      have u7 := u3.alt k7 hSb hSR
      have q7 := q3.trans_ (S := fun i => i = b) k7 (fun i hi hT => hT.elim (fun h => by omega) (fun h => by have := hgA i h; omega))
      clear k7 o7
      go_wp2
      go_roundw
      case rel => exact ⟨j, _, A7, c7, _, by omega, by go_num, hp7, hos, hx, hy, by simp; omega, u7, by omega, q7⟩
      case measure => simp [intOf] <;> omega
     ·by_cases hv5 : v2 = 0
      ·subst hv5
       go_wp2_with fail
       refine (Zaj N b R _ _ u2 (by omega) (by omega)).mono ?_
       rintro e p3 ⟨v3, hv3, hw3, rfl, u3, k3, z3⟩
       have hp3 := (hp2).alt k3 hbm hbg
       have q3 := (q2).trans_ k3 (fun _ _ h => h)
       have l3 := k3.size
       go_wp2_with fail
       refine (Zaj N b R _ _ u3 (by omega) (by omega)).mono ?_
       rintro e p4 ⟨v4, hv4, hw4, rfl, u4, k4, z4⟩
       have hp4 := (hp3).alt k4 hbm hbg
       have q4 := (q3).trans_ k4 (fun _ _ h => h)
       have l4 := k4.size
       go_wp2_with fail
       refine (xorX_any (w.heap.size + 2) (w.heap.size + 1) C A ca none 0 _ _ _ hp4 (by omega) (by omega) (by omega) (by omega)).mono ?_
       rintro e wz ⟨A7, c7, rfl, hp7, k7, o7⟩
       have u7 := u4.alt k7 hSb hSR
       have q7 := q4.trans_ (S := fun i => i = b) k7 (fun i hi hT => hT.elim (fun h => by omega) (fun h => by have := hgA i h; omega))
       clear k7 o7
       go_wp2
       go_roundw
       case rel => exact ⟨j, _, A7, c7, _, by omega, by go_num, hp7, hos, hx, hy, by simp; omega, u7, by omega, q7⟩
       case measure => simp [intOf] <;> omega
      ·have g3 : ((v2 : Int) == 3) = false := by simp; omega
       have g2 : ((v2 : Int) == 2) = false := by simp; omega
       have g0 : ((v2 : Int) == 0) = false := by simp; omega
       go_wp2_with fail
       refine (Zaj N b R _ _ u2 (by omega) (by omega)).mono ?_
       rintro e p3 ⟨v3, hv3, hw3, rfl, u3, k3, z3⟩
       have hp3 := (hp2).alt k3 hbm hbg
       have q3 := (q2).trans_ k3 (fun _ _ h => h)
       have l3 := k3.size
       go_wp2_with fail
       refine (Zaj N b R _ _ u3 (by omega) (by omega)).mono ?_
       rintro e p4 ⟨v4, hv4, hw4, rfl, u4, k4, z4⟩
       have hp4 := (hp3).alt k4 hbm hbg
       have q4 := (q3).trans_ k4 (fun _ _ h => h)
       have l4 := k4.size
       go_wp2_with fail
       refine (andX_any (w.heap.size + 2) (w.heap.size + 1) C A ca none 0 _ _ _ hp4 (by omega) (by omega) (by omega) (by omega)).mono ?_
       rintro e wz ⟨A7, c7, rfl, hp7, k7, o7⟩
       have u7 := u4.alt k7 hSb hSR
       have q7 := q4.trans_ (S := fun i => i = b) k7 (fun i hi hT => hT.elim (fun h => by omega) (fun h => by have := hgA i h; omega))
       clear k7 o7
       go_wp2
       go_roundw
       case rel => exact ⟨j, _, A7, c7, _, by omega, by go_num, hp7, hos, hx, hy, by simp; omega, u7, by omega, q7⟩
       case measure => simp [intOf] <;> omega
end Go.Proofs.YtnhmfedegfcflaaGreatDoor
