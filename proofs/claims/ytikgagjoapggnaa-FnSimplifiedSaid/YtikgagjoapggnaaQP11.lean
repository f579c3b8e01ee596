/- The reader of choices in a drawn region: each choice takes the reader over from the one before. No condition. -/
import Derived.Test.YtikgagjoapggnaaQP07
import Derived.Test.YtikgagjoapggnaaQP10
namespace Go.Proofs.Ytikgagjoapggnaa
open Go.RowKit
set_option linter.unusedVariables false
set_option linter.unusedSimpArgs false
def Res.cur (W : World) (b : Nat) (R : Nat → Prop) (T : Nat) (n : Int) : Res :=
  ⟨fun _ v => ∃ x : Nat, ((x : Int) < n ∨ x = 0) ∧ v = .int .i64 x, fun _ _ w => Cur w b R T ∧ ∀ i, R i → i < w.heap.size ∧ w.heap[i]? = W.heap[i]?, fun _ _ c => c = b ∨ R c, fun _ => ⟨.int .i64 (0 : Nat), 0, .inr rfl, rfl⟩,
    fun _ v w w' S h k hb => ⟨h.1.alt k (hb b (.inl rfl)).1 (fun i hi => (hb i (.inr hi)).1), fun i hi => ⟨Nat.lt_of_lt_of_le (h.2 i hi).1 k.size, (k.block i (h.2 i hi).1 (hb i (.inr hi)).1).trans (h.2 i hi).2⟩⟩⟩
def Res.curQ (W : World) (b : Nat) (R : Nat → Prop) (T : Nat) (Q : Value → Prop) (hQ : ∃ v, Q v) : Res :=
  ⟨fun _ v => Q v, fun _ _ w => Cur w b R T ∧ ∀ i, R i → i < w.heap.size ∧ w.heap[i]? = W.heap[i]?, fun _ _ c => c = b ∨ R c, fun _ => hQ,
    fun _ v w w' S h k hb => ⟨h.1.alt k (hb b (.inl rfl)).1 (fun i hi => (hb i (.inr hi)).1), fun i hi => ⟨Nat.lt_of_lt_of_le (h.2 i hi).1 k.size, (k.block i (h.2 i hi).1 (hb i (.inr hi)).1).trans (h.2 i hi).2⟩⟩⟩
def Res.rowE (lo n : Nat) : Res :=
  ⟨fun _ v => ∃ A c, v = .slice A n c, fun _ v w => ∃ xs, Own w lo w.heap.size v n xs, fun _ v b => v.ownBlock = some b, fun _ => ⟨.slice none n 0, none, 0, rfl⟩, fun _ v w w' S ⟨xs, h⟩ k hb => ⟨xs, (h.alt k fun g hg => (hb g hg).1).now⟩⟩
def postPick (w : World) (b : Nat) (R : Nat → Prop) (T : Nat) (n : Int) (v : Value) (w' : World) : Prop := ∃ x : Nat, ((x : Int) < n ∨ x = 0) ∧ v = .int .i64 x ∧ Cur w' b R T ∧ Alt (fun i => i = b) w w'
section
variable {P : Program} {W : World} {own : Nat → Prop} {cs : List (Addr × Value)} {sk : List (Nat × List Nat × List Nat)} {ini fi : List Nat} {rs : List (Nat × Res)} {ops : Array Oper} {L : Act → (Nat → Value) → Prop} {k : Nat} {o : Oper} {rest : List Oper} {a : Act} {ρ : Nat → Value}
theorem mem_pick (d b : Nat) (R : Nat → Prop) (T T' : Nat) (n n' : Int) (W0 : World) (v0 : Value) (hR : ¬ R b) (hr : resAt rs k = Res.cur W0 b R T' n') (he : effB sk k = true) (hrd : resAt rs d = Res.cur W0 b R T n) (hd : consL sk k = [d]) (hdd : d ∈ depsL sk k) (hρ : ρ d = v0)
    (hx : ∀ w, Alt (okB W own) W w → CellsL w cs → Cur w b R T → sepAt P o a (postPick w b R T' n') w)
    (h : ∀ x : Nat, ((x : Int) < n' ∨ x = 0) → wpSep (mkSep W own cs sk ini fi rs) P ops L (k + 1) rest (a.put o.dst (.int .i64 x)) (upd ρ k (.int .i64 x))) (hw : Region.wanted o (yielded ops a.tmps) = true := by first | exact wanted_none rfl | exact wanted_some rfl rfl rfl rfl) : wpSep (mkSep W own cs sk ini fi rs) P ops L k (o :: rest) a ρ :=
  mem_eff (hw := hw) _ hr he (fun w hw hc hp => by
    have h1 : Cur w b R T ∧ ∀ i, R i → i < w.heap.size ∧ w.heap[i]? = W0.heap[i]? := (has_dep hdd hp hρ hrd).1
    have hh : (mkSep W own cs sk ini fi rs).hit k ρ = fun c => c = b ∨ R c := hit_one hd hρ hrd
    rw [hh]
    refine sepAt_mono (hx w hw hc h1.1) fun v w' ⟨x, hx1, he1, hc1, ha1⟩ => ⟨⟨x, hx1, he1⟩, ⟨hc1, fun i hi => ?_⟩, ha1.mono_ (fun i _ hi => .inl hi), fun c hc => ⟨?_, .inr hc⟩⟩
    · exact ⟨Nat.lt_of_lt_of_le (h1.2 i hi).1 ha1.size, (ha1.block i (h1.2 i hi).1 (fun e => hR (e ▸ hi))).trans (h1.2 i hi).2⟩
    · rcases hc with hc | hc
      · subst hc; exact hc1.lt
      · exact Nat.lt_of_lt_of_le (h1.2 c hc).1 ha1.size) fun v hv => by
    obtain ⟨x, hx, rfl⟩ := hv
    exact h x hx
theorem mem_rowE (lo n : Nat) (hr : resAt rs k = Res.rowE lo n) (he : effB sk k = true) (hlo : lo ≤ W.heap.size) (hx : ∀ w, Alt (okB W own) W w → CellsL w cs → (mkSep W own cs sk ini fi rs).pre k ρ w → sepAt P o a (fun v w' => ∃ xs, postRow w n xs v w') w)
    (h : ∀ A c, wpSep (mkSep W own cs sk ini fi rs) P ops L (k + 1) rest (a.put o.dst (.slice A n c)) (upd ρ k (.slice A n c))) (hw : Region.wanted o (yielded ops a.tmps) = true := by first | exact wanted_none rfl | exact wanted_some rfl rfl rfl rfl) : wpSep (mkSep W own cs sk ini fi rs) P ops L k (o :: rest) a ρ :=
  mem_eff (hw := hw) _ hr he (fun w hw hc hp => sepAt_mono (hx w hw hc hp) fun v w' ⟨xs, A, c, h1, h2, h3⟩ => by
    subst h1
    exact ⟨⟨A, c, rfl⟩, ⟨xs, h2.lo_ (Nat.le_trans hlo hw.size)⟩, Alt.of_new h3, fun b hb => ⟨(h2.lt b hb).2.2, .inl (h2.lt b hb).1⟩⟩) fun v hv => by
    obtain ⟨A, c, rfl⟩ := hv
    exact h A c
theorem mem_appE {ops : Array Oper} {L : Act → (Nat → Value) → Prop} (d d2 lo n m : Nat) (A0 : Option Addr) (c0 : Nat) (A : Option Addr) (c : Nat) (s x : Operand) (hr : resAt rs k = Res.rowE lo (n + m)) (he : effB sk k = true) (hlo : lo ≤ W.heap.size) (hrd : resAt rs d = Res.rowE lo n) (hd : consL sk k = [d]) (hdd : d ∈ depsL sk k) (hρ : ρ d = .slice A0 n c0)
    (hrd2 : resAt rs d2 = Res.rowE lo m) (hdd2 : d2 ∈ depsL sk k) (hρ2 : ρ d2 = .slice A m c)
    (ho : o.op = .call { callee := .builtin .append, args := #[s, x], argTypes := #[24, 24] }) (hs : a.eval s = .slice A0 n c0) (hx : a.eval x = .slice A m c) (hlen : n + m ≤ 8388608)
    (h : ∀ A' c', wpSep (mkSep W own cs sk ini fi rs) Try.prog ops L (k + 1) rest (a.put o.dst (.slice A' (n + m) c')) (upd ρ k (.slice A' (n + m) c'))) (hw : Region.wanted o (yielded ops a.tmps) = true := by first | exact wanted_none rfl | exact wanted_some rfl rfl rfl rfl) : wpSep (mkSep W own cs sk ini fi rs) Try.prog ops L k (o :: rest) a ρ :=
  mem_eff (hw := hw) _ hr he (fun w hw hc hp => by
    obtain ⟨xs, h1⟩ : ∃ xs, Own w lo w.heap.size (.slice A0 n c0) n xs := (has_dep hdd hp hρ hrd).1
    obtain ⟨ys, h6⟩ : ∃ ys, Own w lo w.heap.size (.slice A m c) m ys := (has_dep hdd2 hp hρ2 hrd2).1
    have hh : (mkSep W own cs sk ini fi rs).hit k ρ = fun b => (Value.slice A0 n c0).ownBlock = some b := hit_one hd hρ hrd
    rw [hh]
    obtain ⟨A', c', w', hrun, h2, h3, h4, h5⟩ := run_appI w o.type lo w.heap.size n c0 m c A0 A xs ys h1 h6.reads hlen (Nat.le_trans hlo hw.size)
    unfold sepAt execOp
    simp only [ho, resolve, invoke, builtin, Sem.run_bind, Sem.run_pure, Result.andThen_ok, List.map_toArray, List.map_cons, List.map_nil, hs, hx, hrun]
    exact ⟨⟨A', c', rfl⟩, ⟨_, h2⟩, Alt.of_grown h3 (fun i hi => hi), fun b hb => ⟨(h2.lt b hb).2.2, by
      rcases h4 with h4 | h4
      · exact .inr (h4 ▸ hb)
      · have hb' : (Value.slice A' (n + m) c').ownBlock = some b := hb
        rw [h4] at hb'; injection hb' with hb'
        exact .inl (by omega)⟩⟩) fun v hv => by
    obtain ⟨A', c', rfl⟩ := hv
    exact h A' c'
theorem mem_cur (d b : Nat) (R : Nat → Prop) (T T' : Nat) (Q Q' : Value → Prop) (hQ : ∃ v, Q v) (hQ' : ∃ v, Q' v) (W0 : World) (v0 : Value) (hR : ¬ R b) (hr : resAt rs k = Res.curQ W0 b R T' Q' hQ') (he : effB sk k = true) (hrd : resAt rs d = Res.curQ W0 b R T Q hQ) (hd : consL sk k = [d]) (hdd : d ∈ depsL sk k) (hρ : ρ d = v0)
    (hx : ∀ w, Alt (okB W own) W w → CellsL w cs → (mkSep W own cs sk ini fi rs).pre k ρ w → Cur w b R T → sepAt P o a (fun v w' => Q' v ∧ Cur w' b R T' ∧ Alt (fun i => i = b) w w') w)
    (h : ∀ v, Q' v → wpSep (mkSep W own cs sk ini fi rs) P ops L (k + 1) rest (a.put o.dst v) (upd ρ k v)) (hw : Region.wanted o (yielded ops a.tmps) = true := by first | exact wanted_none rfl | exact wanted_some rfl rfl rfl rfl) : wpSep (mkSep W own cs sk ini fi rs) P ops L k (o :: rest) a ρ :=
  mem_eff (hw := hw) _ hr he (fun w hw hc hp => by
    have h1 : Cur w b R T ∧ ∀ i, R i → i < w.heap.size ∧ w.heap[i]? = W0.heap[i]? := (has_dep hdd hp hρ hrd).1
    have hh : (mkSep W own cs sk ini fi rs).hit k ρ = fun c => c = b ∨ R c := hit_one hd hρ hrd
    rw [hh]
    refine sepAt_mono (hx w hw hc hp h1.1) fun v w' ⟨hq1, hc1, ha1⟩ => ⟨hq1, ⟨hc1, fun i hi => ?_⟩, ha1.mono_ (fun i _ hi => .inl hi), fun c hc => ⟨?_, .inr hc⟩⟩
    · exact ⟨Nat.lt_of_lt_of_le (h1.2 i hi).1 ha1.size, (ha1.block i (h1.2 i hi).1 (fun e => hR (e ▸ hi))).trans (h1.2 i hi).2⟩
    · rcases hc with hc | hc
      · subst hc; exact hc1.lt
      · exact Nat.lt_of_lt_of_le (h1.2 c hc).1 ha1.size) h
end
end Go.Proofs.Ytikgagjoapggnaa
