/- Drawn circuits with constants, equal gates and dead gates: whatever the bytes are, a circuit comes back and the reader stays one. Drawn circuits handed on: DrawIsCircuit and its like return some circuit of the call's own, DrawBesideCircuit two. Drawn circuits with an out: DrawDependsOn and DrawOnesOf return some circuit of the call's own and some number. Drawn widths and numbers: a small number comes back. -/
import Derived.Test.YtimmjppkaadggaaQP13
import Derived.Test.YtimmjppkaadggaaQP09
import Derived.Test.YtimmjppkaadggaaQP11
namespace Go.Proofs.Ytimmjppkaadggaa
open Go.RowKit
set_option linter.unusedVariables false
set_option linter.unusedSimpArgs false
attribute [local go_sem] sepAt sepUpon pureAt pureUpon
def Res.anyQ (Q : Value → Prop) (hQ : ∃ v, Q v) : Res := ⟨fun _ v => Q v, fun _ _ _ => True, fun _ _ _ => False, fun _ => hQ, fun _ _ _ _ _ _ _ _ => trivial⟩
def Qg (v : Value) : Prop := ∃ k a b : Int, v = .agg #[.int .i64 k, .int .i64 a, .int .i64 b]
theorem Qg.one : ∃ v, Qg v := ⟨_, 0, 0, 0, rfl⟩
section
variable {P : Program} {W : World} {own : Nat → Prop} {cs : List (Addr × Value)} {sk : List (Nat × List Nat × List Nat)} {ini fi : List Nat} {rs : List (Nat × Res)} {ops : Array Oper} {L : Act → (Nat → Value) → Prop} {k : Nat} {o : Oper} {rest : List Oper} {a : Act} {ρ : Nat → Value}
theorem mem_any (Q : Value → Prop) (hQ : ∃ v, Q v) (hr : resAt rs k = Res.anyQ Q hQ) (he : effB sk k = true) (hx : ∀ w, Alt (okB W own) W w → CellsL w cs → (mkSep W own cs sk ini fi rs).pre k ρ w → sepAt P o a (fun v w' => Q v ∧ Below w.heap.size w w') w)
    (h : ∀ v, Q v → wpSep (mkSep W own cs sk ini fi rs) P ops L (k + 1) rest (a.put o.dst v) (upd ρ k v)) (hw : Region.wanted o (yielded ops a.tmps) = true := by first | exact wanted_none rfl | exact wanted_some rfl rfl rfl rfl) : wpSep (mkSep W own cs sk ini fi rs) P ops L k (o :: rest) a ρ :=
  mem_eff (hw := hw) _ hr he (fun w hw hc hp => sepAt_mono (hx w hw hc hp) fun v w' ⟨h1, h2⟩ => ⟨h1, trivial, Alt.of_new h2, fun b hb => hb.elim⟩) h
end
end Go.Proofs.Ytimmjppkaadggaa
namespace Go.Proofs.Ytimmjppkaadggaa
open Go.RowKit
set_option linter.unusedVariables false
set_option linter.unusedSimpArgs false
attribute [local go_sem] sepAt sepUpon pureAt pureUpon
def tblk (Y : Option Addr) (n : Nat) : Nat → Prop := fun q => 0 < n ∧ ∃ o, Y = some ⟨q, o, none⟩
theorem Cur.new {w : World} {Y : Option Addr} {n c : Nat} (hY : RY w Y n) : Cur (w.alloc (.cells #[.slice Y n c, .int .i64 0, .int .u64 0] 41)) w.heap.size (tblk Y n) 0 :=
  ⟨Fz.new w _ _, by simp, Y, n, c, 0, 0, box_cell _ _ 0 _ rfl, box_cell _ _ 1 _ rfl, box_cell _ _ 2 _ rfl, Nat.le_refl _, hY.alt (Alt.of_new (S := fun _ => False) ((Below.refl _ _).alloc (Nat.le_refl _) _)) (fun _ _ _ _ h => h), fun hn q o hq => ⟨⟨hn, o, hq⟩, by
    obtain ⟨b, o', h1, h2, _⟩ := hY.2 hn
    rw [hq] at h1; injection h1 with h1; injection h1 with h3 h4; omega⟩⟩
def RetDc (w : World) (e : Ending) (w' : World) : Prop :=
  ∃ (C : Ci) (A : Option Addr) (ca : Nat) (O : Option Addr) (co : Nat), e = .returned (.agg #[.int .i64 C.i0, .int .i64 C.i1, .slice A C.gs.length ca, .slice O C.os.length co]) ∧ OwnC w' w.heap.size w'.heap.size A C.gs.length ca O C.os.length co C.gs C.os ∧ C.gs.length ≤ 310 ∧ C.os.length ≤ 50 ∧ Below w.heap.size w w'
theorem RetDc.of_ {w a1 : World} {S : Nat → Prop} {x y : Int} {gs : List G3} {os : List Int} {A : Option Addr} {ca : Nat} {O : Option Addr} {co lo : Nat} (k : Alt S w a1) (hS : ∀ i, i < w.heap.size → ¬ S i) (ho : OwnC a1 lo a1.heap.size A gs.length ca O os.length co gs os) (hlo : w.heap.size < lo) (hng : gs.length ≤ 310) (hno : os.length ≤ 50) :
    RetDc w (.returned (.agg #[.int .i64 x, .int .i64 y, .slice A gs.length ca, .slice O os.length co])) ((((a1.setCell ⟨w.heap.size, 0, none⟩ (.int .i64 x)).setCell ⟨w.heap.size, 1, none⟩ (.int .i64 y)).setCell ⟨w.heap.size, 2, none⟩ (.slice A gs.length ca)).setCell ⟨w.heap.size, 3, none⟩ (.slice O os.length co)) := by
  refine ⟨⟨x, y, gs, os⟩, A, ca, O, co, rfl, ?_, hng, hno, below_set4 (k.below_ (Nat.le_refl _) hS) (Nat.le_refl _) _ _ _ _ _ _ _ _⟩
  rw [set4_size]
  exact (ho.set4 (.inl hlo) _ _ _ _ _ _ _ _).lo_ (by omega)
end Go.Proofs.Ytimmjppkaadggaa
namespace Go.Proofs.Ytimmjppkaadggaa
open Go.RowKit
set_option linter.unusedVariables false
set_option linter.unusedSimpArgs false
attribute [local go_sem] sepAt sepUpon pureAt pureUpon
def Res.bx (D : Nat) (us : List Value) : Res :=
  ⟨fun _ v => v = undef, fun _ _ w => D < w.heap.size ∧ CellsAt w D 0 us ∧ Fz w D, fun _ _ b => b = D, fun _ => ⟨undef, rfl⟩,
    fun _ v w w' S h k hb => ⟨Nat.lt_of_lt_of_le h.1 k.size, h.2.1.alt k (hb D rfl).1, h.2.2.alt k h.1 (hb D rfl).1⟩⟩
section
variable {P : Program} {W : World} {own : Nat → Prop} {cs : List (Addr × Value)} {sk : List (Nat × List Nat × List Nat)} {ini fi : List Nat} {rs : List (Nat × Res)} {ops : Array Oper} {L : Act → (Nat → Value) → Prop} {k : Nat} {o : Oper} {rest : List Oper} {a : Act} {ρ : Nat → Value}
theorem mem_bx (d D : Nat) (us vs : List Value) (v0 : Value) (hr : resAt rs k = Res.bx D vs) (he : effB sk k = true) (hrd : resAt rs d = Res.bx D us) (hd : consL sk k = [d]) (hdd : d ∈ depsL sk k) (hρ : ρ d = v0)
    (hx : ∀ w, Alt (okB W own) W w → CellsL w cs → D < w.heap.size → CellsAt w D 0 us → Fz w D → sepAt P o a (fun v w' => v = undef ∧ CellsAt w' D 0 vs ∧ Fz w' D ∧ Alt (fun i => i = D) w w') w)
    (h : wpSep (mkSep W own cs sk ini fi rs) P ops L (k + 1) rest (a.put o.dst undef) (upd ρ k undef)) (hw : Region.wanted o (yielded ops a.tmps) = true := by first | exact wanted_none rfl | exact wanted_some rfl rfl rfl rfl) : wpSep (mkSep W own cs sk ini fi rs) P ops L k (o :: rest) a ρ :=
  mem_eff (hw := hw) _ hr he (fun w hw hc hp => by
    have h1 : D < w.heap.size ∧ CellsAt w D 0 us ∧ Fz w D := (has_dep hdd hp hρ hrd).1
    have hh : (mkSep W own cs sk ini fi rs).hit k ρ = fun b => b = D := hit_one hd hρ hrd
    rw [hh]
    refine sepAt_mono (hx w hw hc h1.1 h1.2.1 h1.2.2) fun v w' ⟨e1, e2, e3, e4⟩ => ⟨e1, ⟨Nat.lt_of_lt_of_le h1.1 e4.size, e2, e3⟩, e4, fun b hb => ?_⟩
    have hb' : b = D := hb
    subst hb'
    exact ⟨Nat.lt_of_lt_of_le h1.1 e4.size, .inr rfl⟩) fun v hv => by
    obtain rfl : v = undef := hv
    exact h
end
theorem bx_set4 {w : World} {D : Nat} {x0 y0 : Int} {Ag0 : Option Addr} {ng0 cg0 : Nat} {Ao0 : Option Addr} {no0 co0 : Nat} (h : BxC w D x0 y0 Ag0 ng0 cg0 Ao0 no0 co0) (hf : Fz w D) (x y : Int) (A : Option Addr) (ng ca : Nat) (O : Option Addr) (no co : Nat) :
    CellsAt ((((w.setCell ⟨D, 0, none⟩ (.int .i64 x)).setCell ⟨D, 1, none⟩ (.int .i64 y)).setCell ⟨D, 2, none⟩ (.slice A ng ca)).setCell ⟨D, 3, none⟩ (.slice O no co)) D 0 [.int .i64 x, .int .i64 y, .slice A ng ca, .slice O no co]
    ∧ Fz ((((w.setCell ⟨D, 0, none⟩ (.int .i64 x)).setCell ⟨D, 1, none⟩ (.int .i64 y)).setCell ⟨D, 2, none⟩ (.slice A ng ca)).setCell ⟨D, 3, none⟩ (.slice O no co)) D
    ∧ Alt (fun i => i = D) w ((((w.setCell ⟨D, 0, none⟩ (.int .i64 x)).setCell ⟨D, 1, none⟩ (.int .i64 y)).setCell ⟨D, 2, none⟩ (.slice A ng ca)).setCell ⟨D, 3, none⟩ (.slice O no co)) := by
  obtain ⟨c0, c1, c2, c3⟩ := h.set4 x y A ng ca O no co
  exact ⟨⟨c0, c1, c2, c3, trivial⟩, (((hf.set _ _).set _ _).set _ _).set _ _, alt_set4 (Alt.refl_ (fun i => i = D) w) (fun _ => rfl) _ _ _ _ _ _ _ _⟩
end Go.Proofs.Ytimmjppkaadggaa
namespace Go.Proofs.Ytimmjppkaadggaa
open Go.RowKit
set_option linter.unusedVariables false
set_option linter.unusedSimpArgs false
attribute [local go_sem] sepAt sepUpon pureAt pureUpon
def tblkW (A : Option Addr) (n : Nat) : Nat → Prop := fun i => 0 < n ∧ ∃ o, A = some ⟨i, o, none⟩
theorem tblkW_lt {w : World} {Y : Option Addr} {n : Nat} (hY : RY w Y n) : ∀ i, tblkW Y n i → i < w.heap.size := by
  rintro i ⟨hn, o, hq⟩
  obtain ⟨b, o', h1, h2, _⟩ := hY.2 hn
  rw [hq] at h1; injection h1 with h1; injection h1 with h3 h4; omega
theorem Cur.newW {w : World} {Y : Option Addr} {n c : Nat} (hY : RY w Y n) : Cur (w.alloc (.cells #[.slice Y n c, .int .i64 0, .int .u64 0] 41)) w.heap.size (tblkW Y n) 0 := by
  have h2 := hY.alt (Alt.of_new (S := fun _ => False) ((Below.refl w.heap.size w).alloc (Nat.le_refl _) (.cells #[.slice Y n c, .int .i64 0, .int .u64 0] 41))) (fun _ _ _ _ h => h)
  refine ⟨Fz.new w _ _, by simp, Y, n, c, 0, 0, box_cell _ _ 0 _ rfl, box_cell _ _ 1 _ rfl, box_cell _ _ 2 _ rfl, Nat.le_refl _, h2, fun hn q o hA => ⟨⟨hn, o, hA⟩, ?_⟩⟩
  have := tblkW_lt hY q ⟨hn, o, hA⟩
  omega
theorem RI_lit (w : World) (xs : List Int) (t : TypeId) : RI (w.alloc (.cells (xs.map (Value.int .i64)).toArray t)) (some ⟨w.heap.size, 0, none⟩) xs.length xs :=
  ⟨rfl, fun _ => ⟨_, 0, rfl, by simp, fun j hj => by rw [Nat.zero_add]; exact box_cell _ _ j _ (by simp [gi_lt hj, hj])⟩⟩
def RetIb (lo hi : Int) (w : World) (e : Ending) (w' : World) : Prop := ∃ x : Int, lo ≤ x ∧ x ≤ hi ∧ e = .returned (.int .i64 x) ∧ Below w.heap.size w w'
def RetIc (lo hi : Int) (b : Nat) (R : Nat → Prop) (T : Nat) (w : World) (e : Ending) (w' : World) : Prop := ∃ x : Int, lo ≤ x ∧ x ≤ hi ∧ e = .returned (.int .i64 x) ∧ Cur w' b R T ∧ Alt (fun i => i = b) w w'
set_option maxRecDepth 100000 in
set_option maxHeartbeats 1000000 in
theorem width_any (b : Nat) (R : Nat → Prop) (T : Nat) (w : World) (h : Cur w b R T) (hT : T < 800000000) (hR : ∀ i, R i → i < w.heap.size) (hRb : ¬ R b) :
    Calls Try.prog 38 #[.pointer (some ⟨b, 0, none⟩)] w (RetIc (-1) 9 b R (T + 4) w) := by
  have hb := h.lt
  have al1 : Below w.heap.size w (w.alloc (.cells #[.int .i64 0, .int .i64 9, .int .i64 (-1)] 3)) := (Below.refl _ _).alloc (Nat.le_refl _) _
  have ua := h.alt (Alt.of_new (S := fun _ => False) al1) (fun h => h) (fun _ _ h => h)
  have hra : RI (w.alloc (.cells #[.int .i64 0, .int .i64 9, .int .i64 (-1)] 3)) (some ⟨w.heap.size, 0, none⟩) 3 [0, 9, -1] := by
    simpa using RI_lit w [0, 9, -1] 3
  go_enter Try.func38, Try.ntmps38
  go_wp2_with fail
  refine (among_any _ 3 3 [0, 9, -1] b R _ _ ua (by omega) hra (by omega) (by omega) (fun q o hA => by simp only [Option.some.injEq, Addr.mk.injEq, and_true] at hA; omega)).mono ?_
  rintro e a4 ⟨x, hxm, rfl, u4, k4, z4⟩
  have hxb : -1 ≤ x ∧ x ≤ 9 := by simp only [List.mem_cons, List.not_mem_nil, or_false] at hxm; omega
  have kw := (Alt.of_new (S := fun i => i = b) al1).trans_ k4 (fun _ _ h => h)
  have hz4 : a4.heap.size = w.heap.size + 1 := by simpa using z4
  have al2 : Below a4.heap.size a4 (a4.alloc (.cells #[.int .i64 1, .int .i64 2, .int .i64 3, .int .i64 4, .int .i64 5, .int .i64 6, .int .i64 8, .int .i64 x] 3)) := (Below.refl _ _).alloc (Nat.le_refl _) _
  have ub := u4.alt (Alt.of_new (S := fun _ => False) al2) (fun h => h) (fun _ _ h => h)
  have hrb : RI (a4.alloc (.cells #[.int .i64 1, .int .i64 2, .int .i64 3, .int .i64 4, .int .i64 5, .int .i64 6, .int .i64 8, .int .i64 x] 3)) (some ⟨a4.heap.size, 0, none⟩) 8 [1, 2, 3, 4, 5, 6, 8, x] := by
    simpa using RI_lit a4 [1, 2, 3, 4, 5, 6, 8, x] 3
  rw [hz4] at hrb
  have k5 := kw.trans_ (Alt.of_new (S := fun i => i = b) al2) (fun _ _ h => h)
  clear al1 ua hra hxm u4 k4 z4 kw
  go_wp2_with fail
  refine (among_any _ 8 8 [1, 2, 3, 4, 5, 6, 8, x] b R _ _ ub (by omega) hrb (by omega) (by omega) (fun q o hA => by simp only [Option.some.injEq, Addr.mk.injEq, and_true] at hA; omega)).mono ?_
  rintro e a6 ⟨y, hym, rfl, u6, k6, z6⟩
  have hyb : -1 ≤ y ∧ y ≤ 9 := by simp only [List.mem_cons, List.not_mem_nil, or_false] at hym; omega
  go_wp2
  go_ret
  exact ⟨y, hyb.1, hyb.2, rfl, u6, k5.trans_ k6 (fun _ _ h => h)⟩
set_option maxRecDepth 100000 in
set_option maxHeartbeats 1000000 in
theorem DrawAdderCircuit_any (Y : Option Addr) (n c : Nat) (w : World) (hY : RY w Y n) :
    Calls Try.prog 8 #[.slice Y n c] w (RetIb (-1) 9 w) := by
  have hc0 := Cur.newW (c := c) hY
  have hA2 : Below w.heap.size w (w.alloc (.cells #[.slice Y n c, .int .i64 0, .int .u64 0] 41)) := (Below.refl _ _).alloc (Nat.le_refl _) _
  have hR := tblkW_lt hY
  have hRb : ¬ tblkW Y n w.heap.size := fun h => by have := hR _ h; omega
  go_enter Try.func8, Try.ntmps8
  go_wp2_with fail
  refine (width_any w.heap.size (tblkW Y n) 0 _ hc0 (by omega) (fun i hi => by have := hR i hi; simp; omega) hRb).mono ?_
  rintro e a1 ⟨x, h1, h2, rfl, c1, k1⟩
  have kw : Alt (fun i => i = w.heap.size) w a1 := (Alt.of_new (S := fun i => i = w.heap.size) hA2).trans_ k1 (fun _ _ h => h)
  go_wp2
  go_ret
  exact ⟨x, h1, h2, rfl, kw.below_ (Nat.le_refl _) (fun i hi e => by omega)⟩
end Go.Proofs.Ytimmjppkaadggaa
