/- Two drawn circuits for a comparison: DrawAreEqual returns two circuits of the call's own. -/
import Derived.Test.YtikgagjoapggnaaQP15
import Derived.Test.YtikgagjoapggnaaQP23
namespace Go.Proofs.Ytikgagjoapggnaa
open Go.RowKit
set_option linter.unusedVariables false
set_option linter.unusedSimpArgs false
attribute [local go_sem] sepAt sepUpon pureAt pureUpon
def Res.cir (W0 : World) (R : Nat → Prop) (lo : Nat) : Res :=
  ⟨fun _ v => ∃ (x y : Int) (A : Option Addr) (ng ca : Nat) (O : Option Addr) (no co : Nat), v = .agg #[.int .i64 x, .int .i64 y, .slice A ng ca, .slice O no co],
    fun _ v w => (∃ (gs : List G3) (os : List Int) (x y : Int) (A : Option Addr) (ca : Nat) (O : Option Addr) (co : Nat), v = .agg #[.int .i64 x, .int .i64 y, .slice A gs.length ca, .slice O os.length co] ∧ OwnC w lo w.heap.size A gs.length ca O os.length co gs os ∧ gs.length ≤ 310 ∧ os.length ≤ 50) ∧ ∀ i, R i → i < w.heap.size ∧ w.heap[i]? = W0.heap[i]?,
    fun _ v c => R c ∨ ∃ (x y : Int) (A : Option Addr) (ng ca : Nat) (O : Option Addr) (no co : Nat), v = .agg #[.int .i64 x, .int .i64 y, .slice A ng ca, .slice O no co] ∧ ((Value.slice A ng ca).ownBlock = some c ∨ (Value.slice O no co).ownBlock = some c),
    fun _ => ⟨.agg #[.int .i64 0, .int .i64 0, .slice none 0 0, .slice none 0 0], 0, 0, none, 0, 0, none, 0, 0, rfl⟩,
    fun _ v w w' S h k hb => by
      obtain ⟨⟨gs, os, x, y, A, ca, O, co, he, ho, h1, h2⟩, hR⟩ := h
      exact ⟨⟨gs, os, x, y, A, ca, O, co, he, ⟨(ho.1.alt k (fun g hg => (hb g (.inr ⟨x, y, A, _, ca, O, _, co, he, .inl hg⟩)).1)).now, (ho.2.1.alt k (fun g hg => (hb g (.inr ⟨x, y, A, _, ca, O, _, co, he, .inr hg⟩)).1)).now, ho.2.2⟩, h1, h2⟩,
        fun i hi => ⟨Nat.lt_of_lt_of_le (hR i hi).1 k.size, (k.block i (hR i hi).1 (hb i (.inl hi)).1).trans (hR i hi).2⟩⟩⟩
def Res.bxF (D : Nat) (f : List Value → List Value) : Res :=
  ⟨fun _ v => v = undef, fun ds _ w => D < w.heap.size ∧ CellsAt w D 0 (f ds) ∧ Fz w D, fun _ _ b => b = D, fun _ => ⟨undef, rfl⟩,
    fun _ v w w' S h k hb => ⟨Nat.lt_of_lt_of_le h.1 k.size, h.2.1.alt k (hb D rfl).1, h.2.2.alt k h.1 (hb D rfl).1⟩⟩
def aggF (ds : List Value) : List Value := match ds with
  | [_, .agg fs] => fs.toList
  | _ => []
section
variable {P : Program} {W : World} {own : Nat → Prop} {cs : List (Addr × Value)} {sk : List (Nat × List Nat × List Nat)} {ini fi : List Nat} {rs : List (Nat × Res)} {ops : Array Oper} {L : Act → (Nat → Value) → Prop} {k : Nat} {o : Oper} {rest : List Oper} {a : Act} {ρ : Nat → Value}
theorem mem_cir (d b : Nat) (R : Nat → Prop) (T lo : Nat) (W0 : World) (v0 : Value) (hR : ¬ R b) (hr : resAt rs k = Res.cir W0 R lo) (he : effB sk k = true) (hlo : lo ≤ W.heap.size) (hrd : resAt rs d = Res.curQ W0 b R T Qi Qi.one) (hd : consL sk k = [d]) (hdd : d ∈ depsL sk k) (hρ : ρ d = v0)
    (hx : ∀ w, Alt (okB W own) W w → CellsL w cs → Cur w b R T → (∀ i, R i → i < w.heap.size) → sepAt P o a (fun v w' => ∃ (gs : List G3) (os : List Int) (x y : Int) (A : Option Addr) (ca : Nat) (O : Option Addr) (co : Nat), v = .agg #[.int .i64 x, .int .i64 y, .slice A gs.length ca, .slice O os.length co] ∧ OwnC w' w.heap.size w'.heap.size A gs.length ca O os.length co gs os ∧ gs.length ≤ 310 ∧ os.length ≤ 50 ∧ Alt (fun i => i = b) w w') w)
    (h : ∀ (x y : Int) (A : Option Addr) (ng ca : Nat) (O : Option Addr) (no co : Nat), wpSep (mkSep W own cs sk ini fi rs) P ops L (k + 1) rest (a.put o.dst (.agg #[.int .i64 x, .int .i64 y, .slice A ng ca, .slice O no co])) (upd ρ k (.agg #[.int .i64 x, .int .i64 y, .slice A ng ca, .slice O no co]))) (hw : Region.wanted o (yielded ops a.tmps) = true := by first | exact wanted_none rfl | exact wanted_some rfl rfl rfl rfl) : wpSep (mkSep W own cs sk ini fi rs) P ops L k (o :: rest) a ρ :=
  mem_eff (hw := hw) _ hr he (fun w hw hc hp => by
    have h1 : Cur w b R T ∧ ∀ i, R i → i < w.heap.size ∧ w.heap[i]? = W0.heap[i]? := (has_dep hdd hp hρ hrd).1
    have hh : (mkSep W own cs sk ini fi rs).hit k ρ = fun c => c = b ∨ R c := hit_one hd hρ hrd
    rw [hh]
    refine sepAt_mono (hx w hw hc h1.1 (fun i hi => (h1.2 i hi).1)) fun v w' ⟨gs, os, x, y, A, ca, O, co, he1, ho, l1, l2, ha1⟩ => ?_
    subst he1
    refine ⟨⟨x, y, A, _, ca, O, _, co, rfl⟩, ⟨⟨gs, os, x, y, A, ca, O, co, rfl, ho.lo_ (Nat.le_trans hlo hw.size), l1, l2⟩, fun i hi => ?_⟩, ha1.mono_ (fun i _ hi => .inl hi), fun c hc => ?_⟩
    · exact ⟨Nat.lt_of_lt_of_le (h1.2 i hi).1 ha1.size, (ha1.block i (h1.2 i hi).1 (fun e => hR (e ▸ hi))).trans (h1.2 i hi).2⟩
    · rcases hc with hc | ⟨x', y', A', ng', ca', O', no', co', he', hc'⟩
      · exact ⟨Nat.lt_of_lt_of_le (h1.2 c hc).1 ha1.size, .inr (.inr hc)⟩
      · simp only [Value.agg.injEq, Array.mk.injEq, List.cons.injEq, Value.int.injEq, Value.slice.injEq, true_and, and_true] at he'
        obtain ⟨_, _, ⟨rfl, rfl, rfl⟩, rfl, rfl, rfl⟩ := he'
        rcases hc' with hc' | hc'
        · exact ⟨(ho.1.lt c hc').2.2, .inl (ho.1.lt c hc').1⟩
        · exact ⟨(ho.2.1.lt c hc').2.2, .inl (ho.2.1.lt c hc').1⟩) fun v hv => by
    obtain ⟨x, y, A, ng, ca, O, no, co, rfl⟩ := hv
    exact h x y A ng ca O no co
theorem mem_bxF (d d2 D : Nat) (us vs : List Value) (v0 v2 : Value) (hr : resAt rs k = Res.bxF D aggF) (he : effB sk k = true) (hrd : resAt rs d = Res.bx D us) (hd : consL sk k = [d]) (hdd : depsL sk k = [d, d2]) (hρ : ρ d = v0) (hρ2 : ρ d2 = v2) (hv2 : aggF [v0, v2] = vs)
    (hx : ∀ w, Alt (okB W own) W w → CellsL w cs → D < w.heap.size → CellsAt w D 0 us → Fz w D → sepAt P o a (fun v w' => v = undef ∧ CellsAt w' D 0 vs ∧ Fz w' D ∧ Alt (fun i => i = D) w w') w)
    (h : wpSep (mkSep W own cs sk ini fi rs) P ops L (k + 1) rest (a.put o.dst undef) (upd ρ k undef)) (hw : Region.wanted o (yielded ops a.tmps) = true := by first | exact wanted_none rfl | exact wanted_some rfl rfl rfl rfl) : wpSep (mkSep W own cs sk ini fi rs) P ops L k (o :: rest) a ρ :=
  mem_eff (hw := hw) _ hr he (fun w hw hc hp => by
    have h1 : D < w.heap.size ∧ CellsAt w D 0 us ∧ Fz w D := (has_dep (d := d) (by rw [hdd]; simp) hp hρ hrd).1
    have hh : (mkSep W own cs sk ini fi rs).hit k ρ = fun b => b = D := hit_one hd hρ hrd
    rw [hh]
    refine sepAt_mono (hx w hw hc h1.1 h1.2.1 h1.2.2) fun v w' ⟨e1, e2, e3, e4⟩ => ⟨e1, ⟨Nat.lt_of_lt_of_le h1.1 e4.size, by rw [hdd]; simp only [List.map_cons, List.map_nil, hρ, hρ2]; rw [hv2]; exact e2, e3⟩, e4, fun b hb => ?_⟩
    have hb' : b = D := hb
    subst hb'
    exact ⟨Nat.lt_of_lt_of_le h1.1 e4.size, .inr rfl⟩) fun v hv => by
    obtain rfl : v = undef := hv
    exact h
end
theorem apart_l {R : Nat → Prop} {s c : Nat} (hR : ∀ i, R i → i < s) (h1 : c = s + 2 ∨ R c) (h2 : c = s) : False := by
  rcases h1 with h | h
  · omega
  · have := hR c h; omega
theorem apart_m {R : Nat → Prop} {s c : Nat} (hR : ∀ i, R i → i < s) (h1 : c = s + 2 ∨ R c) (h2 : c = s + 1) : False := by
  rcases h1 with h | h
  · omega
  · have := hR c h; omega
set_option maxRecDepth 100000 in
set_option maxHeartbeats 6000000 in
theorem DrawAreEqual_any (Y : Option Addr) (n c : Nat) (w : World) (hY : RY w Y n) :
    Calls Try.prog 7 #[.slice Y n c] w (RetDb w) := by
  have hA1 : Below w.heap.size w ((w.alloc (.cells #[.int .i64 0, .int .i64 0, .slice none 0 0, .slice none 0 0] 26)).alloc (.cells #[.int .i64 0, .int .i64 0, .slice none 0 0, .slice none 0 0] 26)) := ((Below.refl _ _).alloc (Nat.le_refl _) _).alloc (by simp) _
  have al1 : Below (w.alloc (.cells #[.int .i64 0, .int .i64 0, .slice none 0 0, .slice none 0 0] 26)).heap.size (w.alloc (.cells #[.int .i64 0, .int .i64 0, .slice none 0 0, .slice none 0 0] 26)) ((w.alloc (.cells #[.int .i64 0, .int .i64 0, .slice none 0 0, .slice none 0 0] 26)).alloc (.cells #[.int .i64 0, .int .i64 0, .slice none 0 0, .slice none 0 0] 26)) := (Below.refl _ _).alloc (Nat.le_refl _) _
  have hr0 : BxC ((w.alloc (.cells #[.int .i64 0, .int .i64 0, .slice none 0 0, .slice none 0 0] 26)).alloc (.cells #[.int .i64 0, .int .i64 0, .slice none 0 0, .slice none 0 0] 26)) w.heap.size 0 0 none 0 0 none 0 0 := (BxC.new w _).below al1
  have hr1 : BxC ((w.alloc (.cells #[.int .i64 0, .int .i64 0, .slice none 0 0, .slice none 0 0] 26)).alloc (.cells #[.int .i64 0, .int .i64 0, .slice none 0 0, .slice none 0 0] 26)) (w.heap.size + 1) 0 0 none 0 0 none 0 0 := by simpa using BxC.new (x := 0) (y := 0) (Ag := none) (ng := 0) (cg := 0) (Ao := none) (no := 0) (co := 0) (w.alloc (.cells #[.int .i64 0, .int .i64 0, .slice none 0 0, .slice none 0 0] 26)) 26
  have hs0 : ((w.alloc (.cells #[.int .i64 0, .int .i64 0, .slice none 0 0, .slice none 0 0] 26)).alloc (.cells #[.int .i64 0, .int .i64 0, .slice none 0 0, .slice none 0 0] 26)).heap.size = w.heap.size + 2 := by simp
  have hfz : Fz ((w.alloc (.cells #[.int .i64 0, .int .i64 0, .slice none 0 0, .slice none 0 0] 26)).alloc (.cells #[.int .i64 0, .int .i64 0, .slice none 0 0, .slice none 0 0] 26)) w.heap.size := Fz.below (Fz.new w _ _) al1 (by simp)
  have hfz1 : Fz ((w.alloc (.cells #[.int .i64 0, .int .i64 0, .slice none 0 0, .slice none 0 0] 26)).alloc (.cells #[.int .i64 0, .int .i64 0, .slice none 0 0, .slice none 0 0] 26)) (w.heap.size + 1) := by simpa using Fz.new (w.alloc (.cells #[.int .i64 0, .int .i64 0, .slice none 0 0, .slice none 0 0] 26)) #[.int .i64 0, .int .i64 0, .slice none 0 0, .slice none 0 0] 26
  have hY1 := hY.alt (Alt.of_new (S := fun _ => False) hA1) (fun _ _ _ _ h => h)
  have hc0 := Cur.new (c := c) hY1
  have hA2 : Below ((w.alloc (.cells #[.int .i64 0, .int .i64 0, .slice none 0 0, .slice none 0 0] 26)).alloc (.cells #[.int .i64 0, .int .i64 0, .slice none 0 0, .slice none 0 0] 26)).heap.size ((w.alloc (.cells #[.int .i64 0, .int .i64 0, .slice none 0 0, .slice none 0 0] 26)).alloc (.cells #[.int .i64 0, .int .i64 0, .slice none 0 0, .slice none 0 0] 26)) (((w.alloc (.cells #[.int .i64 0, .int .i64 0, .slice none 0 0, .slice none 0 0] 26)).alloc (.cells #[.int .i64 0, .int .i64 0, .slice none 0 0, .slice none 0 0] 26)).alloc (.cells #[.slice Y n c, .int .i64 0, .int .u64 0] 59)) := (Below.refl _ _).alloc (Nat.le_refl _) _
  have hR : ∀ i, tblk Y n i → i < w.heap.size := tblk_lt hY
  have hs1 : (((w.alloc (.cells #[.int .i64 0, .int .i64 0, .slice none 0 0, .slice none 0 0] 26)).alloc (.cells #[.int .i64 0, .int .i64 0, .slice none 0 0, .slice none 0 0] 26)).alloc (.cells #[.slice Y n c, .int .i64 0, .int .u64 0] 59)).heap.size = w.heap.size + 3 := by simp
  rw [hs0] at hc0
  have hRb : ¬ tblk Y n (w.heap.size + 2) := fun h => by have := hR _ h; omega
  generalize tblk Y n = R at hc0 hR hRb
  go_enter Try.func7, Try.ntmps7
  go_wp2_with fail
  refine (wasteful_any (w.heap.size + 2) R 0 _ hc0 (by omega) (fun i hi => by have := hR i hi; omega) hRb).mono ?_
  rintro e a1 ⟨⟨x, y, gs, os⟩, A, ca, O, co, rfl, ho1, hx, hy, hng, hno, c1, k1⟩
  dsimp only at ho1 hx hy hng hno ⊢
  have hz1 := k1.size
  rw [hs1] at ho1 hz1
  have kb : Alt (fun i => i = w.heap.size + 2) ((w.alloc (.cells #[.int .i64 0, .int .i64 0, .slice none 0 0, .slice none 0 0] 26)).alloc (.cells #[.int .i64 0, .int .i64 0, .slice none 0 0, .slice none 0 0] 26)) (a1.alloc (.cells #[.int .i64 x, .int .i64 y, .slice A gs.length ca, .slice O os.length co] 26)) := ((Alt.of_new (S := fun i => i = w.heap.size + 2) hA2).trans_ k1 (fun _ _ h => h)).alloc_ _
  have hp0 := PX.boxed (C := ⟨x, y, gs, os⟩) ho1 26
  dsimp only at hp0
  have hal := (Below.refl a1.heap.size a1).alloc (Nat.le_refl _) (.cells #[.int .i64 x, .int .i64 y, .slice A gs.length ca, .slice O os.length co] 26)
  have cb := c1.alt (Alt.of_new (S := fun _ => False) hal) (fun h => h) (fun _ _ h => h)
  obtain ⟨K, hK⟩ : ∃ K, a1.heap.size = K := ⟨_, rfl⟩
  have hKs : (a1.alloc (.cells #[.int .i64 x, .int .i64 y, .slice A gs.length ca, .slice O os.length co] 26)).heap.size = K + 1 := by simp [hK]
  have hox := ho1
  rw [hK] at hox
  clear ho1 c1 k1 hal hc0 hA2 hY1
  go_wp2_with fail
  rw [hK] at hp0
  have hKw : w.heap.size + 3 ≤ K := by omega
  clear hz1
  generalize a1.alloc (.cells #[.int .i64 x, .int .i64 y, .slice A gs.length ca, .slice O os.length co] 26) = a2 at *
  clear hK
  have hq := hp0.bx; obtain ⟨m0, m1, m2, m3⟩ := hq
  dsimp only at m0 m1 m2 m3
  refine (spec_SimplifyCircuit_any x y A gs.length ca O os.length co gs os _ ⟨hp0.ox.1.1.reads, hp0.ox.1.2.1.reads⟩ (by omega) (by omega)).mono ?_
  have hlen := simpF_len x y gs os
  generalize hF : simpF x y gs os = F
  rw [hF] at hlen
  clear hF
  rintro e a3 ⟨B, cb2, P, cp, rfl, ho3, hb3⟩
  generalize hC : F.getD ⟨0, 0, [], []⟩ = C at *
  clear hC
  generalize hT9 : F.isSome = t at *
  clear hT9
  obtain ⟨u, v, hs, ps⟩ := C
  dsimp only at ho3 hlen ⊢
  obtain ⟨hmg, hmo⟩ := hlen
  clear m0 m1 m2 m3
  have hp3 := hp0.below hb3 (Nat.le_refl _)
  have c3 := cb.alt (Alt.of_new (S := fun _ => False) hb3) (fun h => h) (fun _ _ h => h)
  have k3 := kb.new_ hb3
  have hz3 := hb3.size
  rw [hKs] at hz3 ho3
  have hy0 := PX.boxed (C := ⟨u, v, hs, ps⟩) ho3 26
  dsimp only at hy0
  have hal := (Below.refl a3.heap.size a3).alloc (Nat.le_refl _) (.cells #[.int .i64 u, .int .i64 v, .slice B hs.length cb2, .slice P ps.length cp] 26)
  have hp4 := hp3.below hal (Nat.le_refl _)
  have c4 := c3.alt (Alt.of_new (S := fun _ => False) hal) (fun h => h) (fun _ _ h => h)
  have k4 := k3.alloc_ (.cells #[.int .i64 u, .int .i64 v, .slice B hs.length cb2, .slice P ps.length cp] 26)
  obtain ⟨M, hM⟩ : ∃ M, a3.heap.size = M := ⟨_, rfl⟩
  have hMs : (a3.alloc (.cells #[.int .i64 u, .int .i64 v, .slice B hs.length cb2, .slice P ps.length cp] 26)).heap.size = M + 1 := by simp [hM]
  rw [hM] at hy0
  have hMK : K + 1 ≤ M := by omega
  have hx5 : (∀ q, (Value.slice A gs.length ca).ownBlock = some q → q < K) ∧ (∀ q, (Value.slice O os.length co).ownBlock = some q → q < K) := ⟨fun q hq => (hox.1.lt q hq).2.1, fun q hq => (hox.2.1.lt q hq).2.1⟩
  clear hp0 hp3 cb c3 kb k3 hb3 ho3 hal hz3 hox
  have hKb : ¬ K = w.heap.size + 2 := by omega
  have hMb : ¬ M = w.heap.size + 2 := by omega
  have hKD : ¬ K = w.heap.size := by omega
  have hKE : ¬ K = w.heap.size + 1 := by omega
  have hMD : ¬ M = w.heap.size := by omega
  have hME : ¬ M = w.heap.size + 1 := by omega
  have hgb : ∀ g, w.heap.size + 3 ≤ g → ¬ g = w.heap.size + 2 := fun g hg => by omega
  cases t with
  | false =>
    go_wp2_with fail
    generalize a3.alloc (.cells #[.int .i64 u, .int .i64 v, .slice B hs.length cb2, .slice P ps.length cp] 26) = a4 at *
    have hr8 := hr0.alt k4 (by omega)
    have hr9 := hr1.alt k4 (by omega)
    have hF := Fz.alt hfz k4 (by omega) (by omega)
    have hF1 := Fz.alt hfz1 k4 (by omega) (by omega)
    have kw : Alt (fun i => i = w.heap.size + 2) w a4 := (Alt.of_new (S := fun i => i = w.heap.size + 2) hA1).trans_ k4 (fun _ _ h => h)
    have hq := hp4.bx; obtain ⟨m0, m1, m2, m3⟩ := hq
    dsimp only at m0 m1 m2 m3
    have hlt : w.heap.size + 3 < a4.heap.size := by omega
    go_wp2_with fail
    refine wp_region_mem (5) ((fun i => (i = w.heap.size + 2 ∨ R i) ∨ (i = w.heap.size ∨ i = w.heap.size + 1))) [(⟨K, 0, none⟩, .int .i64 x), (⟨K, 1, none⟩, .int .i64 y), (⟨K, 2, none⟩, .slice A gs.length ca), (⟨K, 3, none⟩, .slice O os.length co)] [(2, [101], [101]), (3, [102], [102]), (4, [103, 2], [103])] [101, 102, 103] [2, 3, 4] [(101, Res.curI a4 (w.heap.size + 2) R (0 + 3000)), (102, Res.bx w.heap.size [.int .i64 0, .int .i64 0, .slice none 0 0, .slice none 0 0]), (103, Res.bx (w.heap.size + 1) [.int .i64 0, .int .i64 0, .slice none 0 0, .slice none 0 0]), (2, Res.cir a4 R (w.heap.size + 3)), (3, Res.bx w.heap.size [.int .i64 x, .int .i64 y, .slice A gs.length ca, .slice O os.length co]), (4, Res.bxF (w.heap.size + 1) aggF)] ((upd (upd (upd (fun _ => undef) 101 (.int .i64 0)) 102 undef) 103 undef)) (by kernel_rfl) (by kernel_rfl) (by kernel_rfl) (by simp only [CellsL, List.mem_cons, forall_eq_or_imp, List.not_mem_nil, false_implies, implies_true, and_true]; repeat (any_goals (apply And.intro)); all_goals (first | assumption | go_simp)) (fun q9 hq9 => by simp only [List.mem_cons, List.not_mem_nil, or_false] at hq9; rcases hq9 with rfl | rfl | rfl | rfl <;> rintro ((h | h) | (h | h)) <;> first | exact hKb h | exact hKD h | exact hKE h | (have h' : K < w.heap.size := hR _ h; omega)) (⟨⟨⟨c4.alt ((Alt.refl_ (fun _ => False) a4).drewN_ 1) (fun h => h) (fun _ _ h => h), fun i hi => ⟨by have := hR i hi; show i < a4.heap.size; omega, rfl⟩⟩, fun i hi => ⟨.inr (.inl hi), hi.elim (fun h => h ▸ c4.lt) (fun h => by have := hR i h; show i < a4.heap.size; omega)⟩⟩, ⟨⟨by show w.heap.size < a4.heap.size; omega, ⟨hr8.1, hr8.2.1, hr8.2.2.1, hr8.2.2.2, trivial⟩, hF⟩, fun i hi => ⟨.inr (.inr (.inl hi)), by have hi' : i = w.heap.size := hi; show i < a4.heap.size; omega⟩⟩, ⟨⟨by show w.heap.size + 1 < a4.heap.size; omega, ⟨hr9.1, hr9.2.1, hr9.2.2.1, hr9.2.2.2, trivial⟩, hF1⟩, fun i hi => ⟨.inr (.inr (.inr hi)), by have hi' : i = w.heap.size + 1 := hi; show i < a4.heap.size; omega⟩⟩, trivial⟩) ((fun d hd d' hd' hn c hc hc' => by simp only [List.mem_cons, List.not_mem_nil, or_false] at hd hd'; rcases hd with rfl | rfl | rfl <;> rcases hd' with rfl | rfl | rfl <;> first | exact hn rfl | exact apart_l hR hc hc' | exact apart_l hR hc' hc | exact apart_m hR hc hc' | exact apart_m hR hc' hc | (have h1 : c = w.heap.size := hc; have h2 : c = w.heap.size + 1 := hc'; omega) | (have h1 : c = w.heap.size + 1 := hc; have h2 : c = w.heap.size := hc'; omega))) ?_
    simp only [List.take_succ_cons, List.take_zero, List.drop_succ_cons, List.drop_zero, List.take_nil, List.drop_nil, List.take, List.drop]
    repeat (first
      | ((with_reducible refine mem_pure0 ?_ ?_ ?_)
         · exact rfl
         · exact rfl
         intro K hK
         apply Exists.intro
         refine ⟨fun w3 hw3 => ?_, ?_⟩
         · have hcs := hw3
           simp only [CellsL, List.mem_cons, forall_eq_or_imp, List.not_mem_nil, false_implies, implies_true, and_true] at hcs
           clear hw3
           go_simp
           first | done | exact ⟨rfl, rfl⟩ | rfl
         refine hK _ ?_
         clear hK K
         try simp only [Act.put, List.setIfInBounds_toArray, List.set_cons_zero, List.set_cons_succ])
      | ((with_reducible refine mem_skip ?_ ?_ ?_)
         · exact rfl
         · exact wanted_not rfl rfl rfl rfl
         simp only [Act.put, List.setIfInBounds_toArray, List.set_cons_zero, List.set_cons_succ])
      | ((with_reducible refine mem_pure ?_ ?_ ?_)
         · exact rfl
         · exact wanted_some rfl rfl rfl rfl
         intro K hK
         apply Exists.intro
         refine ⟨fun w3 hw3 => ?_, ?_⟩
         · have hcs := hw3
           simp only [CellsL, List.mem_cons, forall_eq_or_imp, List.not_mem_nil, false_implies, implies_true, and_true] at hcs
           clear hw3
           go_simp
           first | done | exact ⟨rfl, rfl⟩ | rfl
         refine hK _ ?_
         clear hK K
         try simp only [Act.put, List.setIfInBounds_toArray, List.set_cons_zero, List.set_cons_succ]))
    refine mem_cir 101 (w.heap.size + 2) R (0 + 3000) (w.heap.size + 3) a4 (.int .i64 0) hRb (by rfl) (by rfl) (by omega) (by rfl) (by rfl) (by decide) (by rfl) (fun w3 hw3 hc3 hu3 hR3 => ?_) (fun x9 y9 A9 ng9 ca9 O9 no9 co9 => ?_)
    · go_simp
      refine (wasteful_any _ R _ _ hu3 (by omega) hR3 hRb).mono ?_
      rintro e w4 ⟨⟨x8, y8, gs8, os8⟩, A8, ca8, O8, co8, rfl, ho8, _, _, hng8, hno8, _, k8⟩
      exact retPost.mk_ ⟨gs8, os8, x8, y8, A8, ca8, O8, co8, rfl, ho8, hng8, hno8, k8⟩
    try simp only [Act.put, List.setIfInBounds_toArray, List.set_cons_zero, List.set_cons_succ]
    repeat (first
      | ((with_reducible refine mem_pure0 ?_ ?_ ?_)
         · exact rfl
         · exact rfl
         intro K hK
         apply Exists.intro
         refine ⟨fun w3 hw3 => ?_, ?_⟩
         · have hcs := hw3
           simp only [CellsL, List.mem_cons, forall_eq_or_imp, List.not_mem_nil, false_implies, implies_true, and_true] at hcs
           clear hw3
           go_simp
           first | done | exact ⟨rfl, rfl⟩ | rfl
         refine hK _ ?_
         clear hK K
         try simp only [Act.put, List.setIfInBounds_toArray, List.set_cons_zero, List.set_cons_succ])
      | ((with_reducible refine mem_skip ?_ ?_ ?_)
         · exact rfl
         · exact wanted_not rfl rfl rfl rfl
         simp only [Act.put, List.setIfInBounds_toArray, List.set_cons_zero, List.set_cons_succ])
      | ((with_reducible refine mem_pure ?_ ?_ ?_)
         · exact rfl
         · exact wanted_some rfl rfl rfl rfl
         intro K hK
         apply Exists.intro
         refine ⟨fun w3 hw3 => ?_, ?_⟩
         · have hcs := hw3
           simp only [CellsL, List.mem_cons, forall_eq_or_imp, List.not_mem_nil, false_implies, implies_true, and_true] at hcs
           clear hw3
           go_simp
           first | done | exact ⟨rfl, rfl⟩ | rfl
         refine hK _ ?_
         clear hK K
         try simp only [Act.put, List.setIfInBounds_toArray, List.set_cons_zero, List.set_cons_succ]))
    refine mem_bx 102 w.heap.size _ _ undef (by rfl) (by rfl) (by rfl) (by rfl) (by decide) (by rfl) (fun w3 hw3 hc3 hz3 hd3 hf3 => ?_) ?_
    · obtain ⟨d0, d1, d2, d3, _⟩ := hd3
      have f0 := hf3 0; have f1 := hf3 1; have f2 := hf3 2; have f3 := hf3 3
      go_simp
      exact bx_set4 ⟨d0, d1, d2, d3⟩ hf3 _ _ _ _ _ _ _ _
    try simp only [Act.put, List.setIfInBounds_toArray, List.set_cons_zero, List.set_cons_succ]
    repeat (first
      | ((with_reducible refine mem_pure0 ?_ ?_ ?_)
         · exact rfl
         · exact rfl
         intro K hK
         apply Exists.intro
         refine ⟨fun w3 hw3 => ?_, ?_⟩
         · have hcs := hw3
           simp only [CellsL, List.mem_cons, forall_eq_or_imp, List.not_mem_nil, false_implies, implies_true, and_true] at hcs
           clear hw3
           go_simp
           first | done | exact ⟨rfl, rfl⟩ | rfl
         refine hK _ ?_
         clear hK K
         try simp only [Act.put, List.setIfInBounds_toArray, List.set_cons_zero, List.set_cons_succ])
      | ((with_reducible refine mem_skip ?_ ?_ ?_)
         · exact rfl
         · exact wanted_not rfl rfl rfl rfl
         simp only [Act.put, List.setIfInBounds_toArray, List.set_cons_zero, List.set_cons_succ])
      | ((with_reducible refine mem_pure ?_ ?_ ?_)
         · exact rfl
         · exact wanted_some rfl rfl rfl rfl
         intro K hK
         apply Exists.intro
         refine ⟨fun w3 hw3 => ?_, ?_⟩
         · have hcs := hw3
           simp only [CellsL, List.mem_cons, forall_eq_or_imp, List.not_mem_nil, false_implies, implies_true, and_true] at hcs
           clear hw3
           go_simp
           first | done | exact ⟨rfl, rfl⟩ | rfl
         refine hK _ ?_
         clear hK K
         try simp only [Act.put, List.setIfInBounds_toArray, List.set_cons_zero, List.set_cons_succ]))
    refine mem_bxF 103 2 (w.heap.size + 1) _ _ undef _ (by rfl) (by rfl) (by rfl) (by rfl) (by rfl) (by rfl) (by rfl) (by rfl) (fun w3 hw3 hc3 hz3 hd3 hf3 => ?_) ?_
    · obtain ⟨d0, d1, d2, d3, _⟩ := hd3
      have f0 := hf3 0; have f1 := hf3 1; have f2 := hf3 2; have f3 := hf3 3
      go_simp
      exact bx_set4 ⟨d0, d1, d2, d3⟩ hf3 _ _ _ _ _ _ _ _
    try simp only [Act.put, List.setIfInBounds_toArray, List.set_cons_zero, List.set_cons_succ]
    refine wpSep_end ?_
    intro wy hwy hcy hfin hap
    obtain ⟨⟨gs9, os9, x7, y7, A7, ca7, O7, co7, he9, ho9, l9, l8⟩, hRy⟩ := hfin.1.1
    have hRy2 : ∀ i, R i → i < wy.heap.size ∧ wy.heap[i]? = a4.heap[i]? := hRy
    obtain ⟨_, ⟨q0, q1, q2, q3, _⟩, _⟩ := hfin.2.1.1
    have hq4 := hfin.2.2.1.1.2.1
    have he8 : (Value.agg #[.int .i64 x9, .int .i64 y9, .slice A9 ng9 ca9, .slice O9 no9 co9]) = .agg #[.int .i64 x7, .int .i64 y7, .slice A7 gs9.length ca7, .slice O7 os9.length co7] := he9
    have hq5 : CellsAt wy (w.heap.size + 1) 0 [.int .i64 x9, .int .i64 y9, .slice A9 ng9 ca9, .slice O9 no9 co9] := hq4
    simp only [Value.agg.injEq, Array.mk.injEq, List.cons.injEq, Value.int.injEq, Value.slice.injEq, true_and, and_true] at he8
    obtain ⟨rfl, rfl, ⟨rfl, rfl, rfl⟩, rfl, rfl, rfl⟩ := he8
    obtain ⟨n0, n1, n2, n3, _⟩ := hq5
    clear he9 hq4
    have k9 := alt_back (own := fun i => i = w.heap.size ∨ i = w.heap.size + 1) kw hwy (fun i hi => by rcases hi with h | h <;> omega) (fun i hi => (hRy2 i hi).2)
    have hSn : ∀ i, w.heap.size + 3 ≤ i → i < a4.heap.size → ¬ okB a4 (fun i => (i = w.heap.size + 2 ∨ R i) ∨ (i = w.heap.size ∨ i = w.heap.size + 1)) i := fun i h1 h2 hc => by
      rcases hc with h | (h | h) | (h | h)
      · omega
      · have h' : i = w.heap.size + 2 := h; omega
      · have := hR _ h; omega
      · have h' : i = w.heap.size := h; omega
      · have h' : i = w.heap.size + 1 := h; omega
    have ho4 : OwnC wy (w.heap.size + 3) wy.heap.size A gs.length ca O os.length co gs os := ⟨(hp4.ox.1.1.alt hwy (fun q hq => hSn q (hp4.ox.1.1.lt q hq).1 (hp4.ox.1.1.lt q hq).2.2)).now, (hp4.ox.1.2.1.alt hwy (fun q hq => hSn q (hp4.ox.1.2.1.lt q hq).1 (hp4.ox.1.2.1.lt q hq).2.2)).now, hp4.ox.1.2.2⟩
    clear hfin hap hcy hwy m0 m1 m2 m3 hr8 hr9 hF hF1
    go_wp2
    refine bodyPost_ret (v := .tuple #[.agg #[.int .i64 x, .int .i64 y, .slice A gs.length ca, .slice O os.length co], .agg #[.int .i64 x9, .int .i64 y9, .slice A9 gs9.length ca9, .slice O9 os9.length co9]]) (by simp [results, Try.results7, go_sem, q0, q1, q2, q3, n0, n1, n2, n3]) rfl ?_
    exact ⟨⟨x, y, gs, os⟩, ⟨x9, y9, gs9, os9⟩, A, ca, O, co, A9, ca9, O9, co9, rfl, ho4.lo_ (by omega), by simp; omega, by simp; omega, (ho9.lo_ (by omega)), by simp; omega, by simp; omega, k9.below_ (Nat.le_refl _) (fun i hi e => by omega)⟩
  | true =>
    go_wp2_with fail
    generalize a3.alloc (.cells #[.int .i64 u, .int .i64 v, .slice B hs.length cb2, .slice P ps.length cp] 26) = a4 at *
    refine (one_any 5 _ R _ _ c4 (by omega) (by omega)).mono ?_
    rintro e a5 ⟨t5, rfl, c5, k5, z5⟩
    have hp5 := hp4.alt k5 hKb hgb
    have hy5 := hy0.alt k5 hMb (fun g hg => by omega)
    have q5 := k4.trans_ k5 (fun _ _ h => h)
    have hs5 : M + 1 ≤ a5.heap.size := by omega
    clear hp4 hy0 k4 c4 k5 z5
    cases t5 with
    | true =>
      have hr8 := hr0.alt q5 (by omega)
      have hr9 := hr1.alt q5 (by omega)
      have hF := Fz.alt hfz q5 (by omega) (by omega)
      have hF1 := Fz.alt hfz1 q5 (by omega) (by omega)
      have kw : Alt (fun i => i = w.heap.size + 2) w a5 := (Alt.of_new (S := fun i => i = w.heap.size + 2) hA1).trans_ q5 (fun _ _ h => h)
      have hq := hp5.bx; obtain ⟨m0, m1, m2, m3⟩ := hq
      dsimp only at m0 m1 m2 m3
      have hlt : w.heap.size + 3 < a5.heap.size := by omega
      go_wp2_with fail
      refine wp_region_mem (5) ((fun i => (i = w.heap.size + 2 ∨ R i) ∨ (i = w.heap.size ∨ i = w.heap.size + 1))) [(⟨K, 0, none⟩, .int .i64 x), (⟨K, 1, none⟩, .int .i64 y), (⟨K, 2, none⟩, .slice A gs.length ca), (⟨K, 3, none⟩, .slice O os.length co)] [(2, [101], [101]), (3, [102], [102]), (4, [103, 2], [103])] [101, 102, 103] [2, 3, 4] [(101, Res.curI a5 (w.heap.size + 2) R ((0 + 3000) + 2)), (102, Res.bx w.heap.size [.int .i64 0, .int .i64 0, .slice none 0 0, .slice none 0 0]), (103, Res.bx (w.heap.size + 1) [.int .i64 0, .int .i64 0, .slice none 0 0, .slice none 0 0]), (2, Res.cir a5 R (w.heap.size + 3)), (3, Res.bx w.heap.size [.int .i64 x, .int .i64 y, .slice A gs.length ca, .slice O os.length co]), (4, Res.bxF (w.heap.size + 1) aggF)] ((upd (upd (upd (fun _ => undef) 101 (.int .i64 0)) 102 undef) 103 undef)) (by kernel_rfl) (by kernel_rfl) (by kernel_rfl) (by simp only [CellsL, List.mem_cons, forall_eq_or_imp, List.not_mem_nil, false_implies, implies_true, and_true]; repeat (any_goals (apply And.intro)); all_goals (first | assumption | go_simp)) (fun q9 hq9 => by simp only [List.mem_cons, List.not_mem_nil, or_false] at hq9; rcases hq9 with rfl | rfl | rfl | rfl <;> rintro ((h | h) | (h | h)) <;> first | exact hKb h | exact hKD h | exact hKE h | (have h' : K < w.heap.size := hR _ h; omega)) (⟨⟨⟨c5.alt ((Alt.refl_ (fun _ => False) a5).drewN_ 1) (fun h => h) (fun _ _ h => h), fun i hi => ⟨by have := hR i hi; show i < a5.heap.size; omega, rfl⟩⟩, fun i hi => ⟨.inr (.inl hi), hi.elim (fun h => h ▸ c5.lt) (fun h => by have := hR i h; show i < a5.heap.size; omega)⟩⟩, ⟨⟨by show w.heap.size < a5.heap.size; omega, ⟨hr8.1, hr8.2.1, hr8.2.2.1, hr8.2.2.2, trivial⟩, hF⟩, fun i hi => ⟨.inr (.inr (.inl hi)), by have hi' : i = w.heap.size := hi; show i < a5.heap.size; omega⟩⟩, ⟨⟨by show w.heap.size + 1 < a5.heap.size; omega, ⟨hr9.1, hr9.2.1, hr9.2.2.1, hr9.2.2.2, trivial⟩, hF1⟩, fun i hi => ⟨.inr (.inr (.inr hi)), by have hi' : i = w.heap.size + 1 := hi; show i < a5.heap.size; omega⟩⟩, trivial⟩) ((fun d hd d' hd' hn c hc hc' => by simp only [List.mem_cons, List.not_mem_nil, or_false] at hd hd'; rcases hd with rfl | rfl | rfl <;> rcases hd' with rfl | rfl | rfl <;> first | exact hn rfl | exact apart_l hR hc hc' | exact apart_l hR hc' hc | exact apart_m hR hc hc' | exact apart_m hR hc' hc | (have h1 : c = w.heap.size := hc; have h2 : c = w.heap.size + 1 := hc'; omega) | (have h1 : c = w.heap.size + 1 := hc; have h2 : c = w.heap.size := hc'; omega))) ?_
      simp only [List.take_succ_cons, List.take_zero, List.drop_succ_cons, List.drop_zero, List.take_nil, List.drop_nil, List.take, List.drop]
      repeat (first
        | ((with_reducible refine mem_pure0 ?_ ?_ ?_)
           · exact rfl
           · exact rfl
           intro K hK
           apply Exists.intro
           refine ⟨fun w3 hw3 => ?_, ?_⟩
           · have hcs := hw3
             simp only [CellsL, List.mem_cons, forall_eq_or_imp, List.not_mem_nil, false_implies, implies_true, and_true] at hcs
             clear hw3
             go_simp
             first | done | exact ⟨rfl, rfl⟩ | rfl
           refine hK _ ?_
           clear hK K
           try simp only [Act.put, List.setIfInBounds_toArray, List.set_cons_zero, List.set_cons_succ])
        | ((with_reducible refine mem_skip ?_ ?_ ?_)
           · exact rfl
           · exact wanted_not rfl rfl rfl rfl
           simp only [Act.put, List.setIfInBounds_toArray, List.set_cons_zero, List.set_cons_succ])
        | ((with_reducible refine mem_pure ?_ ?_ ?_)
           · exact rfl
           · exact wanted_some rfl rfl rfl rfl
           intro K hK
           apply Exists.intro
           refine ⟨fun w3 hw3 => ?_, ?_⟩
           · have hcs := hw3
             simp only [CellsL, List.mem_cons, forall_eq_or_imp, List.not_mem_nil, false_implies, implies_true, and_true] at hcs
             clear hw3
             go_simp
             first | done | exact ⟨rfl, rfl⟩ | rfl
           refine hK _ ?_
           clear hK K
           try simp only [Act.put, List.setIfInBounds_toArray, List.set_cons_zero, List.set_cons_succ]))
      refine mem_cir 101 (w.heap.size + 2) R ((0 + 3000) + 2) (w.heap.size + 3) a5 (.int .i64 0) hRb (by rfl) (by rfl) (by omega) (by rfl) (by rfl) (by decide) (by rfl) (fun w3 hw3 hc3 hu3 hR3 => ?_) (fun x9 y9 A9 ng9 ca9 O9 no9 co9 => ?_)
      · go_simp
        refine (wasteful_any _ R _ _ hu3 (by omega) hR3 hRb).mono ?_
        rintro e w4 ⟨⟨x8, y8, gs8, os8⟩, A8, ca8, O8, co8, rfl, ho8, _, _, hng8, hno8, _, k8⟩
        exact retPost.mk_ ⟨gs8, os8, x8, y8, A8, ca8, O8, co8, rfl, ho8, hng8, hno8, k8⟩
      try simp only [Act.put, List.setIfInBounds_toArray, List.set_cons_zero, List.set_cons_succ]
      repeat (first
        | ((with_reducible refine mem_pure0 ?_ ?_ ?_)
           · exact rfl
           · exact rfl
           intro K hK
           apply Exists.intro
           refine ⟨fun w3 hw3 => ?_, ?_⟩
           · have hcs := hw3
             simp only [CellsL, List.mem_cons, forall_eq_or_imp, List.not_mem_nil, false_implies, implies_true, and_true] at hcs
             clear hw3
             go_simp
             first | done | exact ⟨rfl, rfl⟩ | rfl
           refine hK _ ?_
           clear hK K
           try simp only [Act.put, List.setIfInBounds_toArray, List.set_cons_zero, List.set_cons_succ])
        | ((with_reducible refine mem_skip ?_ ?_ ?_)
           · exact rfl
           · exact wanted_not rfl rfl rfl rfl
           simp only [Act.put, List.setIfInBounds_toArray, List.set_cons_zero, List.set_cons_succ])
        | ((with_reducible refine mem_pure ?_ ?_ ?_)
           · exact rfl
           · exact wanted_some rfl rfl rfl rfl
           intro K hK
           apply Exists.intro
           refine ⟨fun w3 hw3 => ?_, ?_⟩
           · have hcs := hw3
             simp only [CellsL, List.mem_cons, forall_eq_or_imp, List.not_mem_nil, false_implies, implies_true, and_true] at hcs
             clear hw3
             go_simp
             first | done | exact ⟨rfl, rfl⟩ | rfl
           refine hK _ ?_
           clear hK K
           try simp only [Act.put, List.setIfInBounds_toArray, List.set_cons_zero, List.set_cons_succ]))
      refine mem_bx 102 w.heap.size _ _ undef (by rfl) (by rfl) (by rfl) (by rfl) (by decide) (by rfl) (fun w3 hw3 hc3 hz3 hd3 hf3 => ?_) ?_
      · obtain ⟨d0, d1, d2, d3, _⟩ := hd3
        have f0 := hf3 0; have f1 := hf3 1; have f2 := hf3 2; have f3 := hf3 3
        go_simp
        exact bx_set4 ⟨d0, d1, d2, d3⟩ hf3 _ _ _ _ _ _ _ _
      try simp only [Act.put, List.setIfInBounds_toArray, List.set_cons_zero, List.set_cons_succ]
      repeat (first
        | ((with_reducible refine mem_pure0 ?_ ?_ ?_)
           · exact rfl
           · exact rfl
           intro K hK
           apply Exists.intro
           refine ⟨fun w3 hw3 => ?_, ?_⟩
           · have hcs := hw3
             simp only [CellsL, List.mem_cons, forall_eq_or_imp, List.not_mem_nil, false_implies, implies_true, and_true] at hcs
             clear hw3
             go_simp
             first | done | exact ⟨rfl, rfl⟩ | rfl
           refine hK _ ?_
           clear hK K
           try simp only [Act.put, List.setIfInBounds_toArray, List.set_cons_zero, List.set_cons_succ])
        | ((with_reducible refine mem_skip ?_ ?_ ?_)
           · exact rfl
           · exact wanted_not rfl rfl rfl rfl
           simp only [Act.put, List.setIfInBounds_toArray, List.set_cons_zero, List.set_cons_succ])
        | ((with_reducible refine mem_pure ?_ ?_ ?_)
           · exact rfl
           · exact wanted_some rfl rfl rfl rfl
           intro K hK
           apply Exists.intro
           refine ⟨fun w3 hw3 => ?_, ?_⟩
           · have hcs := hw3
             simp only [CellsL, List.mem_cons, forall_eq_or_imp, List.not_mem_nil, false_implies, implies_true, and_true] at hcs
             clear hw3
             go_simp
             first | done | exact ⟨rfl, rfl⟩ | rfl
           refine hK _ ?_
           clear hK K
           try simp only [Act.put, List.setIfInBounds_toArray, List.set_cons_zero, List.set_cons_succ]))
      refine mem_bxF 103 2 (w.heap.size + 1) _ _ undef _ (by rfl) (by rfl) (by rfl) (by rfl) (by rfl) (by rfl) (by rfl) (by rfl) (fun w3 hw3 hc3 hz3 hd3 hf3 => ?_) ?_
      · obtain ⟨d0, d1, d2, d3, _⟩ := hd3
        have f0 := hf3 0; have f1 := hf3 1; have f2 := hf3 2; have f3 := hf3 3
        go_simp
        exact bx_set4 ⟨d0, d1, d2, d3⟩ hf3 _ _ _ _ _ _ _ _
      try simp only [Act.put, List.setIfInBounds_toArray, List.set_cons_zero, List.set_cons_succ]
      refine wpSep_end ?_
      intro wy hwy hcy hfin hap
      obtain ⟨⟨gs9, os9, x7, y7, A7, ca7, O7, co7, he9, ho9, l9, l8⟩, hRy⟩ := hfin.1.1
      have hRy2 : ∀ i, R i → i < wy.heap.size ∧ wy.heap[i]? = a5.heap[i]? := hRy
      obtain ⟨_, ⟨q0, q1, q2, q3, _⟩, _⟩ := hfin.2.1.1
      have hq4 := hfin.2.2.1.1.2.1
      have he8 : (Value.agg #[.int .i64 x9, .int .i64 y9, .slice A9 ng9 ca9, .slice O9 no9 co9]) = .agg #[.int .i64 x7, .int .i64 y7, .slice A7 gs9.length ca7, .slice O7 os9.length co7] := he9
      have hq5 : CellsAt wy (w.heap.size + 1) 0 [.int .i64 x9, .int .i64 y9, .slice A9 ng9 ca9, .slice O9 no9 co9] := hq4
      simp only [Value.agg.injEq, Array.mk.injEq, List.cons.injEq, Value.int.injEq, Value.slice.injEq, true_and, and_true] at he8
      obtain ⟨rfl, rfl, ⟨rfl, rfl, rfl⟩, rfl, rfl, rfl⟩ := he8
      obtain ⟨n0, n1, n2, n3, _⟩ := hq5
      clear he9 hq4
      have k9 := alt_back (own := fun i => i = w.heap.size ∨ i = w.heap.size + 1) kw hwy (fun i hi => by rcases hi with h | h <;> omega) (fun i hi => (hRy2 i hi).2)
      have hSn : ∀ i, w.heap.size + 3 ≤ i → i < a5.heap.size → ¬ okB a5 (fun i => (i = w.heap.size + 2 ∨ R i) ∨ (i = w.heap.size ∨ i = w.heap.size + 1)) i := fun i h1 h2 hc => by
        rcases hc with h | (h | h) | (h | h)
        · omega
        · have h' : i = w.heap.size + 2 := h; omega
        · have := hR _ h; omega
        · have h' : i = w.heap.size := h; omega
        · have h' : i = w.heap.size + 1 := h; omega
      have ho4 : OwnC wy (w.heap.size + 3) wy.heap.size A gs.length ca O os.length co gs os := ⟨(hp5.ox.1.1.alt hwy (fun q hq => hSn q (hp5.ox.1.1.lt q hq).1 (hp5.ox.1.1.lt q hq).2.2)).now, (hp5.ox.1.2.1.alt hwy (fun q hq => hSn q (hp5.ox.1.2.1.lt q hq).1 (hp5.ox.1.2.1.lt q hq).2.2)).now, hp5.ox.1.2.2⟩
      clear hfin hap hcy hwy m0 m1 m2 m3 hr8 hr9 hF hF1
      go_wp2
      refine bodyPost_ret (v := .tuple #[.agg #[.int .i64 x, .int .i64 y, .slice A gs.length ca, .slice O os.length co], .agg #[.int .i64 x9, .int .i64 y9, .slice A9 gs9.length ca9, .slice O9 os9.length co9]]) (by simp [results, Try.results7, go_sem, q0, q1, q2, q3, n0, n1, n2, n3]) rfl ?_
      exact ⟨⟨x, y, gs, os⟩, ⟨x9, y9, gs9, os9⟩, A, ca, O, co, A9, ca9, O9, co9, rfl, ho4.lo_ (by omega), by simp; omega, by simp; omega, (ho9.lo_ (by omega)), by simp; omega, by simp; omega, k9.below_ (Nat.le_refl _) (fun i hi e => by omega)⟩
    | false =>
      have hq := hy5.bx; obtain ⟨j0, j1, j2, j3⟩ := hq
      dsimp only at j0 j1 j2 j3
      by_cases hn0 : hs.length = 0
      · have hn1 : ¬ (0 : Int) < hs.length := by omega
        have hn2 : ¬ 0 < hs.length := by omega
        clear hn0
        go_wp2_with fail
        have hr8 := hr0.alt q5 (by omega)
        have hr9 := hr1.alt q5 (by omega)
        have hF := Fz.alt hfz q5 (by omega) (by omega)
        have hF1 := Fz.alt hfz1 q5 (by omega) (by omega)
        have kw : Alt (fun i => i = w.heap.size + 2) w a5 := (Alt.of_new (S := fun i => i = w.heap.size + 2) hA1).trans_ q5 (fun _ _ h => h)
        have hq := hp5.bx; obtain ⟨m0, m1, m2, m3⟩ := hq
        dsimp only at m0 m1 m2 m3
        have hq := hy5.bx; obtain ⟨j0, j1, j2, j3⟩ := hq
        dsimp only at j0 j1 j2 j3
        go_wp2_with fail
        refine wp_region_mem (4) ((fun i => i = w.heap.size ∨ i = w.heap.size + 1)) [(⟨K, 0, none⟩, .int .i64 x), (⟨K, 1, none⟩, .int .i64 y), (⟨K, 2, none⟩, .slice A gs.length ca), (⟨K, 3, none⟩, .slice O os.length co), (⟨M, 0, none⟩, .int .i64 u), (⟨M, 1, none⟩, .int .i64 v), (⟨M, 2, none⟩, .slice B hs.length cb2), (⟨M, 3, none⟩, .slice P ps.length cp)] [(2, [102], [102]), (3, [103], [103])] [102, 103] [2, 3] [(102, Res.bx w.heap.size [.int .i64 0, .int .i64 0, .slice none 0 0, .slice none 0 0]), (103, Res.bx (w.heap.size + 1) [.int .i64 0, .int .i64 0, .slice none 0 0, .slice none 0 0]), (2, Res.bx w.heap.size [.int .i64 x, .int .i64 y, .slice A gs.length ca, .slice O os.length co]), (3, Res.bx (w.heap.size + 1) [.int .i64 u, .int .i64 v, .slice B hs.length cb2, .slice P ps.length cp])] ((upd (upd (fun _ => undef) 102 undef) 103 undef)) (by kernel_rfl) (by kernel_rfl) (by kernel_rfl) (by simp only [CellsL, List.mem_cons, forall_eq_or_imp, List.not_mem_nil, false_implies, implies_true, and_true]; repeat (any_goals (apply And.intro)); all_goals (first | assumption | go_simp)) (fun q9 hq9 => by simp only [List.mem_cons, List.not_mem_nil, or_false] at hq9; rcases hq9 with rfl | rfl | rfl | rfl | rfl | rfl | rfl | rfl <;> rintro (h | h) <;> first | exact hKD h | exact hKE h | exact hMD h | exact hME h) (⟨⟨⟨by show w.heap.size < a5.heap.size; omega, ⟨hr8.1, hr8.2.1, hr8.2.2.1, hr8.2.2.2, trivial⟩, hF⟩, fun i hi => ⟨.inr (.inl hi), by have hi' : i = w.heap.size := hi; show i < a5.heap.size; omega⟩⟩, ⟨⟨by show w.heap.size + 1 < a5.heap.size; omega, ⟨hr9.1, hr9.2.1, hr9.2.2.1, hr9.2.2.2, trivial⟩, hF1⟩, fun i hi => ⟨.inr (.inr hi), by have hi' : i = w.heap.size + 1 := hi; show i < a5.heap.size; omega⟩⟩, trivial⟩) ((fun d hd d' hd' hn c hc hc' => by simp only [List.mem_cons, List.not_mem_nil, or_false] at hd hd'; rcases hd with rfl | rfl <;> rcases hd' with rfl | rfl <;> first | exact hn rfl | (have h1 : c = w.heap.size := hc; have h2 : c = w.heap.size + 1 := hc'; omega) | (have h1 : c = w.heap.size + 1 := hc; have h2 : c = w.heap.size := hc'; omega))) ?_
        simp only [List.take_succ_cons, List.take_zero, List.drop_succ_cons, List.drop_zero, List.take_nil, List.drop_nil, List.take, List.drop]
        repeat (first
          | ((with_reducible refine mem_pure0 ?_ ?_ ?_)
             · exact rfl
             · exact rfl
             intro K hK
             apply Exists.intro
             refine ⟨fun w3 hw3 => ?_, ?_⟩
             · have hcs := hw3
               simp only [CellsL, List.mem_cons, forall_eq_or_imp, List.not_mem_nil, false_implies, implies_true, and_true] at hcs
               clear hw3
               go_simp
               first | done | exact ⟨rfl, rfl⟩ | rfl
             refine hK _ ?_
             clear hK K
             try simp only [Act.put, List.setIfInBounds_toArray, List.set_cons_zero, List.set_cons_succ])
          | ((with_reducible refine mem_skip ?_ ?_ ?_)
             · exact rfl
             · exact wanted_not rfl rfl rfl rfl
             simp only [Act.put, List.setIfInBounds_toArray, List.set_cons_zero, List.set_cons_succ])
          | ((with_reducible refine mem_pure ?_ ?_ ?_)
             · exact rfl
             · exact wanted_some rfl rfl rfl rfl
             intro K hK
             apply Exists.intro
             refine ⟨fun w3 hw3 => ?_, ?_⟩
             · have hcs := hw3
               simp only [CellsL, List.mem_cons, forall_eq_or_imp, List.not_mem_nil, false_implies, implies_true, and_true] at hcs
               clear hw3
               go_simp
               first | done | exact ⟨rfl, rfl⟩ | rfl
             refine hK _ ?_
             clear hK K
             try simp only [Act.put, List.setIfInBounds_toArray, List.set_cons_zero, List.set_cons_succ]))
        refine mem_bx 102 w.heap.size _ _ undef (by rfl) (by rfl) (by rfl) (by rfl) (by decide) (by rfl) (fun w3 hw3 hc3 hz3 hd3 hf3 => ?_) ?_
        · obtain ⟨d0, d1, d2, d3, _⟩ := hd3
          have f0 := hf3 0; have f1 := hf3 1; have f2 := hf3 2; have f3 := hf3 3
          go_simp
          exact bx_set4 ⟨d0, d1, d2, d3⟩ hf3 _ _ _ _ _ _ _ _
        try simp only [Act.put, List.setIfInBounds_toArray, List.set_cons_zero, List.set_cons_succ]
        repeat (first
          | ((with_reducible refine mem_pure0 ?_ ?_ ?_)
             · exact rfl
             · exact rfl
             intro K hK
             apply Exists.intro
             refine ⟨fun w3 hw3 => ?_, ?_⟩
             · have hcs := hw3
               simp only [CellsL, List.mem_cons, forall_eq_or_imp, List.not_mem_nil, false_implies, implies_true, and_true] at hcs
               clear hw3
               go_simp
               first | done | exact ⟨rfl, rfl⟩ | rfl
             refine hK _ ?_
             clear hK K
             try simp only [Act.put, List.setIfInBounds_toArray, List.set_cons_zero, List.set_cons_succ])
          | ((with_reducible refine mem_skip ?_ ?_ ?_)
             · exact rfl
             · exact wanted_not rfl rfl rfl rfl
             simp only [Act.put, List.setIfInBounds_toArray, List.set_cons_zero, List.set_cons_succ])
          | ((with_reducible refine mem_pure ?_ ?_ ?_)
             · exact rfl
             · exact wanted_some rfl rfl rfl rfl
             intro K hK
             apply Exists.intro
             refine ⟨fun w3 hw3 => ?_, ?_⟩
             · have hcs := hw3
               simp only [CellsL, List.mem_cons, forall_eq_or_imp, List.not_mem_nil, false_implies, implies_true, and_true] at hcs
               clear hw3
               go_simp
               first | done | exact ⟨rfl, rfl⟩ | rfl
             refine hK _ ?_
             clear hK K
             try simp only [Act.put, List.setIfInBounds_toArray, List.set_cons_zero, List.set_cons_succ]))
        refine mem_bx 103 (w.heap.size + 1) _ _ undef (by rfl) (by rfl) (by rfl) (by rfl) (by decide) (by rfl) (fun w3 hw3 hc3 hz3 hd3 hf3 => ?_) ?_
        · obtain ⟨d0, d1, d2, d3, _⟩ := hd3
          have f0 := hf3 0; have f1 := hf3 1; have f2 := hf3 2; have f3 := hf3 3
          go_simp
          exact bx_set4 ⟨d0, d1, d2, d3⟩ hf3 _ _ _ _ _ _ _ _
        try simp only [Act.put, List.setIfInBounds_toArray, List.set_cons_zero, List.set_cons_succ]
        refine wpSep_end ?_
        intro wy hwy0 hcy hfin hap
        obtain ⟨_, ⟨q0, q1, q2, q3, _⟩, _⟩ := hfin.1.1
        obtain ⟨_, ⟨n0, n1, n2, n3, _⟩, _⟩ := hfin.2.1.1
        have hwy : Alt (okB a5 (fun i => (i = w.heap.size + 2 ∨ R i) ∨ (i = w.heap.size ∨ i = w.heap.size + 1))) a5 wy := hwy0.mono_ (fun i _ hi => hi.elim .inl (fun h => .inr (.inr h)))
        have hRy2 : ∀ i, R i → i < wy.heap.size ∧ wy.heap[i]? = a5.heap[i]? := fun i hi => ⟨by have := hR i hi; have := hwy.size; omega, hwy0.block i (by have := hR i hi; omega) (fun hc => by have := hR i hi; rcases hc with h | h | h <;> first | omega | (have h' : i = w.heap.size := h; omega) | (have h' : i = w.heap.size + 1 := h; omega))⟩
        have k9 := alt_back (own := fun i => i = w.heap.size ∨ i = w.heap.size + 1) kw hwy (fun i hi => by rcases hi with h | h <;> omega) (fun i hi => (hRy2 i hi).2)
        have hSn : ∀ i, w.heap.size + 3 ≤ i → i < a5.heap.size → ¬ okB a5 (fun i => (i = w.heap.size + 2 ∨ R i) ∨ (i = w.heap.size ∨ i = w.heap.size + 1)) i := fun i h1 h2 hc => by
          rcases hc with h | (h | h) | (h | h)
          · omega
          · have h' : i = w.heap.size + 2 := h; omega
          · have := hR _ h; omega
          · have h' : i = w.heap.size := h; omega
          · have h' : i = w.heap.size + 1 := h; omega
        have ho4 : OwnC wy (w.heap.size + 3) wy.heap.size A gs.length ca O os.length co gs os := ⟨(hp5.ox.1.1.alt hwy (fun q hq => hSn q (hp5.ox.1.1.lt q hq).1 (hp5.ox.1.1.lt q hq).2.2)).now, (hp5.ox.1.2.1.alt hwy (fun q hq => hSn q (hp5.ox.1.2.1.lt q hq).1 (hp5.ox.1.2.1.lt q hq).2.2)).now, hp5.ox.1.2.2⟩
        have ho5 : OwnC wy (w.heap.size + 3) wy.heap.size B hs.length cb2 P ps.length cp hs ps := ⟨((hy5.ox.1.1.lo_ (by omega)).alt hwy (fun q hq => hSn q (by have := (hy5.ox.1.1.lt q hq).1; omega) (hy5.ox.1.1.lt q hq).2.2)).now, ((hy5.ox.1.2.1.lo_ (by omega)).alt hwy (fun q hq => hSn q (by have := (hy5.ox.1.2.1.lt q hq).1; omega) (hy5.ox.1.2.1.lt q hq).2.2)).now, hy5.ox.1.2.2⟩
        clear hfin hap hcy hwy m0 m1 m2 m3 hr8 hr9 hF hF1
        go_wp2
        refine bodyPost_ret (v := .tuple #[.agg #[.int .i64 x, .int .i64 y, .slice A gs.length ca, .slice O os.length co], .agg #[.int .i64 u, .int .i64 v, .slice B hs.length cb2, .slice P ps.length cp]]) (by simp [results, Try.results7, go_sem, q0, q1, q2, q3, n0, n1, n2, n3]) rfl ?_
        exact ⟨⟨x, y, gs, os⟩, ⟨u, v, hs, ps⟩, A, ca, O, co, B, cb2, P, cp, rfl, ho4.lo_ (by omega), by simp; omega, by simp; omega, (ho5.lo_ (by omega)), by simp; omega, by simp; omega, k9.below_ (Nat.le_refl _) (fun i hi e => by omega)⟩
      · have hn1 : (0 : Int) < hs.length := by omega
        have hn2 : 0 < hs.length := by omega
        go_wp2_with fail
        refine (one_any 3 _ R _ _ c5 (by omega) (by omega)).mono ?_
        rintro e a6 ⟨t6, rfl, c6, k6, z6⟩
        have hx6 := hx5
        have hp6 := hp5.alt k6 hKb hgb
        have hy6 := hy5.alt k6 hMb (fun g hg => by omega)
        have q6 := q5.trans_ k6 (fun _ _ h => h)
        have hs6 : M + 1 ≤ a6.heap.size := by omega
        clear hp5 hy5 q5 c5 k6 z6 j0 j1 j2 j3
        cases t6 with
        | false =>
          have hq := hy6.bx; obtain ⟨j0, j1, j2, j3⟩ := hq
          dsimp only at j0 j1 j2 j3
          go_wp2_with fail
          have hr8 := hr0.alt q6 (by omega)
          have hr9 := hr1.alt q6 (by omega)
          have hF := Fz.alt hfz q6 (by omega) (by omega)
          have hF1 := Fz.alt hfz1 q6 (by omega) (by omega)
          have kw : Alt (fun i => i = w.heap.size + 2) w a6 := (Alt.of_new (S := fun i => i = w.heap.size + 2) hA1).trans_ q6 (fun _ _ h => h)
          have hq := hp6.bx; obtain ⟨m0, m1, m2, m3⟩ := hq
          dsimp only at m0 m1 m2 m3
          have hq := hy6.bx; obtain ⟨j0, j1, j2, j3⟩ := hq
          dsimp only at j0 j1 j2 j3
          go_wp2_with fail
          refine wp_region_mem (4) ((fun i => i = w.heap.size ∨ i = w.heap.size + 1)) [(⟨K, 0, none⟩, .int .i64 x), (⟨K, 1, none⟩, .int .i64 y), (⟨K, 2, none⟩, .slice A gs.length ca), (⟨K, 3, none⟩, .slice O os.length co), (⟨M, 0, none⟩, .int .i64 u), (⟨M, 1, none⟩, .int .i64 v), (⟨M, 2, none⟩, .slice B hs.length cb2), (⟨M, 3, none⟩, .slice P ps.length cp)] [(2, [102], [102]), (3, [103], [103])] [102, 103] [2, 3] [(102, Res.bx w.heap.size [.int .i64 0, .int .i64 0, .slice none 0 0, .slice none 0 0]), (103, Res.bx (w.heap.size + 1) [.int .i64 0, .int .i64 0, .slice none 0 0, .slice none 0 0]), (2, Res.bx w.heap.size [.int .i64 x, .int .i64 y, .slice A gs.length ca, .slice O os.length co]), (3, Res.bx (w.heap.size + 1) [.int .i64 u, .int .i64 v, .slice B hs.length cb2, .slice P ps.length cp])] ((upd (upd (fun _ => undef) 102 undef) 103 undef)) (by kernel_rfl) (by kernel_rfl) (by kernel_rfl) (by simp only [CellsL, List.mem_cons, forall_eq_or_imp, List.not_mem_nil, false_implies, implies_true, and_true]; repeat (any_goals (apply And.intro)); all_goals (first | assumption | go_simp)) (fun q9 hq9 => by simp only [List.mem_cons, List.not_mem_nil, or_false] at hq9; rcases hq9 with rfl | rfl | rfl | rfl | rfl | rfl | rfl | rfl <;> rintro (h | h) <;> first | exact hKD h | exact hKE h | exact hMD h | exact hME h) (⟨⟨⟨by show w.heap.size < a6.heap.size; omega, ⟨hr8.1, hr8.2.1, hr8.2.2.1, hr8.2.2.2, trivial⟩, hF⟩, fun i hi => ⟨.inr (.inl hi), by have hi' : i = w.heap.size := hi; show i < a6.heap.size; omega⟩⟩, ⟨⟨by show w.heap.size + 1 < a6.heap.size; omega, ⟨hr9.1, hr9.2.1, hr9.2.2.1, hr9.2.2.2, trivial⟩, hF1⟩, fun i hi => ⟨.inr (.inr hi), by have hi' : i = w.heap.size + 1 := hi; show i < a6.heap.size; omega⟩⟩, trivial⟩) ((fun d hd d' hd' hn c hc hc' => by simp only [List.mem_cons, List.not_mem_nil, or_false] at hd hd'; rcases hd with rfl | rfl <;> rcases hd' with rfl | rfl <;> first | exact hn rfl | (have h1 : c = w.heap.size := hc; have h2 : c = w.heap.size + 1 := hc'; omega) | (have h1 : c = w.heap.size + 1 := hc; have h2 : c = w.heap.size := hc'; omega))) ?_
          simp only [List.take_succ_cons, List.take_zero, List.drop_succ_cons, List.drop_zero, List.take_nil, List.drop_nil, List.take, List.drop]
          repeat (first
            | ((with_reducible refine mem_pure0 ?_ ?_ ?_)
               · exact rfl
               · exact rfl
               intro K hK
               apply Exists.intro
               refine ⟨fun w3 hw3 => ?_, ?_⟩
               · have hcs := hw3
                 simp only [CellsL, List.mem_cons, forall_eq_or_imp, List.not_mem_nil, false_implies, implies_true, and_true] at hcs
                 clear hw3
                 go_simp
                 first | done | exact ⟨rfl, rfl⟩ | rfl
               refine hK _ ?_
               clear hK K
               try simp only [Act.put, List.setIfInBounds_toArray, List.set_cons_zero, List.set_cons_succ])
            | ((with_reducible refine mem_skip ?_ ?_ ?_)
               · exact rfl
               · exact wanted_not rfl rfl rfl rfl
               simp only [Act.put, List.setIfInBounds_toArray, List.set_cons_zero, List.set_cons_succ])
            | ((with_reducible refine mem_pure ?_ ?_ ?_)
               · exact rfl
               · exact wanted_some rfl rfl rfl rfl
               intro K hK
               apply Exists.intro
               refine ⟨fun w3 hw3 => ?_, ?_⟩
               · have hcs := hw3
                 simp only [CellsL, List.mem_cons, forall_eq_or_imp, List.not_mem_nil, false_implies, implies_true, and_true] at hcs
                 clear hw3
                 go_simp
                 first | done | exact ⟨rfl, rfl⟩ | rfl
               refine hK _ ?_
               clear hK K
               try simp only [Act.put, List.setIfInBounds_toArray, List.set_cons_zero, List.set_cons_succ]))
          refine mem_bx 102 w.heap.size _ _ undef (by rfl) (by rfl) (by rfl) (by rfl) (by decide) (by rfl) (fun w3 hw3 hc3 hz3 hd3 hf3 => ?_) ?_
          · obtain ⟨d0, d1, d2, d3, _⟩ := hd3
            have f0 := hf3 0; have f1 := hf3 1; have f2 := hf3 2; have f3 := hf3 3
            go_simp
            exact bx_set4 ⟨d0, d1, d2, d3⟩ hf3 _ _ _ _ _ _ _ _
          try simp only [Act.put, List.setIfInBounds_toArray, List.set_cons_zero, List.set_cons_succ]
          repeat (first
            | ((with_reducible refine mem_pure0 ?_ ?_ ?_)
               · exact rfl
               · exact rfl
               intro K hK
               apply Exists.intro
               refine ⟨fun w3 hw3 => ?_, ?_⟩
               · have hcs := hw3
                 simp only [CellsL, List.mem_cons, forall_eq_or_imp, List.not_mem_nil, false_implies, implies_true, and_true] at hcs
                 clear hw3
                 go_simp
                 first | done | exact ⟨rfl, rfl⟩ | rfl
               refine hK _ ?_
               clear hK K
               try simp only [Act.put, List.setIfInBounds_toArray, List.set_cons_zero, List.set_cons_succ])
            | ((with_reducible refine mem_skip ?_ ?_ ?_)
               · exact rfl
               · exact wanted_not rfl rfl rfl rfl
               simp only [Act.put, List.setIfInBounds_toArray, List.set_cons_zero, List.set_cons_succ])
            | ((with_reducible refine mem_pure ?_ ?_ ?_)
               · exact rfl
               · exact wanted_some rfl rfl rfl rfl
               intro K hK
               apply Exists.intro
               refine ⟨fun w3 hw3 => ?_, ?_⟩
               · have hcs := hw3
                 simp only [CellsL, List.mem_cons, forall_eq_or_imp, List.not_mem_nil, false_implies, implies_true, and_true] at hcs
                 clear hw3
                 go_simp
                 first | done | exact ⟨rfl, rfl⟩ | rfl
               refine hK _ ?_
               clear hK K
               try simp only [Act.put, List.setIfInBounds_toArray, List.set_cons_zero, List.set_cons_succ]))
          refine mem_bx 103 (w.heap.size + 1) _ _ undef (by rfl) (by rfl) (by rfl) (by rfl) (by decide) (by rfl) (fun w3 hw3 hc3 hz3 hd3 hf3 => ?_) ?_
          · obtain ⟨d0, d1, d2, d3, _⟩ := hd3
            have f0 := hf3 0; have f1 := hf3 1; have f2 := hf3 2; have f3 := hf3 3
            go_simp
            exact bx_set4 ⟨d0, d1, d2, d3⟩ hf3 _ _ _ _ _ _ _ _
          try simp only [Act.put, List.setIfInBounds_toArray, List.set_cons_zero, List.set_cons_succ]
          refine wpSep_end ?_
          intro wy hwy0 hcy hfin hap
          obtain ⟨_, ⟨q0, q1, q2, q3, _⟩, _⟩ := hfin.1.1
          obtain ⟨_, ⟨n0, n1, n2, n3, _⟩, _⟩ := hfin.2.1.1
          have hwy : Alt (okB a6 (fun i => (i = w.heap.size + 2 ∨ R i) ∨ (i = w.heap.size ∨ i = w.heap.size + 1))) a6 wy := hwy0.mono_ (fun i _ hi => hi.elim .inl (fun h => .inr (.inr h)))
          have hRy2 : ∀ i, R i → i < wy.heap.size ∧ wy.heap[i]? = a6.heap[i]? := fun i hi => ⟨by have := hR i hi; have := hwy.size; omega, hwy0.block i (by have := hR i hi; omega) (fun hc => by have := hR i hi; rcases hc with h | h | h <;> first | omega | (have h' : i = w.heap.size := h; omega) | (have h' : i = w.heap.size + 1 := h; omega))⟩
          have k9 := alt_back (own := fun i => i = w.heap.size ∨ i = w.heap.size + 1) kw hwy (fun i hi => by rcases hi with h | h <;> omega) (fun i hi => (hRy2 i hi).2)
          have hSn : ∀ i, w.heap.size + 3 ≤ i → i < a6.heap.size → ¬ okB a6 (fun i => (i = w.heap.size + 2 ∨ R i) ∨ (i = w.heap.size ∨ i = w.heap.size + 1)) i := fun i h1 h2 hc => by
            rcases hc with h | (h | h) | (h | h)
            · omega
            · have h' : i = w.heap.size + 2 := h; omega
            · have := hR _ h; omega
            · have h' : i = w.heap.size := h; omega
            · have h' : i = w.heap.size + 1 := h; omega
          have ho4 : OwnC wy (w.heap.size + 3) wy.heap.size A gs.length ca O os.length co gs os := ⟨(hp6.ox.1.1.alt hwy (fun q hq => hSn q (hp6.ox.1.1.lt q hq).1 (hp6.ox.1.1.lt q hq).2.2)).now, (hp6.ox.1.2.1.alt hwy (fun q hq => hSn q (hp6.ox.1.2.1.lt q hq).1 (hp6.ox.1.2.1.lt q hq).2.2)).now, hp6.ox.1.2.2⟩
          have ho5 : OwnC wy (w.heap.size + 3) wy.heap.size B hs.length cb2 P ps.length cp hs ps := ⟨((hy6.ox.1.1.lo_ (by omega)).alt hwy (fun q hq => hSn q (by have := (hy6.ox.1.1.lt q hq).1; omega) (hy6.ox.1.1.lt q hq).2.2)).now, ((hy6.ox.1.2.1.lo_ (by omega)).alt hwy (fun q hq => hSn q (by have := (hy6.ox.1.2.1.lt q hq).1; omega) (hy6.ox.1.2.1.lt q hq).2.2)).now, hy6.ox.1.2.2⟩
          clear hfin hap hcy hwy m0 m1 m2 m3 hr8 hr9 hF hF1
          go_wp2
          refine bodyPost_ret (v := .tuple #[.agg #[.int .i64 x, .int .i64 y, .slice A gs.length ca, .slice O os.length co], .agg #[.int .i64 u, .int .i64 v, .slice B hs.length cb2, .slice P ps.length cp]]) (by simp [results, Try.results7, go_sem, q0, q1, q2, q3, n0, n1, n2, n3]) rfl ?_
          exact ⟨⟨x, y, gs, os⟩, ⟨u, v, hs, ps⟩, A, ca, O, co, B, cb2, P, cp, rfl, ho4.lo_ (by omega), by simp; omega, by simp; omega, (ho5.lo_ (by omega)), by simp; omega, by simp; omega, k9.below_ (Nat.le_refl _) (fun i hi e => by omega)⟩
        | true =>
          obtain ⟨g, rfl⟩ : ∃ g, B = some ⟨g, 0, none⟩ := by
            obtain ⟨g, cap, hv9, _⟩ := hy6.ox.1.1.1.form hn2
            simp only [Value.slice.injEq] at hv9
            exact ⟨g, hv9.1⟩
          have hgl := hy6.ox.1.1.lt g rfl
          have hgM : g ≠ M := fun e => hy6.ox.2.1 (by rw [e]; rfl)
          have hgK : g ≠ K := by omega
          have hq := hy6.bx; obtain ⟨j0, j1, j2, j3⟩ := hq
          dsimp only at j0 j1 j2 j3
          go_wp2_with fail
          go_wp2_with fail
          refine wp_region_mem (5) ((fun i => i = w.heap.size + 2 ∨ R i)) [(⟨M, 0, none⟩, .int .i64 u), (⟨M, 1, none⟩, .int .i64 v), (⟨M, 2, none⟩, .slice (some ⟨g, 0, none⟩) hs.length cb2), (⟨M, 3, none⟩, .slice P ps.length cp)] [(4, [101], [101])] [101] [4] [(101, Res.curI a6 (w.heap.size + 2) R ((0 + 3000) + 2 + 2)), (4, Res.curN a6 (w.heap.size + 2) R ((0 + 3000) + 2 + 2 + 2) (hs.length : Int))] ((upd (fun _ => undef) 101 (.int .i64 0))) (by kernel_rfl) (by kernel_rfl) (by kernel_rfl) (by simp only [CellsL, List.mem_cons, forall_eq_or_imp, List.not_mem_nil, false_implies, implies_true, and_true]; repeat (any_goals (apply And.intro)); all_goals (first | assumption | go_simp)) (fun q9 hq9 => by simp only [List.mem_cons, List.not_mem_nil, or_false] at hq9; rcases hq9 with rfl | rfl | rfl | rfl <;> rintro (h | h) <;> first | exact hMb h | (have h' : M < w.heap.size := hR _ h; omega)) (⟨⟨⟨c6.alt ((Alt.refl_ (fun _ => False) a6).drewN_ 1) (fun h => h) (fun _ _ h => h), fun i hi => ⟨by have := hR i hi; show i < a6.heap.size; omega, rfl⟩⟩, fun i hi => ⟨.inr hi, hi.elim (fun h => h ▸ c6.lt) (fun h => by have := hR i h; show i < a6.heap.size; omega)⟩⟩, trivial⟩) (only_apart) ?_
          simp only [List.take_succ_cons, List.take_zero, List.drop_succ_cons, List.drop_zero, List.take_nil, List.drop_nil, List.take, List.drop]
          repeat (first
            | ((with_reducible refine mem_pure0 ?_ ?_ ?_)
               · exact rfl
               · exact rfl
               intro K hK
               apply Exists.intro
               refine ⟨fun w3 hw3 => ?_, ?_⟩
               · have hcs := hw3
                 simp only [CellsL, List.mem_cons, forall_eq_or_imp, List.not_mem_nil, false_implies, implies_true, and_true] at hcs
                 clear hw3
                 go_simp
                 first | done | exact ⟨rfl, rfl⟩ | rfl
               refine hK _ ?_
               clear hK K
               try simp only [Act.put, List.setIfInBounds_toArray, List.set_cons_zero, List.set_cons_succ])
            | ((with_reducible refine mem_skip ?_ ?_ ?_)
               · exact rfl
               · exact wanted_not rfl rfl rfl rfl
               simp only [Act.put, List.setIfInBounds_toArray, List.set_cons_zero, List.set_cons_succ])
            | ((with_reducible refine mem_pure ?_ ?_ ?_)
               · exact rfl
               · exact wanted_some rfl rfl rfl rfl
               intro K hK
               apply Exists.intro
               refine ⟨fun w3 hw3 => ?_, ?_⟩
               · have hcs := hw3
                 simp only [CellsL, List.mem_cons, forall_eq_or_imp, List.not_mem_nil, false_implies, implies_true, and_true] at hcs
                 clear hw3
                 go_simp
                 first | done | exact ⟨rfl, rfl⟩ | rfl
               refine hK _ ?_
               clear hK K
               try simp only [Act.put, List.setIfInBounds_toArray, List.set_cons_zero, List.set_cons_succ]))
          refine mem_cur 101 (w.heap.size + 2) R ((0 + 3000) + 2 + 2) ((0 + 3000) + 2 + 2 + 2) Qi (Qn (hs.length : Int)) Qi.one (Qn.one _) a6 (.int .i64 0) hRb (by rfl) (by rfl) (by rfl) (by rfl) (by decide) (by rfl) (fun w3 hw3 hc3 hp3 hu3 => ?_) (fun v9 hv9 => ?_)
          · go_simp
            refine (pick_any _ _ R _ _ hu3 (by omega) (by omega)).mono ?_
            rintro e w4 ⟨x, hx, hx2, rfl, c4, k4, z4⟩
            exact retPost.mk_ ⟨⟨x, hx, rfl⟩, c4, k4⟩
          obtain ⟨j, hj, rfl⟩ := hv9
          have hjn : j < hs.length := by omega
          try simp only [Act.put, List.setIfInBounds_toArray, List.set_cons_zero, List.set_cons_succ]
          refine wpSep_end ?_
          intro wz hwz hcz hfin hap
          have hC4 : Cur wz (w.heap.size + 2) R ((0 + 3000) + 2 + 2 + 2) ∧ ∀ i, R i → i < wz.heap.size ∧ wz.heap[i]? = a6.heap[i]? := hfin.1.1
          have k7 := alt_back (own := fun _ => False) q6 (hwz.mono_ (fun i _ hi => hi.elim .inl (fun h => .inr (.inl h)))) (fun i hi => hi.elim) (fun i hi => (hC4.2 i hi).2)
          have hSz : ∀ i, w.heap.size + 3 ≤ i → i < a6.heap.size → ¬ okB a6 (fun i => i = w.heap.size + 2 ∨ R i) i := fun i h1 h2 hc => by
            rcases hc with h | h | h
            · omega
            · have h' : i = w.heap.size + 2 := h; omega
            · have := hR _ h; omega
          have hp7 : PX wz (w.heap.size + 3) K ⟨x, y, gs, os⟩ A ca O co := ⟨hp6.bx.alt hwz (hSz K (by omega) (by omega)), hp6.fz.alt hwz hp6.lt (hSz K (by omega) (by omega)), ⟨⟨(hp6.ox.1.1.alt hwz (fun q hq => hSz q (by have := (hp6.ox.1.1.lt q hq).1; omega) (hp6.ox.1.1.lt q hq).2.2)).now, (hp6.ox.1.2.1.alt hwz (fun q hq => hSz q (by have := (hp6.ox.1.2.1.lt q hq).1; omega) (hp6.ox.1.2.1.lt q hq).2.2)).now, hp6.ox.1.2.2⟩, hp6.ox.2⟩⟩
          have hy7 : PX wz (K + 1) M ⟨u, v, hs, ps⟩ (some ⟨g, 0, none⟩) cb2 P cp := ⟨hy6.bx.alt hwz (hSz M (by omega) (by omega)), hy6.fz.alt hwz hy6.lt (hSz M (by omega) (by omega)), ⟨⟨(hy6.ox.1.1.alt hwz (fun q hq => hSz q (by have := (hy6.ox.1.1.lt q hq).1; omega) (hy6.ox.1.1.lt q hq).2.2)).now, (hy6.ox.1.2.1.alt hwz (fun q hq => hSz q (by have := (hy6.ox.1.2.1.lt q hq).1; omega) (hy6.ox.1.2.1.lt q hq).2.2)).now, hy6.ox.1.2.2⟩, hy6.ox.2⟩⟩
          have hs7 : a6.heap.size ≤ wz.heap.size := hwz.size
          have hy8 := hy7.storeG (j * 3) 0 _ (OwnG.storeK hy7.ox.1.1 (k := j) hjn 0)
          have kg : Alt (fun i => i = g) wz (wz.setCell ⟨g, j * 3, none⟩ (.int .i64 0)) := (Alt.refl_ (fun i => i = g) wz).set_ ⟨g, j * 3, none⟩ (.int .i64 0) (fun _ => rfl)
          have k8 := k7.set_ ⟨g, j * 3, none⟩ (.int .i64 0) (fun h => absurd h (by show ¬ g < _; rw [hs0]; omega))
          have hp8 : PX (wz.setCell ⟨g, j * 3, none⟩ (.int .i64 0)) (w.heap.size + 3) K ⟨x, y, gs, os⟩ A ca O co := ⟨hp7.bx.alt kg (by omega), hp7.fz.alt kg hp7.lt (by omega), ⟨⟨(hp7.ox.1.1.alt kg (fun q hq e => by have := hx6.1 q hq; omega)).now, (hp7.ox.1.2.1.alt kg (fun q hq e => by have := hx6.2 q hq; omega)).now, hp7.ox.1.2.2⟩, hp7.ox.2⟩⟩
          have hfg := hy7.ox.1.1.1.frozenAt (j * 3)
          have hcg : ∃ u9, wz.cell? ⟨g, j * 3, none⟩ = some u9 := by
            obtain ⟨b9, o9, h1, h2, h3⟩ := hy7.ox.1.1.reads.2 hn2
            simp only [Option.some.injEq, Addr.mk.injEq, and_true] at h1
            obtain ⟨rfl, rfl⟩ := h1
            have h4 := (h3 j hjn)
            simp only [Nat.zero_add] at h4
            exact ⟨_, h4.1⟩
          obtain ⟨u9, hcg⟩ := hcg
          have hs8 : M + 1 ≤ (wz.setCell ⟨g, j * 3, none⟩ (.int .i64 0)).heap.size := by simp; omega
          have hgs9 : (hs.set j ⟨0, (gg hs j).a, (gg hs j).b⟩).length = hs.length := by simp
          clear hfin hap hcz hwz hp6 hy6 q6 c6 k7 hp7 j0 j1 j2 j3
          have hq := hy7.bx; obtain ⟨j0, j1, j2, j3⟩ := hq
          dsimp only at j0 j1 j2 j3
          go_wp2_with fail
          clear j0 j1 j2 j3 hy7 hcg hfg
          generalize hgs : hs.set j _ = hs2 at hy8 hgs9
          rw [← hgs9]
          have hmg2 : hs2.length ≤ 300 := by omega
          clear hgs hgs9 hmg hn1 hn2 hjn hj
          generalize wz.setCell ⟨g, j * 3, none⟩ (.int .i64 0) = a8 at *
          have hr8 := hr0.alt k8 (by omega)
          have hr9 := hr1.alt k8 (by omega)
          have hF := Fz.alt hfz k8 (by omega) (by omega)
          have hF1 := Fz.alt hfz1 k8 (by omega) (by omega)
          have kw : Alt (fun i => i = w.heap.size + 2) w a8 := (Alt.of_new (S := fun i => i = w.heap.size + 2) hA1).trans_ k8 (fun _ _ h => h)
          have hq := hp8.bx; obtain ⟨m0, m1, m2, m3⟩ := hq
          dsimp only at m0 m1 m2 m3
          have hq := hy8.bx; obtain ⟨j0, j1, j2, j3⟩ := hq
          dsimp only at j0 j1 j2 j3
          go_wp2_with fail
          refine wp_region_mem (4) ((fun i => i = w.heap.size ∨ i = w.heap.size + 1)) [(⟨K, 0, none⟩, .int .i64 x), (⟨K, 1, none⟩, .int .i64 y), (⟨K, 2, none⟩, .slice A gs.length ca), (⟨K, 3, none⟩, .slice O os.length co), (⟨M, 0, none⟩, .int .i64 u), (⟨M, 1, none⟩, .int .i64 v), (⟨M, 2, none⟩, .slice (some ⟨g, 0, none⟩) hs2.length cb2), (⟨M, 3, none⟩, .slice P ps.length cp)] [(2, [102], [102]), (3, [103], [103])] [102, 103] [2, 3] [(102, Res.bx w.heap.size [.int .i64 0, .int .i64 0, .slice none 0 0, .slice none 0 0]), (103, Res.bx (w.heap.size + 1) [.int .i64 0, .int .i64 0, .slice none 0 0, .slice none 0 0]), (2, Res.bx w.heap.size [.int .i64 x, .int .i64 y, .slice A gs.length ca, .slice O os.length co]), (3, Res.bx (w.heap.size + 1) [.int .i64 u, .int .i64 v, .slice (some ⟨g, 0, none⟩) hs2.length cb2, .slice P ps.length cp])] ((upd (upd (fun _ => undef) 102 undef) 103 undef)) (by kernel_rfl) (by kernel_rfl) (by kernel_rfl) (by simp only [CellsL, List.mem_cons, forall_eq_or_imp, List.not_mem_nil, false_implies, implies_true, and_true]; repeat (any_goals (apply And.intro)); all_goals (first | assumption | go_simp)) (fun q9 hq9 => by simp only [List.mem_cons, List.not_mem_nil, or_false] at hq9; rcases hq9 with rfl | rfl | rfl | rfl | rfl | rfl | rfl | rfl <;> rintro (h | h) <;> first | exact hKD h | exact hKE h | exact hMD h | exact hME h) (⟨⟨⟨by show w.heap.size < a8.heap.size; omega, ⟨hr8.1, hr8.2.1, hr8.2.2.1, hr8.2.2.2, trivial⟩, hF⟩, fun i hi => ⟨.inr (.inl hi), by have hi' : i = w.heap.size := hi; show i < a8.heap.size; omega⟩⟩, ⟨⟨by show w.heap.size + 1 < a8.heap.size; omega, ⟨hr9.1, hr9.2.1, hr9.2.2.1, hr9.2.2.2, trivial⟩, hF1⟩, fun i hi => ⟨.inr (.inr hi), by have hi' : i = w.heap.size + 1 := hi; show i < a8.heap.size; omega⟩⟩, trivial⟩) ((fun d hd d' hd' hn c hc hc' => by simp only [List.mem_cons, List.not_mem_nil, or_false] at hd hd'; rcases hd with rfl | rfl <;> rcases hd' with rfl | rfl <;> first | exact hn rfl | (have h1 : c = w.heap.size := hc; have h2 : c = w.heap.size + 1 := hc'; omega) | (have h1 : c = w.heap.size + 1 := hc; have h2 : c = w.heap.size := hc'; omega))) ?_
          simp only [List.take_succ_cons, List.take_zero, List.drop_succ_cons, List.drop_zero, List.take_nil, List.drop_nil, List.take, List.drop]
          repeat (first
            | ((with_reducible refine mem_pure0 ?_ ?_ ?_)
               · exact rfl
               · exact rfl
               intro K hK
               apply Exists.intro
               refine ⟨fun w3 hw3 => ?_, ?_⟩
               · have hcs := hw3
                 simp only [CellsL, List.mem_cons, forall_eq_or_imp, List.not_mem_nil, false_implies, implies_true, and_true] at hcs
                 clear hw3
                 go_simp
                 first | done | exact ⟨rfl, rfl⟩ | rfl
               refine hK _ ?_
               clear hK K
               try simp only [Act.put, List.setIfInBounds_toArray, List.set_cons_zero, List.set_cons_succ])
            | ((with_reducible refine mem_skip ?_ ?_ ?_)
               · exact rfl
               · exact wanted_not rfl rfl rfl rfl
               simp only [Act.put, List.setIfInBounds_toArray, List.set_cons_zero, List.set_cons_succ])
            | ((with_reducible refine mem_pure ?_ ?_ ?_)
               · exact rfl
               · exact wanted_some rfl rfl rfl rfl
               intro K hK
               apply Exists.intro
               refine ⟨fun w3 hw3 => ?_, ?_⟩
               · have hcs := hw3
                 simp only [CellsL, List.mem_cons, forall_eq_or_imp, List.not_mem_nil, false_implies, implies_true, and_true] at hcs
                 clear hw3
                 go_simp
                 first | done | exact ⟨rfl, rfl⟩ | rfl
               refine hK _ ?_
               clear hK K
               try simp only [Act.put, List.setIfInBounds_toArray, List.set_cons_zero, List.set_cons_succ]))
          refine mem_bx 102 w.heap.size _ _ undef (by rfl) (by rfl) (by rfl) (by rfl) (by decide) (by rfl) (fun w3 hw3 hc3 hz3 hd3 hf3 => ?_) ?_
          · obtain ⟨d0, d1, d2, d3, _⟩ := hd3
            have f0 := hf3 0; have f1 := hf3 1; have f2 := hf3 2; have f3 := hf3 3
            go_simp
            exact bx_set4 ⟨d0, d1, d2, d3⟩ hf3 _ _ _ _ _ _ _ _
          try simp only [Act.put, List.setIfInBounds_toArray, List.set_cons_zero, List.set_cons_succ]
          repeat (first
            | ((with_reducible refine mem_pure0 ?_ ?_ ?_)
               · exact rfl
               · exact rfl
               intro K hK
               apply Exists.intro
               refine ⟨fun w3 hw3 => ?_, ?_⟩
               · have hcs := hw3
                 simp only [CellsL, List.mem_cons, forall_eq_or_imp, List.not_mem_nil, false_implies, implies_true, and_true] at hcs
                 clear hw3
                 go_simp
                 first | done | exact ⟨rfl, rfl⟩ | rfl
               refine hK _ ?_
               clear hK K
               try simp only [Act.put, List.setIfInBounds_toArray, List.set_cons_zero, List.set_cons_succ])
            | ((with_reducible refine mem_skip ?_ ?_ ?_)
               · exact rfl
               · exact wanted_not rfl rfl rfl rfl
               simp only [Act.put, List.setIfInBounds_toArray, List.set_cons_zero, List.set_cons_succ])
            | ((with_reducible refine mem_pure ?_ ?_ ?_)
               · exact rfl
               · exact wanted_some rfl rfl rfl rfl
               intro K hK
               apply Exists.intro
               refine ⟨fun w3 hw3 => ?_, ?_⟩
               · have hcs := hw3
                 simp only [CellsL, List.mem_cons, forall_eq_or_imp, List.not_mem_nil, false_implies, implies_true, and_true] at hcs
                 clear hw3
                 go_simp
                 first | done | exact ⟨rfl, rfl⟩ | rfl
               refine hK _ ?_
               clear hK K
               try simp only [Act.put, List.setIfInBounds_toArray, List.set_cons_zero, List.set_cons_succ]))
          refine mem_bx 103 (w.heap.size + 1) _ _ undef (by rfl) (by rfl) (by rfl) (by rfl) (by decide) (by rfl) (fun w3 hw3 hc3 hz3 hd3 hf3 => ?_) ?_
          · obtain ⟨d0, d1, d2, d3, _⟩ := hd3
            have f0 := hf3 0; have f1 := hf3 1; have f2 := hf3 2; have f3 := hf3 3
            go_simp
            exact bx_set4 ⟨d0, d1, d2, d3⟩ hf3 _ _ _ _ _ _ _ _
          try simp only [Act.put, List.setIfInBounds_toArray, List.set_cons_zero, List.set_cons_succ]
          refine wpSep_end ?_
          intro wy hwy0 hcy hfin hap
          obtain ⟨_, ⟨q0, q1, q2, q3, _⟩, _⟩ := hfin.1.1
          obtain ⟨_, ⟨n0, n1, n2, n3, _⟩, _⟩ := hfin.2.1.1
          have hwy : Alt (okB a8 (fun i => (i = w.heap.size + 2 ∨ R i) ∨ (i = w.heap.size ∨ i = w.heap.size + 1))) a8 wy := hwy0.mono_ (fun i _ hi => hi.elim .inl (fun h => .inr (.inr h)))
          have hRy2 : ∀ i, R i → i < wy.heap.size ∧ wy.heap[i]? = a8.heap[i]? := fun i hi => ⟨by have := hR i hi; have := hwy.size; omega, hwy0.block i (by have := hR i hi; omega) (fun hc => by have := hR i hi; rcases hc with h | h | h <;> first | omega | (have h' : i = w.heap.size := h; omega) | (have h' : i = w.heap.size + 1 := h; omega))⟩
          have k9 := alt_back (own := fun i => i = w.heap.size ∨ i = w.heap.size + 1) kw hwy (fun i hi => by rcases hi with h | h <;> omega) (fun i hi => (hRy2 i hi).2)
          have hSn : ∀ i, w.heap.size + 3 ≤ i → i < a8.heap.size → ¬ okB a8 (fun i => (i = w.heap.size + 2 ∨ R i) ∨ (i = w.heap.size ∨ i = w.heap.size + 1)) i := fun i h1 h2 hc => by
            rcases hc with h | (h | h) | (h | h)
            · omega
            · have h' : i = w.heap.size + 2 := h; omega
            · have := hR _ h; omega
            · have h' : i = w.heap.size := h; omega
            · have h' : i = w.heap.size + 1 := h; omega
          have ho4 : OwnC wy (w.heap.size + 3) wy.heap.size A gs.length ca O os.length co gs os := ⟨(hp8.ox.1.1.alt hwy (fun q hq => hSn q (hp8.ox.1.1.lt q hq).1 (hp8.ox.1.1.lt q hq).2.2)).now, (hp8.ox.1.2.1.alt hwy (fun q hq => hSn q (hp8.ox.1.2.1.lt q hq).1 (hp8.ox.1.2.1.lt q hq).2.2)).now, hp8.ox.1.2.2⟩
          have ho5 : OwnC wy (w.heap.size + 3) wy.heap.size (some ⟨g, 0, none⟩) hs2.length cb2 P ps.length cp hs2 ps := ⟨((hy8.ox.1.1.lo_ (by omega)).alt hwy (fun q hq => hSn q (by have := (hy8.ox.1.1.lt q hq).1; omega) (hy8.ox.1.1.lt q hq).2.2)).now, ((hy8.ox.1.2.1.lo_ (by omega)).alt hwy (fun q hq => hSn q (by have := (hy8.ox.1.2.1.lt q hq).1; omega) (hy8.ox.1.2.1.lt q hq).2.2)).now, hy8.ox.1.2.2⟩
          clear hfin hap hcy hwy m0 m1 m2 m3 hr8 hr9 hF hF1
          go_wp2
          refine bodyPost_ret (v := .tuple #[.agg #[.int .i64 x, .int .i64 y, .slice A gs.length ca, .slice O os.length co], .agg #[.int .i64 u, .int .i64 v, .slice (some ⟨g, 0, none⟩) hs2.length cb2, .slice P ps.length cp]]) (by simp [results, Try.results7, go_sem, q0, q1, q2, q3, n0, n1, n2, n3]) rfl ?_
          exact ⟨⟨x, y, gs, os⟩, ⟨u, v, hs2, ps⟩, A, ca, O, co, (some ⟨g, 0, none⟩), cb2, P, cp, rfl, ho4.lo_ (by omega), by simp; omega, by simp; omega, (ho5.lo_ (by omega)), by simp; omega, by simp; omega, k9.below_ (Nat.le_refl _) (fun i hi e => by omega)⟩
end Go.Proofs.Ytikgagjoapggnaa
