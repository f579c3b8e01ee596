/- Drawn circuits with an out: DrawDependsOn and DrawOnesOf return some circuit of the call's own and some number. Drawn wasteful circuits handed on: DrawConstantWires and its like return some circuit of the call's own. Plain functions: bits of numbers, numbers of bits, tables of a circuit's outs; no program in sight. Plain functions: degrees of arithmetic circuits, constant wires, moved gates; no program in sight. Contracts: a circuit that is valid or not; gates moved by a closure. Drawn regions, more kinds of operations: a new row of gates; an append onto an empty one; two rows in one value; a store of one row into a box of the region's own. Lengths as the lemmas say. -/
import Derived.Test.YtikgagjoapggnaaQP14
import Derived.Test.YtikgagjoapggnaaQP05
import Derived.Deep.RegionLaw
import Derived.Test.YtikgagjoapggnaaQP07
import Derived.Test.YtikgagjoapggnaaQP10
namespace Go.Proofs.Ytikgagjoapggnaa
open Go.RowKit
set_option linter.unusedVariables false
set_option linter.unusedSimpArgs false
attribute [local go_sem] sepAt sepUpon pureAt pureUpon
def Res.bx (D : Nat) (us : List Value) : Res :=
  ⟨fun _ v => v = undef, fun _ _ w => D < w.heap.size ∧ CellsAt w D 0 us ∧ Fz w D, fun _ _ b => b = D, fun _ => ⟨undef, rfl⟩,
    fun _ v w w' S h k hb => ⟨Nat.lt_of_lt_of_le h.1 k.size, h.2.1.alt k (hb D rfl).1, h.2.2.alt k h.1 (hb D rfl).1⟩⟩
section
variable {P : Program} {W : World} {own : Nat → Prop} {cs : List (Addr × Value)} {sk : List (Nat × List Nat × List Nat)} {ini fi : List Nat} {rs : List (Nat × Res)} {ops : Array Oper} {L : Act → (Nat → Value) → Prop} {k : Nat} {o : Oper} {rest : List Oper} {a : Act} {ρ : Nat → Value}
theorem mem_bx (d D : Nat) (us vs : List Value) (v0 : Value) (hr : resAt rs k = Res.bx D vs) (he : effB sk k = true) (hrd : resAt rs d = Res.bx D us) (hd : consL sk k = [d]) (hdd : d ∈ depsL sk k) (hρ : ρ d = v0)
    (hx : ∀ w, Alt (okB W own) W w → CellsL w cs → D < w.heap.size → CellsAt w D 0 us → Fz w D → sepAt P o a (fun v w' => v = undef ∧ CellsAt w' D 0 vs ∧ Fz w' D ∧ Alt (fun i => i = D) w w') w)
    (h : wpSep (mkSep W own cs sk ini fi rs) P ops L (k + 1) rest (a.put o.dst undef) (upd ρ k undef)) (hw : Region.wanted o (yielded ops a.tmps) = true := by first | exact wanted_none rfl | exact wanted_some rfl rfl rfl rfl) : wpSep (mkSep W own cs sk ini fi rs) P ops L k (o :: rest) a ρ :=
  mem_eff (hw := hw) _ hr he (fun w hw hc hp => by
    have h1 : D < w.heap.size ∧ CellsAt w D 0 us ∧ Fz w D := (has_dep hdd hp hρ hrd).1
    have hh : (mkSep W own cs sk ini fi rs).hit k ρ = fun b => b = D := hit_one hd hρ hrd
    rw [hh]
    refine sepAt_mono (hx w hw hc h1.1 h1.2.1 h1.2.2) fun v w' ⟨e1, e2, e3, e4⟩ => ⟨e1, ⟨Nat.lt_of_lt_of_le h1.1 e4.size, e2, e3⟩, e4, fun b hb => ?_⟩
    have hb' : b = D := hb
    subst hb'
    exact ⟨Nat.lt_of_lt_of_le h1.1 e4.size, .inr rfl⟩) fun v hv => by
    obtain rfl : v = undef := hv
    exact h
end
theorem bx_set4 {w : World} {D : Nat} {x0 y0 : Int} {Ag0 : Option Addr} {ng0 cg0 : Nat} {Ao0 : Option Addr} {no0 co0 : Nat} (h : BxC w D x0 y0 Ag0 ng0 cg0 Ao0 no0 co0) (hf : Fz w D) (x y : Int) (A : Option Addr) (ng ca : Nat) (O : Option Addr) (no co : Nat) :
    CellsAt ((((w.setCell ⟨D, 0, none⟩ (.int .i64 x)).setCell ⟨D, 1, none⟩ (.int .i64 y)).setCell ⟨D, 2, none⟩ (.slice A ng ca)).setCell ⟨D, 3, none⟩ (.slice O no co)) D 0 [.int .i64 x, .int .i64 y, .slice A ng ca, .slice O no co]
    ∧ Fz ((((w.setCell ⟨D, 0, none⟩ (.int .i64 x)).setCell ⟨D, 1, none⟩ (.int .i64 y)).setCell ⟨D, 2, none⟩ (.slice A ng ca)).setCell ⟨D, 3, none⟩ (.slice O no co)) D
    ∧ Alt (fun i => i = D) w ((((w.setCell ⟨D, 0, none⟩ (.int .i64 x)).setCell ⟨D, 1, none⟩ (.int .i64 y)).setCell ⟨D, 2, none⟩ (.slice A ng ca)).setCell ⟨D, 3, none⟩ (.slice O no co)) := by
  obtain ⟨c0, c1, c2, c3⟩ := h.set4 x y A ng ca O no co
  exact ⟨⟨c0, c1, c2, c3, trivial⟩, (((hf.set _ _).set _ _).set _ _).set _ _, alt_set4 (Alt.refl_ (fun i => i = D) w) (fun _ => rfl) _ _ _ _ _ _ _ _⟩
end Go.Proofs.Ytikgagjoapggnaa
namespace Go.Proofs.Ytikgagjoapggnaa
open Go.RowKit
set_option linter.unusedVariables false
set_option linter.unusedSimpArgs false
attribute [local go_sem] sepAt sepUpon pureAt pureUpon
set_option maxRecDepth 100000 in
set_option maxHeartbeats 3000000 in
theorem DrawConstantWires_any (Y : Option Addr) (n c : Nat) (w : World) (hY : RY w Y n) :
    Calls Try.prog 16 #[.slice Y n c] w (RetDc w) := by
  have hA1 : Below w.heap.size w (w.alloc (.cells #[.int .i64 0, .int .i64 0, .slice none 0 0, .slice none 0 0] 26)) := (Below.refl _ _).alloc (Nat.le_refl _) _
  have hr0 : BxC (w.alloc (.cells #[.int .i64 0, .int .i64 0, .slice none 0 0, .slice none 0 0] 26)) w.heap.size 0 0 none 0 0 none 0 0 := BxC.new w _
  have hs0 : (w.alloc (.cells #[.int .i64 0, .int .i64 0, .slice none 0 0, .slice none 0 0] 26)).heap.size = w.heap.size + 1 := by simp
  have hfz : ∀ q, (w.alloc (.cells #[.int .i64 0, .int .i64 0, .slice none 0 0, .slice none 0 0] 26)).frozen? ⟨w.heap.size, q, none⟩ = false := Fz.new w _ _
  have hY1 := hY.alt (Alt.of_new (S := fun _ => False) hA1) (fun _ _ _ _ h => h)
  have hc0 := Cur.new (c := c) hY1
  have hA2 : Below (w.alloc (.cells #[.int .i64 0, .int .i64 0, .slice none 0 0, .slice none 0 0] 26)).heap.size (w.alloc (.cells #[.int .i64 0, .int .i64 0, .slice none 0 0, .slice none 0 0] 26)) ((w.alloc (.cells #[.int .i64 0, .int .i64 0, .slice none 0 0, .slice none 0 0] 26)).alloc (.cells #[.slice Y n c, .int .i64 0, .int .u64 0] 59)) := (Below.refl _ _).alloc (Nat.le_refl _) _
  have hR : ∀ i, tblk Y n i → i < w.heap.size := tblk_lt hY
  have hs1 : ((w.alloc (.cells #[.int .i64 0, .int .i64 0, .slice none 0 0, .slice none 0 0] 26)).alloc (.cells #[.slice Y n c, .int .i64 0, .int .u64 0] 59)).heap.size = w.heap.size + 2 := by simp
  rw [hs0] at hc0
  have hRb : ¬ tblk Y n (w.heap.size + 1) := fun h => by have := hR _ h; omega
  generalize tblk Y n = R at hc0 hR hRb
  go_enter Try.func16, Try.ntmps16
  go_wp2_with fail
  refine (wasteful_any (w.heap.size + 1) R 0 _ hc0 (by omega) (fun i hi => by have := hR i hi; omega) hRb).mono ?_
  rintro e a1 ⟨⟨x, y, gs, os⟩, A, ca, O, co, rfl, ho1, hx, hy, hng, hno, c1, k1⟩
  dsimp only at ho1 hx hy hng hno ⊢
  have hz1' := k1.size
  rw [hs1] at ho1 hz1'
  have kb : Alt (fun i => i = w.heap.size + 1) (w.alloc (.cells #[.int .i64 0, .int .i64 0, .slice none 0 0, .slice none 0 0] 26)) a1 := (Alt.of_new (S := fun i => i = w.heap.size + 1) hA2).trans_ k1 (fun _ _ h => h)
  have kw : Alt (fun i => i = w.heap.size + 1) w a1 := (Alt.of_new (S := fun i => i = w.heap.size + 1) hA1).trans_ kb (fun _ _ h => h)
  have hr9 := hr0.alt kb (by omega)
  have hF := Fz.alt hfz kb (by omega) (by omega)
  have f0 := hF 0; have f1 := hF 1; have f2 := hF 2; have f3 := hF 3
  have hq := hr9; obtain ⟨r0, r1, r2, r3⟩ := hq
  go_wp2
  have hq9 := BxC.set4 (hr9) x y A gs.length ca O os.length co
  obtain ⟨q0, q1, q2, q3⟩ := hq9
  refine bodyPost_ret (v := .agg #[.int .i64 x, .int .i64 y, .slice A gs.length ca, .slice O os.length co]) (by simp [results, Try.results16, go_sem, q0, q1, q2, q3]) rfl ?_
  exact RetDc.of_ kw (fun i hi h => by omega) ho1 (by omega) hng hno
set_option maxRecDepth 100000 in
set_option maxHeartbeats 1000000 in
theorem DrawSimplifyCircuit_any (Y : Option Addr) (n c : Nat) (w : World) (hY : RY w Y n) :
    Calls Try.prog 4 #[.slice Y n c] w (RetDc w) := by
  have hA1 : Below w.heap.size w (w.alloc (.cells #[.int .i64 0, .int .i64 0, .slice none 0 0, .slice none 0 0] 26)) := (Below.refl _ _).alloc (Nat.le_refl _) _
  have hr0 : BxC (w.alloc (.cells #[.int .i64 0, .int .i64 0, .slice none 0 0, .slice none 0 0] 26)) w.heap.size 0 0 none 0 0 none 0 0 := BxC.new w _
  have hs0 : (w.alloc (.cells #[.int .i64 0, .int .i64 0, .slice none 0 0, .slice none 0 0] 26)).heap.size = w.heap.size + 1 := by simp
  have hfz : ∀ q, (w.alloc (.cells #[.int .i64 0, .int .i64 0, .slice none 0 0, .slice none 0 0] 26)).frozen? ⟨w.heap.size, q, none⟩ = false := Fz.new w _ _
  have hY1 := hY.alt (Alt.of_new (S := fun _ => False) hA1) (fun _ _ _ _ h => h)
  go_enter Try.func4, Try.ntmps4
  go_wp2_with fail
  refine (DrawConstantWires_any Y n c _ hY1).mono ?_
  rintro e a1 ⟨⟨x, y, gs, os⟩, A, ca, O, co, rfl, ho1, hng, hno, k1⟩
  dsimp only at ho1 hng hno ⊢
  rw [hs0] at ho1
  have hz1 := k1.size
  have hr9 := hr0.below k1
  have kb := Alt.of_new (S := fun _ => False) k1
  have kw : Alt (fun _ => False) w a1 := (Alt.of_new (S := fun _ => False) hA1).trans_ kb (fun _ _ h => h)
  have hF := Fz.alt hfz kb (by omega) (fun h => h)
  have f0 := hF 0; have f1 := hF 1; have f2 := hF 2; have f3 := hF 3
  have hq := hr9; obtain ⟨r0, r1, r2, r3⟩ := hq
  go_wp2
  have hq9 := BxC.set4 (hr9) x y A gs.length ca O os.length co
  obtain ⟨q0, q1, q2, q3⟩ := hq9
  refine bodyPost_ret (v := .agg #[.int .i64 x, .int .i64 y, .slice A gs.length ca, .slice O os.length co]) (by simp [results, Try.results4, go_sem, q0, q1, q2, q3]) rfl ?_
  exact RetDc.of_ kw (fun i hi h => h) ho1 (by omega) hng hno
end Go.Proofs.Ytikgagjoapggnaa
namespace Go.Proofs.Ytikgagjoapggnaa
open Go.RowKit
set_option linter.unusedVariables false
set_option linter.unusedSimpArgs false
theorem ofInt_i64 {a : Nat} (ha : a < 9223372036854775808) : (BitVec.ofInt 64 (a : Int)).toNat = a := by
  rw [BitVec.ofInt_natCast, BitVec.toNat_ofNat]; exact Nat.mod_eq_of_lt (by omega)
theorem band_nat {a b : Nat} (ha : a < 4611686018427387904) (hb : b < 4611686018427387904) : bits .and .i64 (a : Int) (b : Int) = ((a &&& b : Nat) : Int) := by
  have hx : a &&& b < 2 ^ 62 := Nat.and_lt_two_pow _ (by omega)
  show IntKind.i64.wrap ((BitVec.ofInt 64 (a : Int) &&& BitVec.ofInt 64 (b : Int)).toNat : Int) = _
  rw [BitVec.toNat_and, ofInt_i64 (by omega), ofInt_i64 (by omega)]
  exact IntWalk.i64_in _ (by omega)
theorem and_one (n : Nat) : n &&& 1 = n % 2 := Nat.and_one_is_mod n
def bitsN (n k : Nat) : List Int := tab k fun i => ((n / 2 ^ i % 2 : Nat) : Int)
theorem bitsN_len (n k : Nat) : (bitsN n k).length = k := tab_len _ _
theorem bitsN_snoc (n k : Nat) : bitsN n (k + 1) = bitsN n k ++ [((n / 2 ^ k % 2 : Nat) : Int)] := tab_snoc _ _
theorem bitsN_bd (n k : Nat) : allB 0 1 (bitsN n k) = true := allB_iff.2 fun x hx => by
  obtain ⟨j, _, rfl⟩ := mem_tab hx; omega
theorem pick_bd {lo hi : Int} {l os : List Int} (h : allB lo hi l = true) (ho : allB 0 (l.length - 1) os = true) : allB lo hi (pick l os) = true := allB_iff.2 fun x hx => by
  simp only [pick, List.mem_map] at hx
  obtain ⟨o, hm, rfl⟩ := hx
  have := allB_iff.1 ho o hm
  exact allB_gi h (by omega)
def outsN (gs : List G3) (os : List Int) (x n : Nat) : List Int := pick (vals gs (bitsN n x) gs.length) os
theorem outsN_len (gs : List G3) (os : List Int) (x n : Nat) : (outsN gs os x n).length = os.length := pick_len _ _
theorem outsN_bd {gs : List G3} {os : List Int} {x : Nat} (hg : gatesB x gs gs.length = true) (ho : allB 0 (x + gs.length - 1) os = true) (n : Nat) : allB 0 1 (outsN gs os x n) = true := by
  refine pick_bd (vals_bd (by rw [bitsN_len]) (bitsN_bd n x) _ _ (Nat.le_refl _) hg) ?_
  rw [vals_len, bitsN_len]
  simpa using ho
def uneq (f g : Nat → List Int) (m : Nat) : Int := match (List.range m).find? fun n => decide (f n ≠ g n) with
  | some n => (n : Int)
  | none => -1
theorem uneq_none {f g : Nat → List Int} {m : Nat} (h : ∀ j, j < m → f j = g j) : uneq f g m = -1 := by
  have : (List.range m).find? (fun n => decide (f n ≠ g n)) = none := List.find?_eq_none.2 fun j hj => by simp [h j (List.mem_range.1 hj)]
  rw [uneq, this]
theorem uneq_some {f g : Nat → List Int} {m k : Nat} (hk : k < m) (h : ∀ j, j < k → f j = g j) (hne : f k ≠ g k) : uneq f g m = k := by
  have : (List.range m).find? (fun n => decide (f n ≠ g n)) = some k := by
    rw [List.find?_eq_some_iff_getElem]
    refine ⟨by simpa using hne, k, by simpa using hk, by simp, fun j hj => ?_⟩
    simp [h j hj]
  rw [uneq, this]
theorem uneq_bd (f g : Nat → List Int) (m : Nat) : -1 ≤ uneq f g m ∧ uneq f g m < m := by
  unfold uneq
  split
  · rename_i n hn
    have := List.mem_range.1 (List.mem_of_find?_eq_some hn)
    omega
  · omega
theorem gi_bd0 {lo hi : Int} {l : List Int} (h : allB lo hi l = true) (h0 : lo ≤ 0 ∧ 0 ≤ hi) (j : Nat) : lo ≤ gi l j ∧ gi l j ≤ hi := by
  rcases Nat.lt_or_ge j l.length with hj | hj
  · exact allB_gi h hj
  · unfold gi; rw [List.getD_eq_getElem?_getD, List.getElem?_eq_none hj]; exact h0
def mvG (f : Int → Int) (g : G3) : G3 := if g.k = 0 ∨ g.k = 1 then ⟨g.k, f g.a, f g.b⟩ else if g.k = 2 then ⟨g.k, f g.a, g.b⟩ else g
theorem valid_f (x y : Int) (Ag : Option Addr) (ng cg : Nat) (Ao : Option Addr) (no co : Nat) (gs : List G3) (os : List Int) (w : World) (hg : RG w Ag ng gs) (ho : RI w Ao no os) (hng : ng ≤ 2097152) (hno : no ≤ 2097152) (hv : circB x y gs os = false) :
    Calls Try.prog 24 #[.agg #[.int .i64 x, .int .i64 y, .slice Ag ng cg, .slice Ao no co]] w fun e w' => e = .returned (.tuple #[.agg #[.int .i64 0, .int .i64 0, .slice none 0 0, .slice none 0 0], .bool false]) ∧ Below w.heap.size w w' := by
  have H0 := Lib.hid hv; clear hv
  have hB1 : Below w.heap.size w (w.alloc (.cells #[.int .i64 x, .int .i64 y, .slice Ag ng cg, .slice Ao no co] 26)) := (Below.refl _ _).alloc (Nat.le_refl _) _
  have hB : Below w.heap.size w ((w.alloc (.cells #[.int .i64 x, .int .i64 y, .slice Ag ng cg, .slice Ao no co] 26)).alloc (.cells #[.int .i64 0, .int .i64 0, .slice none 0 0, .slice none 0 0] 26)) := hB1.alloc (by simp) _
  have hx0 : BxC ((w.alloc (.cells #[.int .i64 x, .int .i64 y, .slice Ag ng cg, .slice Ao no co] 26)).alloc (.cells #[.int .i64 0, .int .i64 0, .slice none 0 0, .slice none 0 0] 26)) w.heap.size x y Ag ng cg Ao no co := (BxC.new w _).below ((Below.refl _ _).alloc (Nat.le_refl _) _)
  have hr0 : BxC ((w.alloc (.cells #[.int .i64 x, .int .i64 y, .slice Ag ng cg, .slice Ao no co] 26)).alloc (.cells #[.int .i64 0, .int .i64 0, .slice none 0 0, .slice none 0 0] 26)) (w.heap.size + 1) 0 0 none 0 0 none 0 0 := by simpa using BxC.new (x := 0) (y := 0) (Ag := none) (ng := 0) (cg := 0) (Ao := none) (no := 0) (co := 0) (w.alloc (.cells #[.int .i64 x, .int .i64 y, .slice Ag ng cg, .slice Ao no co] 26)) 26
  have f0 : Fz ((w.alloc (.cells #[.int .i64 x, .int .i64 y, .slice Ag ng cg, .slice Ao no co] 26)).alloc (.cells #[.int .i64 0, .int .i64 0, .slice none 0 0, .slice none 0 0] 26)) (w.heap.size + 1) := by simpa using Fz.new (w.alloc (.cells #[.int .i64 x, .int .i64 y, .slice Ag ng cg, .slice Ao no co] 26)) #[.int .i64 0, .int .i64 0, .slice none 0 0, .slice none 0 0] 26
  go_enter Try.func24, Try.ntmps24
  have hq := hx0; obtain ⟨k0, k1, k2, k3⟩ := hq
  go_wp2_with fail
  refine (IsCircuit_any x y Ag ng cg Ao no co gs os _ (hg.below hB (Nat.le_refl _)) (ho.below hB (Nat.le_refl _)) hng hno).mono ?_
  rintro e v1 ⟨rfl, hb1⟩
  rw [H0.out]
  have hx1 := hx0.below hb1
  clear k0 k1 k2 k3
  obtain ⟨k0, k1, k2, k3⟩ := hx1
  have hr1 := hr0.below hb1
  have f1 := f0.below hb1 (by simp)
  have hq := hr1; obtain ⟨r0, r1, r2, r3⟩ := hq
  have g0 := f1 0; have g1 := f1 1; have g2 := f1 2; have g3 := f1 3
  have hB2 := hB.trans (hb1.mono hB.size)
  go_wp2
  have hq9 := BxC.set4 (hr1) 0 0 none 0 0 none 0 0
  obtain ⟨q0, q1, q2, q3⟩ := hq9
  refine bodyPost_ret (v := .tuple #[.agg #[.int .i64 0, .int .i64 0, .slice none 0 0, .slice none 0 0], .bool false]) (by simp [results, Try.results24, go_sem, q0, q1, q2, q3]) rfl ?_
  exact ⟨rfl, below_set4 hB2 (by omega) _ _ _ _ _ _ _ _⟩
theorem ciIf_f (x y : Int) (Ag : Option Addr) (ng cg : Nat) (Ao : Option Addr) (no co : Nat) (gs : List G3) (os : List Int) (w : World) (hg : RG w Ag ng gs) (ho : RI w Ao no os) (hng : ng ≤ 2097152) (hno : no ≤ 2097152) (hv : circB x y gs os = false) :
    Calls Try.prog 26 #[.agg #[.int .i64 x, .int .i64 y, .slice Ag ng cg, .slice Ao no co]] w fun e w' => e = .returned (.tuple #[.agg #[.int .i64 0, .int .i64 0, .slice none 0 0, .slice none 0 0], .bool false]) ∧ Below w.heap.size w w' := by
  have H0 := Lib.hid hv; clear hv
  have hB1 : Below w.heap.size w (w.alloc (.cells #[.int .i64 x, .int .i64 y, .slice Ag ng cg, .slice Ao no co] 26)) := (Below.refl _ _).alloc (Nat.le_refl _) _
  have hB : Below w.heap.size w ((w.alloc (.cells #[.int .i64 x, .int .i64 y, .slice Ag ng cg, .slice Ao no co] 26)).alloc (.cells #[.int .i64 0, .int .i64 0, .slice none 0 0, .slice none 0 0] 26)) := hB1.alloc (by simp) _
  have hx0 : BxC ((w.alloc (.cells #[.int .i64 x, .int .i64 y, .slice Ag ng cg, .slice Ao no co] 26)).alloc (.cells #[.int .i64 0, .int .i64 0, .slice none 0 0, .slice none 0 0] 26)) w.heap.size x y Ag ng cg Ao no co := (BxC.new w _).below ((Below.refl _ _).alloc (Nat.le_refl _) _)
  have hr0 : BxC ((w.alloc (.cells #[.int .i64 x, .int .i64 y, .slice Ag ng cg, .slice Ao no co] 26)).alloc (.cells #[.int .i64 0, .int .i64 0, .slice none 0 0, .slice none 0 0] 26)) (w.heap.size + 1) 0 0 none 0 0 none 0 0 := by simpa using BxC.new (x := 0) (y := 0) (Ag := none) (ng := 0) (cg := 0) (Ao := none) (no := 0) (co := 0) (w.alloc (.cells #[.int .i64 x, .int .i64 y, .slice Ag ng cg, .slice Ao no co] 26)) 26
  have f0 : Fz ((w.alloc (.cells #[.int .i64 x, .int .i64 y, .slice Ag ng cg, .slice Ao no co] 26)).alloc (.cells #[.int .i64 0, .int .i64 0, .slice none 0 0, .slice none 0 0] 26)) (w.heap.size + 1) := by simpa using Fz.new (w.alloc (.cells #[.int .i64 x, .int .i64 y, .slice Ag ng cg, .slice Ao no co] 26)) #[.int .i64 0, .int .i64 0, .slice none 0 0, .slice none 0 0] 26
  go_enter Try.func26, Try.ntmps26
  have hq := hx0; obtain ⟨k0, k1, k2, k3⟩ := hq
  go_wp2_with fail
  refine (ciGood_any x y Ag ng cg Ao no co gs os _ (hg.below hB (Nat.le_refl _)) (ho.below hB (Nat.le_refl _)) hng hno).mono ?_
  rintro e v1 ⟨rfl, hb1⟩
  rw [H0.out]
  have hx1 := hx0.below hb1
  clear k0 k1 k2 k3
  obtain ⟨k0, k1, k2, k3⟩ := hx1
  have hr1 := hr0.below hb1
  have f1 := f0.below hb1 (by simp)
  have hq := hr1; obtain ⟨r0, r1, r2, r3⟩ := hq
  have g0 := f1 0; have g1 := f1 1; have g2 := f1 2; have g3 := f1 3
  have hB2 := hB.trans (hb1.mono hB.size)
  go_wp2
  have hq9 := BxC.set4 (hr1) 0 0 none 0 0 none 0 0
  obtain ⟨q0, q1, q2, q3⟩ := hq9
  refine bodyPost_ret (v := .tuple #[.agg #[.int .i64 0, .int .i64 0, .slice none 0 0, .slice none 0 0], .bool false]) (by simp [results, Try.results26, go_sem, q0, q1, q2, q3]) rfl ?_
  exact ⟨rfl, below_set4 hB2 (by omega) _ _ _ _ _ _ _ _⟩
theorem ciIf_t (x y : Int) (Ag : Option Addr) (ng cg : Nat) (Ao : Option Addr) (no co : Nat) (gs : List G3) (os : List Int) (w : World) (hg : RG w Ag ng gs) (ho : RI w Ao no os) (hng : ng ≤ 2097152) (hno : no ≤ 2097152) (hv : circB x y gs os = true) :
    Calls Try.prog 26 #[.agg #[.int .i64 x, .int .i64 y, .slice Ag ng cg, .slice Ao no co]] w fun e w' => e = .returned (.tuple #[.agg #[.int .i64 x, .int .i64 y, .slice Ag ng cg, .slice Ao no co], .bool true]) ∧ Below w.heap.size w w' := by
  have H0 := Lib.hid hv; clear hv
  have hB1 : Below w.heap.size w (w.alloc (.cells #[.int .i64 x, .int .i64 y, .slice Ag ng cg, .slice Ao no co] 26)) := (Below.refl _ _).alloc (Nat.le_refl _) _
  have hB : Below w.heap.size w ((w.alloc (.cells #[.int .i64 x, .int .i64 y, .slice Ag ng cg, .slice Ao no co] 26)).alloc (.cells #[.int .i64 0, .int .i64 0, .slice none 0 0, .slice none 0 0] 26)) := hB1.alloc (by simp) _
  have hx0 : BxC ((w.alloc (.cells #[.int .i64 x, .int .i64 y, .slice Ag ng cg, .slice Ao no co] 26)).alloc (.cells #[.int .i64 0, .int .i64 0, .slice none 0 0, .slice none 0 0] 26)) w.heap.size x y Ag ng cg Ao no co := (BxC.new w _).below ((Below.refl _ _).alloc (Nat.le_refl _) _)
  have hr0 : BxC ((w.alloc (.cells #[.int .i64 x, .int .i64 y, .slice Ag ng cg, .slice Ao no co] 26)).alloc (.cells #[.int .i64 0, .int .i64 0, .slice none 0 0, .slice none 0 0] 26)) (w.heap.size + 1) 0 0 none 0 0 none 0 0 := by simpa using BxC.new (x := 0) (y := 0) (Ag := none) (ng := 0) (cg := 0) (Ao := none) (no := 0) (co := 0) (w.alloc (.cells #[.int .i64 x, .int .i64 y, .slice Ag ng cg, .slice Ao no co] 26)) 26
  have f0 : Fz ((w.alloc (.cells #[.int .i64 x, .int .i64 y, .slice Ag ng cg, .slice Ao no co] 26)).alloc (.cells #[.int .i64 0, .int .i64 0, .slice none 0 0, .slice none 0 0] 26)) (w.heap.size + 1) := by simpa using Fz.new (w.alloc (.cells #[.int .i64 x, .int .i64 y, .slice Ag ng cg, .slice Ao no co] 26)) #[.int .i64 0, .int .i64 0, .slice none 0 0, .slice none 0 0] 26
  go_enter Try.func26, Try.ntmps26
  have hq := hx0; obtain ⟨k0, k1, k2, k3⟩ := hq
  go_wp2_with fail
  refine (ciGood_any x y Ag ng cg Ao no co gs os _ (hg.below hB (Nat.le_refl _)) (ho.below hB (Nat.le_refl _)) hng hno).mono ?_
  rintro e v1 ⟨rfl, hb1⟩
  rw [H0.out]
  have hx1 := hx0.below hb1
  clear k0 k1 k2 k3
  obtain ⟨k0, k1, k2, k3⟩ := hx1
  have hr1 := hr0.below hb1
  have f1 := f0.below hb1 (by simp)
  have hq := hr1; obtain ⟨r0, r1, r2, r3⟩ := hq
  have g0 := f1 0; have g1 := f1 1; have g2 := f1 2; have g3 := f1 3
  have hB2 := hB.trans (hb1.mono hB.size)
  go_wp2
  have hq9 := BxC.set4 (hr1) x y Ag ng cg Ao no co
  obtain ⟨q0, q1, q2, q3⟩ := hq9
  refine bodyPost_ret (v := .tuple #[.agg #[.int .i64 x, .int .i64 y, .slice Ag ng cg, .slice Ao no co], .bool true]) (by simp [results, Try.results26, go_sem, q0, q1, q2, q3]) rfl ?_
  exact ⟨rfl, below_set4 hB2 (by omega) _ _ _ _ _ _ _ _⟩
def BxG (w : World) (b : Nat) (k a c : Int) : Prop := w.cell? ⟨b, 0, none⟩ = some (.int .i64 k) ∧ w.cell? ⟨b, 1, none⟩ = some (.int .i64 a) ∧ w.cell? ⟨b, 2, none⟩ = some (.int .i64 c)
section
variable {w w' : World} {b : Nat} {k a c : Int}
theorem BxG.new (w : World) (T : TypeId) : BxG (w.alloc (.cells #[.int .i64 k, .int .i64 a, .int .i64 c] T)) w.heap.size k a c := ⟨box_cell w _ 0 _ rfl, box_cell w _ 1 _ rfl, box_cell w _ 2 _ rfl⟩
theorem BxG.below (h : BxG w b k a c) (hb : Below w.heap.size w w') : BxG w' b k a c := ⟨cell_bel h.1 hb, cell_bel h.2.1 hb, cell_bel h.2.2 hb⟩
theorem BxG.setA (h : BxG w b k a c) (v : Int) : BxG (w.setCell ⟨b, 1, none⟩ (.int .i64 v)) b k v c := ⟨(World.cell?_setCell_other _ _ _ _ (by simp)).trans h.1, World.cell?_setCell_same _ _ _ h.2.1, (World.cell?_setCell_other _ _ _ _ (by simp)).trans h.2.2⟩
theorem BxG.setB (h : BxG w b k a c) (v : Int) : BxG (w.setCell ⟨b, 2, none⟩ (.int .i64 v)) b k a v := ⟨(World.cell?_setCell_other _ _ _ _ (by simp)).trans h.1, (World.cell?_setCell_other _ _ _ _ (by simp)).trans h.2.1, World.cell?_setCell_same _ _ _ h.2.2⟩
theorem BxG.far (h : BxG w b k a c) (q : Addr) (v : Value) (hq : q.block ≠ b) : BxG (w.setCell q v) b k a c := by
  have hc : ∀ {r : Nat} {u : Value}, w.cell? ⟨b, r, none⟩ = some u → (w.setCell q v).cell? ⟨b, r, none⟩ = some u := fun {r u} hu => (World.cell?_setCell_other _ _ _ _ (fun he => hq (by rw [he]))).trans hu
  exact ⟨hc h.1, hc h.2.1, hc h.2.2⟩
theorem BxG.set3 {k0 a0 c0 : Int} (h : BxG w b k0 a0 c0) (k a c : Int) : BxG (((w.setCell ⟨b, 0, none⟩ (.int .i64 k)).setCell ⟨b, 1, none⟩ (.int .i64 a)).setCell ⟨b, 2, none⟩ (.int .i64 c)) b k a c := by
  have h1 : BxG (w.setCell ⟨b, 0, none⟩ (.int .i64 k)) b k a0 c0 := ⟨World.cell?_setCell_same _ _ _ h.1, (World.cell?_setCell_other _ _ _ _ (by simp)).trans h.2.1, (World.cell?_setCell_other _ _ _ _ (by simp)).trans h.2.2⟩
  exact (h1.setA a).setB c
theorem below_set3 {B : Nat} {a' : World} (h : Below B a' w) (hB : B ≤ b) (k a c : Int) : Below B a' (((w.setCell ⟨b, 0, none⟩ (.int .i64 k)).setCell ⟨b, 1, none⟩ (.int .i64 a)).setCell ⟨b, 2, none⟩ (.int .i64 c)) :=
  ((h.setCell (p := ⟨b, 0, none⟩) hB _).setCell (p := ⟨b, 1, none⟩) hB _).setCell (p := ⟨b, 2, none⟩) hB _
end
set_option maxRecDepth 100000 in
set_option maxHeartbeats 1600000 in
theorem moved_any (f : FuncId) (hcf : ∀ args w, Sem.run Try.prog (callFunc f args) w = .ok (.enter f args) w) (cap : Array Value) (to : Int → Int) (g : G3) (n : Int) (w : World) (hg : GateIs g n)
    (hf : Hid (∀ z, 0 ≤ z → z < n → ∀ w1, Below w.heap.size w w1 → Calls Try.prog f (#[.int .i64 z] ++ cap) w1 fun e w' => e = .returned (.int .i64 (to z)) ∧ Below w1.heap.size w1 w')) :
    Calls Try.prog 45 #[.agg #[.int .i64 g.k, .int .i64 g.a, .int .i64 g.b], .func (.func f) #[] cap] w fun e w' => e = .returned (.agg #[.int .i64 (mvG to g).k, .int .i64 (mvG to g).a, .int .i64 (mvG to g).b]) ∧ Below w.heap.size w w' := by
  obtain ⟨gk, ga, gb⟩ := g
  have hB1 : Below w.heap.size w (w.alloc (.cells #[.int .i64 gk, .int .i64 ga, .int .i64 gb] 50)) := (Below.refl _ _).alloc (Nat.le_refl _) _
  have hB : Below w.heap.size w ((w.alloc (.cells #[.int .i64 gk, .int .i64 ga, .int .i64 gb] 50)).alloc (.cells #[.int .i64 0, .int .i64 0, .int .i64 0] 50)) := hB1.alloc (by simp) _
  have hx0 : BxG ((w.alloc (.cells #[.int .i64 gk, .int .i64 ga, .int .i64 gb] 50)).alloc (.cells #[.int .i64 0, .int .i64 0, .int .i64 0] 50)) w.heap.size gk ga gb := (BxG.new w _).below ((Below.refl _ _).alloc (Nat.le_refl _) _)
  have hr0 : BxG ((w.alloc (.cells #[.int .i64 gk, .int .i64 ga, .int .i64 gb] 50)).alloc (.cells #[.int .i64 0, .int .i64 0, .int .i64 0] 50)) (w.heap.size + 1) 0 0 0 := by simpa using BxG.new (k := 0) (a := 0) (c := 0) (w.alloc (.cells #[.int .i64 gk, .int .i64 ga, .int .i64 gb] 50)) 50
  have f0 : Fz ((w.alloc (.cells #[.int .i64 gk, .int .i64 ga, .int .i64 gb] 50)).alloc (.cells #[.int .i64 0, .int .i64 0, .int .i64 0] 50)) (w.heap.size + 1) := by simpa using Fz.new (w.alloc (.cells #[.int .i64 gk, .int .i64 ga, .int .i64 gb] 50)) #[.int .i64 0, .int .i64 0, .int .i64 0] 50
  have e0 : Fz ((w.alloc (.cells #[.int .i64 gk, .int .i64 ga, .int .i64 gb] 50)).alloc (.cells #[.int .i64 0, .int .i64 0, .int .i64 0] 50)) w.heap.size := (Fz.new w _ _).below ((Below.refl _ _).alloc (Nat.le_refl _) _) (by simp)
  cases hg with
  | not_ hk a0 a1 b0 =>
    dsimp only at hk a0 a1 b0
    subst hk
    subst b0
    have hR : Hid (mvG to ⟨2, ga, 0⟩ = ⟨2, to ga, 0⟩) := Lib.hid (by simp [mvG])
    have hfa := Lib.hid (hf.out ga a0 a1)
    go_enter Try.func45, Try.ntmps45
    have hq := hx0; obtain ⟨k0, k1, k2⟩ := hq
    go_wp2_with fail
    refine (hfa.out _ hB).mono ?_
    rintro e v1 ⟨rfl, hb1⟩
    have hx1 := hx0.below hb1
    have hr1 := hr0.below hb1
    have f1 := f0.below hb1 (by simp)
    have e1 := e0.below hb1 (by simp; omega)
    have hB2 := hB.trans (hb1.mono hB.size)
    have hz1 := hb1.size
    simp only [World.size_alloc] at hz1
    have hB3 := hB2.setCell (p := ⟨w.heap.size, 1, none⟩) (by show w.heap.size ≤ w.heap.size; omega) (.int .i64 (to ga))
    have hx2 := hx1.setA (to ga)
    have hr2 := hr1.far ⟨w.heap.size, 1, none⟩ (.int .i64 (to ga)) (by simp)
    clear k0 k1 k2
    obtain ⟨k0, k1, k2⟩ := hx1
    obtain ⟨m0, m1, m2⟩ := hx2
    have hq := hr1; obtain ⟨r0, r1, r2⟩ := hq
    have hq := hr2; obtain ⟨s0, s1, s2⟩ := hq
    have g0 := f1 0; have g1 := f1 1; have g2 := f1 2; have g3 := e1 1
    go_wp2
    have hq9 := hr2.set3 2 (to ga) 0
    obtain ⟨q0, q1, q2⟩ := hq9
    refine bodyPost_ret (v := .agg #[.int .i64 2, .int .i64 (to ga), .int .i64 0]) (by simp [results, Try.results45, go_sem, q0, q1, q2]) rfl ?_
    exact ⟨by rw [hR.out], below_set3 hB3 (by omega) _ _ _⟩
  | one_ hk a0 b0 =>
    dsimp only at hk a0 b0
    subst hk
    subst a0
    subst b0
    have hR : Hid (mvG to ⟨3, 0, 0⟩ = ⟨3, 0, 0⟩) := Lib.hid (by simp [mvG])
    go_enter Try.func45, Try.ntmps45
    have hq := hx0; obtain ⟨k0, k1, k2⟩ := hq
    have hq := hr0; obtain ⟨r0, r1, r2⟩ := hq
    have g0 := f0 0; have g1 := f0 1; have g2 := f0 2
    go_wp2
    refine bodyPost_ret (v := .agg #[.int .i64 3, .int .i64 0, .int .i64 0]) (by simp [results, Try.results45, go_sem]) rfl ?_
    exact ⟨by rw [hR.out], hB1.alloc (by simp) _⟩
  | xor_ hk a0 a1 b0 b1 =>
    dsimp only at hk a0 a1 b0 b1
    subst hk
    have hR : Hid (mvG to ⟨0, ga, gb⟩ = ⟨0, to ga, to gb⟩) := Lib.hid (by simp [mvG])
    have hfa := Lib.hid (hf.out ga a0 a1)
    have hfb := Lib.hid (hf.out gb b0 b1)
    have hbd := below_drewN hB 1
    have hbw := below_drewN (Below.refl ((w.alloc (.cells #[.int .i64 0, .int .i64 ga, .int .i64 gb] 50)).alloc (.cells #[.int .i64 0, .int .i64 0, .int .i64 0] 50)).heap.size ((w.alloc (.cells #[.int .i64 0, .int .i64 ga, .int .i64 gb] 50)).alloc (.cells #[.int .i64 0, .int .i64 0, .int .i64 0] 50))) 1
    go_enter Try.func45, Try.ntmps45
    have hq := hx0; obtain ⟨k0, k1, k2⟩ := hq
    go_wp2_with fail
    go_region_law (first | (go_simp; refine (hfa.out _ hbd).mono ?_; rintro e v1 ⟨rfl, hb1⟩; have hx1 := hx0.below (hbw.trans (hb1.mono (Nat.le_refl _))); have hq1 := hx1; obtain ⟨m0, m1, m2⟩ := hq1) | (go_simp; refine (hfb.out _ (hbd.trans (hb1.mono hbd.size))).mono ?_; rintro e v2 ⟨rfl, hb2⟩; have hB2 := (hbd.trans (hb1.mono hbd.size)).trans (hb2.mono (Nat.le_trans hbd.size hb1.size)); have hbv := (hbw.trans (hb1.mono (Nat.le_refl _))).trans (hb2.mono hb1.size); have hx2 := hx0.below hbv; have hq2 := hx2; obtain ⟨n0, n1, n2⟩ := hq2; have e2 := e0.below hbv (by simp; omega); have e21 := e2 1; have e22 := e2 2))
    all_goals
      have hz2 := hB2.size
      have hB3 := (hB2.setCell (p := ⟨w.heap.size, 1, none⟩) (by show w.heap.size ≤ w.heap.size; omega) (.int .i64 (to ga))).setCell (p := ⟨w.heap.size, 2, none⟩) (by show w.heap.size ≤ w.heap.size; omega) (.int .i64 (to gb))
      have hx3 := (hx2.setA (to ga)).setB (to gb)
      have hr2 := ((hr0.below hbv).far ⟨w.heap.size, 1, none⟩ (.int .i64 (to ga)) (by simp)).far ⟨w.heap.size, 2, none⟩ (.int .i64 (to gb)) (by simp)
      have f2 := f0.below hbv (by simp)
      obtain ⟨p0, p1, p2⟩ := hx3
      have hq := hr2; obtain ⟨s0, s1, s2⟩ := hq
      have g0 := f2 0; have g1 := f2 1; have g2 := f2 2
      go_wp2
      have hq9 := hr2.set3 0 (to ga) (to gb)
      obtain ⟨q0, q1, q2⟩ := hq9
      refine bodyPost_ret (v := .agg #[.int .i64 0, .int .i64 (to ga), .int .i64 (to gb)]) (by simp [results, Try.results45, go_sem, q0, q1, q2]) rfl ?_
      exact ⟨by rw [hR.out], below_set3 hB3 (by omega) _ _ _⟩
  | and_ hk a0 a1 b0 b1 =>
    dsimp only at hk a0 a1 b0 b1
    subst hk
    have hR : Hid (mvG to ⟨1, ga, gb⟩ = ⟨1, to ga, to gb⟩) := Lib.hid (by simp [mvG])
    have hfa := Lib.hid (hf.out ga a0 a1)
    have hfb := Lib.hid (hf.out gb b0 b1)
    have hbd := below_drewN hB 1
    have hbw := below_drewN (Below.refl ((w.alloc (.cells #[.int .i64 1, .int .i64 ga, .int .i64 gb] 50)).alloc (.cells #[.int .i64 0, .int .i64 0, .int .i64 0] 50)).heap.size ((w.alloc (.cells #[.int .i64 1, .int .i64 ga, .int .i64 gb] 50)).alloc (.cells #[.int .i64 0, .int .i64 0, .int .i64 0] 50))) 1
    go_enter Try.func45, Try.ntmps45
    have hq := hx0; obtain ⟨k0, k1, k2⟩ := hq
    go_wp2_with fail
    go_region_law (first | (go_simp; refine (hfa.out _ hbd).mono ?_; rintro e v1 ⟨rfl, hb1⟩; have hx1 := hx0.below (hbw.trans (hb1.mono (Nat.le_refl _))); have hq1 := hx1; obtain ⟨m0, m1, m2⟩ := hq1) | (go_simp; refine (hfb.out _ (hbd.trans (hb1.mono hbd.size))).mono ?_; rintro e v2 ⟨rfl, hb2⟩; have hB2 := (hbd.trans (hb1.mono hbd.size)).trans (hb2.mono (Nat.le_trans hbd.size hb1.size)); have hbv := (hbw.trans (hb1.mono (Nat.le_refl _))).trans (hb2.mono hb1.size); have hx2 := hx0.below hbv; have hq2 := hx2; obtain ⟨n0, n1, n2⟩ := hq2; have e2 := e0.below hbv (by simp; omega); have e21 := e2 1; have e22 := e2 2))
    all_goals
      have hz2 := hB2.size
      have hB3 := (hB2.setCell (p := ⟨w.heap.size, 1, none⟩) (by show w.heap.size ≤ w.heap.size; omega) (.int .i64 (to ga))).setCell (p := ⟨w.heap.size, 2, none⟩) (by show w.heap.size ≤ w.heap.size; omega) (.int .i64 (to gb))
      have hx3 := (hx2.setA (to ga)).setB (to gb)
      have hr2 := ((hr0.below hbv).far ⟨w.heap.size, 1, none⟩ (.int .i64 (to ga)) (by simp)).far ⟨w.heap.size, 2, none⟩ (.int .i64 (to gb)) (by simp)
      have f2 := f0.below hbv (by simp)
      obtain ⟨p0, p1, p2⟩ := hx3
      have hq := hr2; obtain ⟨s0, s1, s2⟩ := hq
      have g0 := f2 0; have g1 := f2 1; have g2 := f2 2
      go_wp2
      have hq9 := hr2.set3 1 (to ga) (to gb)
      obtain ⟨q0, q1, q2⟩ := hq9
      refine bodyPost_ret (v := .agg #[.int .i64 1, .int .i64 (to ga), .int .i64 (to gb)]) (by simp [results, Try.results45, go_sem, q0, q1, q2]) rfl ?_
      exact ⟨by rw [hR.out], below_set3 hB3 (by omega) _ _ _⟩
theorem postRowG.new0 (w : World) : postRowG w 0 [] (.slice (some ⟨w.heap.size, 0, none⟩) 0 0) (w.alloc (.cells #[] 50)) :=
  ⟨_, _, rfl, (OwnG_new0 w w.heap.size (Nat.le_refl _)).hi_ (by simp), (Below.refl _ _).alloc (Nat.le_refl _) _⟩
theorem postRow.new0 (w : World) : postRow w 0 [] (.slice (some ⟨w.heap.size, 0, none⟩) 0 0) (w.alloc (.cells #[] 3)) := by simpa using postRow.new w [] 0 rfl (by omega)
section
variable {W : World} {own : Nat → Prop} {cs : List (Addr × Value)} {sk : List (Nat × List Nat × List Nat)} {ini fi : List Nat} {rs : List (Nat × Res)} {ops : Array Oper} {L : Act → (Nat → Value) → Prop} {k : Nat} {o : Oper} {rest : List Oper} {a : Act} {ρ : Nat → Value}
def Res.two (lo ng no : Nat) (gs : List G3) (os : List Int) (V : Option Addr → Nat → Option Addr → Nat → Value) : Res :=
  ⟨fun _ v => ∃ A c O d, v = V A c O d, fun _ v w => ∀ A c O d, v = V A c O d → OwnC w lo w.heap.size A ng c O no d gs os,
    fun _ v b => ∃ A c O d, v = V A c O d ∧ ((Value.slice A ng c).ownBlock = some b ∨ (Value.slice O no d).ownBlock = some b), fun _ => ⟨V none 0 none 0, none, 0, none, 0, rfl⟩,
    fun _ v w w' S h k hb A c O d hv => by
      have h1 := h A c O d hv
      exact ⟨(h1.1.alt k fun g hg => (hb g ⟨A, c, O, d, hv, .inl hg⟩).1).now, (h1.2.1.alt k fun g hg => (hb g ⟨A, c, O, d, hv, .inr hg⟩).1).now, h1.2.2⟩⟩
def postTwo (w : World) (ng no : Nat) (gs : List G3) (os : List Int) (V : Option Addr → Nat → Option Addr → Nat → Value) (v : Value) (w' : World) : Prop := ∃ A c O d, v = V A c O d ∧ OwnC w' w.heap.size w'.heap.size A ng c O no d gs os ∧ Below w.heap.size w w'
theorem postTwo.mk_ {w w' : World} {ng no : Nat} {gs : List G3} {os : List Int} {V : Option Addr → Nat → Option Addr → Nat → Value} {v : Value} (A : Option Addr) (c : Nat) (O : Option Addr) (d : Nat) (hv : v = V A c O d) (h : OwnC w' w.heap.size w'.heap.size A ng c O no d gs os) (hb : Below w.heap.size w w') : postTwo w ng no gs os V v w' := ⟨A, c, O, d, hv, h, hb⟩
end
section
variable {P : Program} {W : World} {own : Nat → Prop} {cs : List (Addr × Value)} {sk : List (Nat × List Nat × List Nat)} {ini fi : List Nat} {rs : List (Nat × Res)} {ops : Array Oper} {L : Act → (Nat → Value) → Prop} {k : Nat} {o : Oper} {rest : List Oper} {a : Act} {ρ : Nat → Value}
end
end Go.Proofs.Ytikgagjoapggnaa
