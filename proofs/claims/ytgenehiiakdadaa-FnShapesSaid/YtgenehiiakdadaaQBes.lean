/- BesideCircuit: what it returns, in plain words; the program's own. Lengths below 2^21. -/
import Derived.Test.YtgenehiiakdadaaQApd
import Derived.Test.YtgenehiiakdadaaQMvd
namespace Go.Proofs.Ytgenehiiakdadaa
open Go.RowKit
set_option linter.unusedVariables false
set_option linter.unusedSimpArgs false

/-- Two circuits beside each other. -/
def besGs (x y u v : Int) (gs hs : List G3) : List G3 := mvs (bes1 x y u v) gs gs.length ++ mvs (bes2 x y u v gs.length) hs hs.length
def besOs (x y u v : Int) (gs : List G3) (os ps : List Int) : List Int := mvo (bes1 x y u v) os os.length ++ mvo (bes2 x y u v gs.length) ps ps.length
def besideF (x y : Int) (gs : List G3) (os : List Int) (u v : Int) (hs : List G3) (ps : List Int) : Option Ci :=
  if circB x y gs os && (circB u v hs ps && circB (x + u) (y + v) (besGs x y u v gs hs) (besOs x y u v gs os ps)) then some ⟨x + u, y + v, besGs x y u v gs hs, besOs x y u v gs os ps⟩ else none
theorem besideF_len (x y : Int) (gs : List G3) (os : List Int) (u v : Int) (hs : List G3) (ps : List Int) : ((besideF x y gs os u v hs ps).getD ⟨0, 0, [], []⟩).gs.length ≤ 300 ∧ ((besideF x y gs os u v hs ps).getD ⟨0, 0, [], []⟩).os.length ≤ 40 := by
  unfold besideF
  split
  · rename_i h
    simp only [Bool.and_eq_true] at h
    have := circB_bd h.2.2
    simp only [Option.getD_some]; omega
  · simp
theorem besideF_1 {x y : Int} {gs : List G3} {os : List Int} {u v : Int} {hs : List G3} {ps : List Int} (h : circB x y gs os = false) : besideF x y gs os u v hs ps = none := by simp [besideF, h]
theorem besideF_2 {x y : Int} {gs : List G3} {os : List Int} {u v : Int} {hs : List G3} {ps : List Int} (h : circB u v hs ps = false) : besideF x y gs os u v hs ps = none := by simp [besideF, h]
theorem besideF_3 {x y : Int} {gs : List G3} {os : List Int} {u v : Int} {hs : List G3} {ps : List Int} {ng no mg mo : Nat} (hg : gs.length = ng) (ho : os.length = no) (hh : hs.length = mg) (hp : ps.length = mo) (h : circB (x + u) (y + v) (mvs (bes1 x y u v) gs ng ++ mvs (bes2 x y u v ng) hs mg) (mvo (bes1 x y u v) os no ++ mvo (bes2 x y u v ng) ps mo) = false) : besideF x y gs os u v hs ps = none := by
  subst hg; subst ho; subst hh; subst hp; unfold besideF besGs besOs; simp [h]
theorem besideF_t {x y : Int} {gs : List G3} {os : List Int} {u v : Int} {hs : List G3} {ps : List Int} {ng no mg mo : Nat} (hg : gs.length = ng) (ho : os.length = no) (hh : hs.length = mg) (hp : ps.length = mo) (h0 : circB x y gs os = true) (h1 : circB u v hs ps = true) (h : circB (x + u) (y + v) (mvs (bes1 x y u v) gs ng ++ mvs (bes2 x y u v ng) hs mg) (mvo (bes1 x y u v) os no ++ mvo (bes2 x y u v ng) ps mo) = true) :
    besideF x y gs os u v hs ps = some ⟨x + u, y + v, (mvs (bes1 x y u v) gs ng ++ mvs (bes2 x y u v ng) hs mg), (mvo (bes1 x y u v) os no ++ mvo (bes2 x y u v ng) ps mo)⟩ := by
  subst hg; subst ho; subst hh; subst hp; unfold besideF besGs besOs; simp [h, h0, h1]
theorem GateIs.mono {g : G3} {n m : Int} (h : GateIs g n) (hm : n ≤ m) : GateIs g m := by
  cases h with
  | xor_ hk a0 a1 b0 b1 => exact .xor_ hk a0 (by omega) b0 (by omega)
  | and_ hk a0 a1 b0 b1 => exact .and_ hk a0 (by omega) b0 (by omega)
  | not_ hk a0 a1 b0 => exact .not_ hk a0 (by omega) b0
  | one_ hk a0 b0 => exact .one_ hk a0 b0
theorem circB_gates {x y : Int} {gs : List G3} {os : List Int} {ng : Nat} (h : circB x y gs os = true) (hl : gs.length = ng) : ∀ k, k < ng → GateIs (gg gs k) (x + y + ng) := fun k hk => by
  subst hl
  exact (gatesB_at (circB_bd h).2.2.2.2.1 hk).mono (by omega)
theorem circB_gate_at {x y : Int} {gs : List G3} {os : List Int} {ng : Nat} (h : circB x y gs os = true) (hl : gs.length = ng) : ∀ k : Nat, k < ng → GateIs (gg gs k) (x + y + k) := fun k hk => by
  subst hl
  exact gatesB_at (circB_bd h).2.2.2.2.1 hk
theorem circB_outs {x y : Int} {gs : List G3} {os : List Int} {ng no : Nat} (h : circB x y gs os = true) (hl : gs.length = ng) (ho : os.length = no) : ∀ k, k < no → 0 ≤ gi os k ∧ gi os k < x + y + ng := fun k hk => by
  subst hl
  have := allB_iff.1 (circB_bd h).2.2.2.2.2 (gi os k) (gi_mem (by omega))
  omega

set_option maxRecDepth 100000 in
set_option maxHeartbeats 3000000 in
theorem BesideCircuit_any (x y : Int) (Ag : Option Addr) (ng cg : Nat) (Ao : Option Addr) (no co : Nat) (u v : Int) (Dg : Option Addr) (mg dg : Nat) (Do : Option Addr) (mo do_ : Nat) (gs : List G3) (os : List Int) (hs : List G3) (ps : List Int) (w : World) (hr : RG w Ag ng gs ∧ RI w Ao no os) (hng : ng ≤ 2097152) (hno : no ≤ 2097152) (hr2 : RG w Dg mg hs ∧ RI w Do mo ps) (hmg : mg ≤ 2097152) (hmo : mo ≤ 2097152) :
    Calls Try.prog 6 #[.agg #[.int .i64 x, .int .i64 y, .slice Ag ng cg, .slice Ao no co], .agg #[.int .i64 u, .int .i64 v, .slice Dg mg dg, .slice Do mo do_]] w (RetC w (besideF x y gs os u v hs ps)) := by
  have hlg := hr.1.len
  have hlo := hr.2.len
  have hlh := hr2.1.len
  have hlp := hr2.2.len
  have hB : Below w.heap.size w (((w.alloc (.cells #[.int .i64 x, .int .i64 y, .slice Ag ng cg, .slice Ao no co] 27)).alloc (.cells #[.int .i64 u, .int .i64 v, .slice Dg mg dg, .slice Do mo do_] 27)).alloc (.cells #[.int .i64 0, .int .i64 0, .slice none 0 0, .slice none 0 0] 27)) := (((Below.refl _ _).alloc (Nat.le_refl _) _).alloc (by simp) _).alloc (by simp; omega) _
  have hc0 : BxC (((w.alloc (.cells #[.int .i64 x, .int .i64 y, .slice Ag ng cg, .slice Ao no co] 27)).alloc (.cells #[.int .i64 u, .int .i64 v, .slice Dg mg dg, .slice Do mo do_] 27)).alloc (.cells #[.int .i64 0, .int .i64 0, .slice none 0 0, .slice none 0 0] 27)) w.heap.size x y Ag ng cg Ao no co := ((BxC.new w _).below ((Below.refl _ _).alloc (Nat.le_refl _) _)).below ((Below.refl _ _).alloc (Nat.le_refl _) _)
  have hd0 : BxC (((w.alloc (.cells #[.int .i64 x, .int .i64 y, .slice Ag ng cg, .slice Ao no co] 27)).alloc (.cells #[.int .i64 u, .int .i64 v, .slice Dg mg dg, .slice Do mo do_] 27)).alloc (.cells #[.int .i64 0, .int .i64 0, .slice none 0 0, .slice none 0 0] 27)) (w.heap.size + 1) u v Dg mg dg Do mo do_ := by
    have h := (BxC.new (x := u) (y := v) (Ag := Dg) (ng := mg) (cg := dg) (Ao := Do) (no := mo) (co := do_) (w.alloc (.cells #[.int .i64 x, .int .i64 y, .slice Ag ng cg, .slice Ao no co] 27)) 27).below ((Below.refl _ _).alloc (Nat.le_refl _) (.cells #[.int .i64 0, .int .i64 0, .slice none 0 0, .slice none 0 0] 27))
    simpa using h
  have hz0 : BxC (((w.alloc (.cells #[.int .i64 x, .int .i64 y, .slice Ag ng cg, .slice Ao no co] 27)).alloc (.cells #[.int .i64 u, .int .i64 v, .slice Dg mg dg, .slice Do mo do_] 27)).alloc (.cells #[.int .i64 0, .int .i64 0, .slice none 0 0, .slice none 0 0] 27)) (w.heap.size + 2) 0 0 none 0 0 none 0 0 := by
    have h := BxC.new (x := 0) (y := 0) (Ag := none) (ng := 0) (cg := 0) (Ao := none) (no := 0) (co := 0) ((w.alloc (.cells #[.int .i64 x, .int .i64 y, .slice Ag ng cg, .slice Ao no co] 27)).alloc (.cells #[.int .i64 u, .int .i64 v, .slice Dg mg dg, .slice Do mo do_] 27)) 27
    simpa using h
  have fz0 : Fz (((w.alloc (.cells #[.int .i64 x, .int .i64 y, .slice Ag ng cg, .slice Ao no co] 27)).alloc (.cells #[.int .i64 u, .int .i64 v, .slice Dg mg dg, .slice Do mo do_] 27)).alloc (.cells #[.int .i64 0, .int .i64 0, .slice none 0 0, .slice none 0 0] 27)) (w.heap.size + 2) := by
    have h := Fz.new ((w.alloc (.cells #[.int .i64 x, .int .i64 y, .slice Ag ng cg, .slice Ao no co] 27)).alloc (.cells #[.int .i64 u, .int .i64 v, .slice Dg mg dg, .slice Do mo do_] 27)) #[.int .i64 0, .int .i64 0, .slice none 0 0, .slice none 0 0] 27
    simpa using h
  have hs0 : (((w.alloc (.cells #[.int .i64 x, .int .i64 y, .slice Ag ng cg, .slice Ao no co] 27)).alloc (.cells #[.int .i64 u, .int .i64 v, .slice Dg mg dg, .slice Do mo do_] 27)).alloc (.cells #[.int .i64 0, .int .i64 0, .slice none 0 0, .slice none 0 0] 27)).heap.size = w.heap.size + 3 := by simp
  cases h0 : circB x y gs os with
  | false =>
    have HR := Lib.hid (besideF_1 (u := u) (v := v) (hs := hs) (ps := ps) h0)
    have H0 := Lib.hid h0; clear h0
    go_enter Try.func6, Try.ntmps6
    have hq := hc0; obtain ⟨k0, k1, k2, k3⟩ := hq
    go_wp2_with fail
    refine (IsCircuit_any x y Ag ng cg Ao no co gs os _ (hr.1.below hB (Nat.le_refl _)) (hr.2.below hB (Nat.le_refl _)) hng hno).mono ?_
    rintro e v1 ⟨rfl, hb1⟩
    rw [H0.out]
    have hz1 := hz0.below hb1
    have fz1 := fz0.below hb1 (by rw [hs0]; omega)
    have hq := hz1; obtain ⟨r0, r1, r2, r3⟩ := hq
    have g0 := fz1 0; have g1 := fz1 1; have g2 := fz1 2; have g3 := fz1 3
    have hB1 := hB.trans (hb1.mono hB.size)
    go_wp2
    have hq9 := BxC.set4 (hz1) 0 0 none 0 0 none 0 0
    obtain ⟨q0, q1, q2, q3⟩ := hq9
    refine bodyPost_ret (v := .tuple #[.agg #[.int .i64 0, .int .i64 0, .slice none 0 0, .slice none 0 0], .bool false]) (by simp [results, Try.results6, go_sem, q0, q1, q2, q3]) rfl ?_
    exact RetC.none_ (below_set4 hB1 (by omega) _ _ _ _ _ _ _ _) HR.out rfl
  | true =>
    cases h1 : circB u v hs ps with
    | false =>
      have HR := Lib.hid (besideF_2 (x := x) (y := y) (gs := gs) (os := os) h1)
      have H0 := Lib.hid h0; have H1 := Lib.hid h1; clear h0 h1
      go_enter Try.func6, Try.ntmps6
      have hq := hc0; obtain ⟨k0, k1, k2, k3⟩ := hq
      go_wp2_with fail
      refine (IsCircuit_any x y Ag ng cg Ao no co gs os _ (hr.1.below hB (Nat.le_refl _)) (hr.2.below hB (Nat.le_refl _)) hng hno).mono ?_
      rintro e v1 ⟨rfl, hb1⟩
      rw [H0.out]
      have hB1 := hB.trans (hb1.mono hB.size)
      have hd1 := hd0.below hb1
      have hq := hd1; obtain ⟨l0, l1, l2, l3⟩ := hq
      go_wp2_with fail
      refine (IsCircuit_any u v Dg mg dg Do mo do_ hs ps _ (hr2.1.below hB1 (Nat.le_refl _)) (hr2.2.below hB1 (Nat.le_refl _)) hmg hmo).mono ?_
      rintro e v2 ⟨rfl, hb2⟩
      rw [H1.out]
      have hz2 := (hz0.below hb1).below hb2
      have fz2 := (fz0.below hb1 (by rw [hs0]; omega)).below hb2 (by have := hb1.size; rw [hs0] at this; omega)
      have hq := hz2; obtain ⟨r0, r1, r2, r3⟩ := hq
      have g0 := fz2 0; have g1 := fz2 1; have g2 := fz2 2; have g3 := fz2 3
      have hB2 := hB1.trans (hb2.mono hB1.size)
      go_wp2
      have hq9 := BxC.set4 (hz2) 0 0 none 0 0 none 0 0
      obtain ⟨q0, q1, q2, q3⟩ := hq9
      refine bodyPost_ret (v := .tuple #[.agg #[.int .i64 0, .int .i64 0, .slice none 0 0, .slice none 0 0], .bool false]) (by simp [results, Try.results6, go_sem, q0, q1, q2, q3]) rfl ?_
      exact RetC.none_ (below_set4 hB2 (by omega) _ _ _ _ _ _ _ _) HR.out rfl
    | true =>
      have hbx := circB_bd h0
      have hbu := circB_bd h1
      have hgs := circB_gates h0 hlg
      have hgh := circB_gates h1 hlh
      have hos := circB_outs h0 hlg hlo
      have hps := circB_outs h1 hlh hlp
      have hx := hbx.1; have hy := hbx.2.1; have hu := hbu.1; have hv := hbu.2.1
      have hng3 : ng ≤ 300 := by have := hbx.2.2.1; omega
      have hmg3 : mg ≤ 300 := by have := hbu.2.2.1; omega
      have hno3 : no ≤ 40 := by have := hbx.2.2.2.1; omega
      have hmo3 : mo ≤ 40 := by have := hbu.2.2.2.1; omega
      have H0 := Lib.hid h0; have H1 := Lib.hid h1; clear h0 h1 hbx hbu
      go_enter Try.func6, Try.ntmps6
      have hq := hc0; obtain ⟨k0, k1, k2, k3⟩ := hq
      go_wp2_with fail
      refine (IsCircuit_any x y Ag ng cg Ao no co gs os _ (hr.1.below hB (Nat.le_refl _)) (hr.2.below hB (Nat.le_refl _)) hng hno).mono ?_
      rintro e v1 ⟨rfl, hb1⟩
      rw [H0.out]
      have hB1 := hB.trans (hb1.mono hB.size)
      have hd1 := hd0.below hb1
      have hq := hd1; obtain ⟨l0, l1, l2, l3⟩ := hq
      go_wp2_with fail
      refine (IsCircuit_any u v Dg mg dg Do mo do_ hs ps _ (hr2.1.below hB1 (Nat.le_refl _)) (hr2.2.below hB1 (Nat.le_refl _)) hmg hmo).mono ?_
      rintro e v2 ⟨rfl, hb2⟩
      rw [H1.out]
      have hz1 := hb1.size
      rw [hs0] at hz1
      have hz2 := hb2.size
      have hB2 := hB1.trans (hb2.mono hB1.size)
      have hc2 := (hc0.below hb1).below hb2
      have hd2 := hd1.below hb2
      have hzz2 := (hz0.below hb1).below hb2
      have fz2 := (fz0.below hb1 (by rw [hs0]; omega)).below hb2 (by omega)
      clear hc0 hd0 hz0 fz0 k0 k1 k2 k3 l0 l1 l2 l3 hd1 hb1 hb2 hB hB1
      have hb3 : Below v2.heap.size v2 (v2.alloc (.cells #[.int .i64 (x + u), .int .i64 (y + v), .slice none 0 0, .slice none 0 0] 27)) := (Below.refl _ _).alloc (Nat.le_refl _) _
      have hB3 := hB2.trans (hb3.mono hB2.size)
      have hc3 := hc2.below hb3
      have hd3 := hd2.below hb3
      have hz3 := hzz2.below hb3
      have fz3 := fz2.below hb3 (by omega)
      have ho3 : BxC (v2.alloc (.cells #[.int .i64 (x + u), .int .i64 (y + v), .slice none 0 0, .slice none 0 0] 27)) v2.heap.size (x + u) (y + v) none 0 0 none 0 0 := BxC.new _ _
      have fo3 := Fz.new v2 #[.int .i64 (x + u), .int .i64 (y + v), .slice none 0 0, .slice none 0 0] 27
      have hs3 : (v2.alloc (.cells #[.int .i64 (x + u), .int .i64 (y + v), .slice none 0 0, .slice none 0 0] 27)).heap.size = v2.heap.size + 1 := by simp
      have hq := hc2; obtain ⟨k0, k1, k2, k3⟩ := hq
      have hq := hd2; obtain ⟨l0, l1, l2, l3⟩ := hq
      obtain ⟨m0, m1, m2, m3⟩ := hc3
      have hq := ho3; obtain ⟨o0, o1, o2, o3⟩ := hq
      go_wp2_with fail
      refine (appended_any 24 Try.call24 #[.pointer (some ⟨w.heap.size, 0, none⟩), .pointer (some ⟨w.heap.size + 1, 0, none⟩)] (bes1 x y u v) (x + u) (y + v) none 0 0 none 0 0 x y Ag ng cg Ao no co [] gs os (x + y + ng) (v2.heap.size + 1) (v2.heap.size + 1) _ (OwnG.none_ _ _ _) ⟨hr.1.below hB3 (Nat.le_refl _), hr.2.below hB3 (Nat.le_refl _)⟩ ⟨fun hn => hr.1.lt (by omega) hn, fun hn => hr.2.lt (by omega) hn⟩ (by simp) hgs hos (by omega) (by omega) (by omega) (Lib.hid fun z h0 h1 w1 hb => Beside_1_any w.heap.size (w.heap.size + 1) x y Ag ng cg Ao no co u v Dg mg dg Do mo do_ z w1 (hc2.below hb3 |>.bel hb (by omega)) (hd3.bel hb (by omega)) hx hy hu hv (by omega) (by omega))).mono ?_
      rintro e w4 hA
      simp only [ApdR, Nat.zero_add, List.nil_append] at hA
      obtain ⟨A1, c1, O1, oc1, rfl, hG1, hO1, hap1, _, hg1⟩ := hA
      have hb4 : Below (v2.alloc (.cells #[.int .i64 (x + u), .int .i64 (y + v), .slice none 0 0, .slice none 0 0] 27)).heap.size (v2.alloc (.cells #[.int .i64 (x + u), .int .i64 (y + v), .slice none 0 0, .slice none 0 0] 27)) w4 := below_of_grownBy hg1
      have hz4 := hb4.size
      have hB4 := hB3.trans (hb4.mono hB3.size)
      have hc4 := (hc2.below hb3).below hb4
      have hd4 := hd3.below hb4
      have hrz4 := hz3.below hb4
      have fz4 := fz3.below hb4 (by omega)
      have ho4 := ho3.below hb4
      have fo4 := fo3.below hb4 (by omega)
      rw [hs3] at hz4 hO1
      clear hc2 hd2 hzz2 fz2 hb3 hB3 hd3 hz3 fz3 ho3 fo3 k0 k1 k2 k3 l0 l1 l2 l3 m0 m1 m2 m3 o0 o1 o2 o3 hb4 hg1 hs3 hB2
      have k5 := alt_set4 (Alt.refl_ (fun i => i = v2.heap.size) w4) (fun _ => rfl) (x + u) (y + v) A1 ng c1 none 0 0
      have hB5 := below_set4 hB4 (b := v2.heap.size) (by omega) (x + u) (y + v) A1 ng c1 none 0 0
      have hc5 := hc4.alt k5 (by omega)
      have hd5 := hd4.alt k5 (by omega)
      have hrz5 := hrz4.alt k5 (by omega)
      have fz5 := fz4.alt k5 hrz4.lt (by omega)
      have ho5 := BxC.set4 ho4 (x + u) (y + v) A1 ng c1 none 0 0
      have fo5 := (((fo4.set ⟨v2.heap.size, 0, none⟩ (.int .i64 (x + u))).set ⟨v2.heap.size, 1, none⟩ (.int .i64 (y + v))).set ⟨v2.heap.size, 2, none⟩ (.slice A1 ng c1)).set ⟨v2.heap.size, 3, none⟩ (.slice none 0 0)
      have hG5 := hG1.alt k5 (fun g hg hc => by have := hG1.lt g hg; omega)
      have hO5 := hO1.alt k5 (fun g hg hc => by have := hO1.lt g hg; omega)
      have hs5 := set4_size (w := w4) (b := v2.heap.size) (x + u) (y + v) A1 ng c1 none 0 0
      have hq := ho4; obtain ⟨k0, k1, k2, k3⟩ := hq
      have g0 := fo4 0; have g1 := fo4 1; have g2 := fo4 2; have g3 := fo4 3
      have hq := ho5; obtain ⟨o0, o1, o2, o3⟩ := hq
      have hq := hd5; obtain ⟨l0, l1, l2, l3⟩ := hq
      clear hc4 hd4 hrz4 fz4 hB4 k5
      go_wp2_with fail
      refine (appended_any 26 Try.call26 #[.pointer (some ⟨w.heap.size + 1, 0, none⟩), .pointer (some ⟨w.heap.size, 0, none⟩)] (bes2 x y u v ng) (x + u) (y + v) A1 ng c1 none 0 0 u v Dg mg dg Do mo do_ (mvs (bes1 x y u v) gs ng) hs ps (u + v + mg) (v2.heap.size + 1) w4.heap.size _ hG5 ⟨hr2.1.below hB5 (Nat.le_refl _), hr2.2.below hB5 (Nat.le_refl _)⟩ ⟨fun hn => hr2.1.lt (by omega) hn, fun hn => hr2.2.lt (by omega) hn⟩ (by rw [hs5]; exact hz4) hgh hps (by omega) (by omega) (by omega) (Lib.hid fun z h0 h1 w1 hb => Beside_2_any w.heap.size (w.heap.size + 1) x y Ag ng cg Ao no co u v Dg mg dg Do mo do_ z w1 (hc5.bel hb (by omega)) (hd5.bel hb (by omega)) hx hy hu hv (by omega) (by omega))).mono ?_
      rintro e w6 hA
      obtain ⟨A2, c2, O2, oc2, rfl, hG2, hO2, hap2, hat2, hg2⟩ := hA
      have k6 := Alt.of_grown (S := fun i => (Value.slice A1 ng c1).ownBlock = some i) hg2 (fun _ h => h)
      have hA1 : ∀ i, i < v2.heap.size + 1 → ¬ (Value.slice A1 ng c1).ownBlock = some i := fun i hi hc => by have := hG5.lt i hc; omega
      have hz6 := k6.size
      rw [hs5] at hz6 hO2
      have hB6 := hB5.trans (k6.below_ (B := w.heap.size) (by rw [hs5]; omega) (fun i hi => hA1 i (by omega)))
      have hrz6 := hrz5.alt k6 (hA1 _ (by omega))
      have fz6 := fz5.alt k6 hrz5.lt (hA1 _ (by omega))
      have ho6 := ho5.alt k6 (hA1 _ (by omega))
      have fo6 := fo5.alt k6 ho5.lt (hA1 _ (by omega))
      have hO6 := hO5.alt k6 (fun g hg hc => hap1 g hc hg)
      have hap6 : Apart (.slice A2 (ng + mg) c2) (.slice O1 no oc1) := fun g h1 h2 => by
        rcases hat2 with h | h
        · exact hap1 g (h.symm.trans h1) h2
        · have h3 := h g h1
          have h4 := hO1.lt g h2
          rw [hs5] at h3
          omega
      clear k0 k1 k2 k3 g0 g1 g2 g3 o0 o1 o2 o3 l0 l1 l2 l3 ho4 fo4 hB5 hc5 hd5 hrz5 fz5 ho5 fo5 hO5 hg2 k6 hat2 hG5 hap1 hG1
      have hq := ho6; obtain ⟨k0, k1, k2, k3⟩ := hq
      have g0 := fo6 0; have g1 := fo6 1; have g2 := fo6 2; have g3 := fo6 3
      have k7 := alt_set4 (Alt.refl_ (fun i => i = v2.heap.size) w6) (fun _ => rfl) (x + u) (y + v) A2 (ng + mg) c2 none 0 0
      have hB7 := below_set4 hB6 (b := v2.heap.size) (by omega) (x + u) (y + v) A2 (ng + mg) c2 none 0 0
      have hrz7 := hrz6.alt k7 (by omega)
      have fz7 := fz6.alt k7 hrz6.lt (by omega)
      have ho7 := BxC.set4 ho6 (x + u) (y + v) A2 (ng + mg) c2 none 0 0
      have fo7 := (((fo6.set ⟨v2.heap.size, 0, none⟩ (.int .i64 (x + u))).set ⟨v2.heap.size, 1, none⟩ (.int .i64 (y + v))).set ⟨v2.heap.size, 2, none⟩ (.slice A2 (ng + mg) c2)).set ⟨v2.heap.size, 3, none⟩ (.slice none 0 0)
      have hG7 := hG2.alt k7 (fun g hg hc => by have := hG2.lt g hg; omega)
      have hO7 := hO6.alt k7 (fun g hg hc => by have := hO6.lt g hg; omega)
      have hP7 := hO2.alt k7 (fun g hg hc => by have := hO2.lt g hg; omega)
      have hs7 := set4_size (w := w6) (b := v2.heap.size) (x + u) (y + v) A2 (ng + mg) c2 none 0 0
      clear ho6 fo6 hrz6 fz6 hB6 hO6 hO2 hG2 k7
      have hO1b : ∀ i, i < v2.heap.size + 1 → ¬ (Value.slice O1 no oc1).ownBlock = some i := fun i hi hc => by have := hO7.lt i hc; omega
      go_wp2_with (at_builtin; go_loud (clear k0 k1 k2 k3 g0 g1 g2 g3; refine wpList_appI _ rfl _ _ rfl rfl hO7 rfl hP7.reads (by omega) (by rw [hs7]; omega) ?_; intro A8 c8 w8 hown8 hg8 hat8 hk8; have k8 := Alt.of_grown (S := fun i => (Value.slice O1 no oc1).ownBlock = some i) hg8 (fun _ h => h); have ho8 := ho7.alt k8 (hO1b _ (by omega)); have fo8 := fo7.alt k8 ho7.lt (hO1b _ (by omega)); have hq := ho8; obtain ⟨k0, k1, k2, k3⟩ := hq; have g3 := fo8 3; have ho9 := ho8.setO A8 (no + mo) c8; have hq := ho9; obtain ⟨o0, o1, o2, o3⟩ := hq))
      have hz8 := k8.size
      rw [hs7] at hz8
      have hB8 := hB7.trans (k8.below_ (B := w.heap.size) (by rw [hs7]; omega) (fun i hi => hO1b i (by omega)))
      have hrz8 := hrz7.alt k8 (hO1b _ (by omega))
      have fz8 := fz7.alt k8 hrz7.lt (hO1b _ (by omega))
      have hG8 := hG7.alt k8 (fun g hg hc => hap6 g hg hc)
      have hap8 : Apart (.slice A2 (ng + mg) c2) (.slice A8 (no + mo) c8) := fun g h1 h2 => by
        rcases hat8 with h | h
        · exact hap6 g h1 (h.symm.trans h2)
        · rw [h, hs7] at h2
          injection h2 with h2
          have h4 := hG7.lt g h1
          rw [hs7] at h4
          omega
      clear hB7 hrz7 fz7 ho7 fo7 hG7 hO7 hP7 hg8 hat8 hk8 hap6
      have k9 := (Alt.refl_ (fun i => i = v2.heap.size) w8).set_ ⟨v2.heap.size, 3, none⟩ (.slice A8 (no + mo) c8) (fun _ => rfl)
      have hB9 := hB8.setCell (p := ⟨v2.heap.size, 3, none⟩) (by show w.heap.size ≤ v2.heap.size; omega) (.slice A8 (no + mo) c8)
      have hrz9 := hrz8.alt k9 (by omega)
      have fz9 := fz8.alt k9 hrz8.lt (by omega)
      have hG9 := hG8.alt k9 (fun g hg hc => by have := hG8.lt g hg; omega)
      have hO9 := hown8.alt k9 (fun g hg hc => by have := hown8.lt g hg; omega)
      clear k9 hrz8 fz8 hB8 hG8 hown8 ho8 ho9
      obtain ⟨GS, hGS⟩ : ∃ GS, Hid ((mvs (bes1 x y u v) gs ng ++ mvs (bes2 x y u v ng) hs mg) = GS) := ⟨_, Lib.hid rfl⟩
      obtain ⟨OS, hOS⟩ : ∃ OS, Hid ((mvo (bes1 x y u v) os no ++ mvo (bes2 x y u v ng) ps mo) = OS) := ⟨_, Lib.hid rfl⟩
      rw [hGS.out] at hG9
      rw [hOS.out] at hO9
      cases h2 : circB (x + u) (y + v) GS OS with
      | false =>
        have HR : Hid (besideF x y gs os u v hs ps = none) := Lib.hid (besideF_3 hlg hlo hlh hlp (by rw [hGS.out, hOS.out]; exact h2))
        have H2 := Lib.hid h2; clear h2
        go_wp2_with fail
        refine (valid_f (x + u) (y + v) A2 (ng + mg) c2 A8 (no + mo) c8 GS OS _ hG9.reads hO9.reads (by omega) (by omega) H2.out).mono ?_
        rintro e v10 ⟨rfl, hb10⟩
        have hrz10 := hrz9.below hb10
        have fz10 := fz9.below hb10 hrz9.lt
        have hB10 := hB9.trans (hb10.mono hB9.size)
        have hq := hrz10; obtain ⟨r0, r1, r2, r3⟩ := hq
        have j0 := fz10 0; have j1 := fz10 1; have j2 := fz10 2; have j3 := fz10 3
        go_wp2
        have hq9 := BxC.set4 (hrz10) 0 0 none 0 0 none 0 0
        obtain ⟨q0, q1, q2, q3⟩ := hq9
        refine bodyPost_ret (v := .tuple #[.agg #[.int .i64 0, .int .i64 0, .slice none 0 0, .slice none 0 0], .bool false]) (by simp [results, Try.results6, go_sem, q0, q1, q2, q3]) rfl ?_
        exact RetC.none_ (below_set4 hB10 (by omega) _ _ _ _ _ _ _ _) HR.out rfl
      | true =>
        have HR : Hid (besideF x y gs os u v hs ps = some ⟨x + u, y + v, GS, OS⟩) := Lib.hid (by rw [besideF_t hlg hlo hlh hlp H0.out H1.out (by rw [hGS.out, hOS.out]; exact h2), hGS.out, hOS.out])
        have H2 := Lib.hid h2; clear h2
        go_wp2_with fail
        refine (valid_t (x + u) (y + v) A2 (ng + mg) c2 A8 (no + mo) c8 GS OS _ hG9.reads hO9.reads (by omega) (by omega) H2.out).mono ?_
        rintro e v10 ⟨rfl, hb10⟩
        have hrz10 := hrz9.below hb10
        have fz10 := fz9.below hb10 hrz9.lt
        have hB10 := hB9.trans (hb10.mono hB9.size)
        have hG10 := (hG9.below hb10 (.inl (Nat.le_refl _))).now
        have hO10 := (hO9.below hb10 (.inl (Nat.le_refl _))).now
        have hC10 : OwnC v10 (v2.heap.size + 1) v10.heap.size A2 (ng + mg) c2 A8 (no + mo) c8 GS OS := ⟨hG10, hO10, hap8⟩
        have hgl := hG10.len
        have hol := hO10.len
        have hq := hrz10; obtain ⟨r0, r1, r2, r3⟩ := hq
        have j0 := fz10 0; have j1 := fz10 1; have j2 := fz10 2; have j3 := fz10 3
        clear hG9 hO9 hrz9 fz9 hB9 hG10 hO10 k0 k1 k2 k3 g3 o0 o1 o2 o3
        go_wp2
        have hq9 := BxC.set4 (hrz10) (x + u) (y + v) A2 (ng + mg) c2 A8 (no + mo) c8
        obtain ⟨q0, q1, q2, q3⟩ := hq9
        refine bodyPost_ret (v := .tuple #[.agg #[.int .i64 (x + u), .int .i64 (y + v), .slice A2 (ng + mg) c2, .slice A8 (no + mo) c8], .bool true]) (by simp [results, Try.results6, go_sem, q0, q1, q2, q3]) rfl ?_
        exact RetC.some_ (below_set4 hB10 (by omega) _ _ _ _ _ _ _ _) HR.out hgl hol rfl (by rw [set4_size]; exact ((hC10.set4 (.inl (by omega)) _ _ _ _ _ _ _ _).lo_ (by omega)))

end Go.Proofs.Ytgenehiiakdadaa
