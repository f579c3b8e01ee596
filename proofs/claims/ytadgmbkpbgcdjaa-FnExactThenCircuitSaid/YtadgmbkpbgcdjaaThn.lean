/- ThenCircuit: what it returns, in plain words; its closure; the program's own. Lengths below 2^21. -/
import Derived.Test.YtadgmbkpbgcdjaaBes
import Derived.Test.YtadgmbkpbgcdjaaRes3
import Derived.Test.YtadgmbkpbgcdjaaCln
namespace Go.Proofs.Ytadgmbkpbgcdjaa
open Go.RowKit
set_option linter.unusedVariables false
set_option linter.unusedSimpArgs false
attribute [local go_sem] sepAt sepUpon pureAt pureUpon

/-- One circuit behind another one. -/
def thenF (x y : Int) (gs : List G3) (os : List Int) (u v : Int) (hs : List G3) (ps : List Int) : Option Ci :=
  if circB x y gs os && (circB u v hs ps && (decide ((os.length : Int) = u + v) && circB x y (gs ++ mvs (wmap os (x + y + gs.length)) hs hs.length) (mvo (wmap os (x + y + gs.length)) ps ps.length))) then some ⟨x, y, gs ++ mvs (wmap os (x + y + gs.length)) hs hs.length, mvo (wmap os (x + y + gs.length)) ps ps.length⟩ else none
theorem thenF_len (x y : Int) (gs : List G3) (os : List Int) (u v : Int) (hs : List G3) (ps : List Int) : ((thenF x y gs os u v hs ps).getD ⟨0, 0, [], []⟩).gs.length ≤ 300 ∧ ((thenF x y gs os u v hs ps).getD ⟨0, 0, [], []⟩).os.length ≤ 40 := by
  unfold thenF
  split
  · rename_i h
    simp only [Bool.and_eq_true] at h
    have := circB_bd h.2.2.2
    simp only [Option.getD_some]; omega
  · simp
theorem thenF_1 {x y : Int} {gs : List G3} {os : List Int} {u v : Int} {hs : List G3} {ps : List Int} (h : circB x y gs os = false) : thenF x y gs os u v hs ps = none := by simp [thenF, h]
theorem thenF_2 {x y : Int} {gs : List G3} {os : List Int} {u v : Int} {hs : List G3} {ps : List Int} (h : circB u v hs ps = false) : thenF x y gs os u v hs ps = none := by simp [thenF, h]
theorem thenF_3 {x y : Int} {gs : List G3} {os : List Int} {u v : Int} {hs : List G3} {ps : List Int} {no : Nat} (hl : os.length = no) (h : ¬ (no : Int) = u + v) : thenF x y gs os u v hs ps = none := by subst hl; simp [thenF, h]
theorem thenF_t {x y : Int} {gs : List G3} {os : List Int} {u v : Int} {hs : List G3} {ps : List Int} {ng no mg mo : Nat} (hg : gs.length = ng) (ho : os.length = no) (hh : hs.length = mg) (hp : ps.length = mo) (h0 : circB x y gs os = true) (h1 : circB u v hs ps = true) (h : (no : Int) = u + v) :
    thenF x y gs os u v hs ps = if circB x y (gs ++ mvs (wmap os (x + y + ng)) hs mg) (mvo (wmap os (x + y + ng)) ps mo) = true then some ⟨x, y, (gs ++ mvs (wmap os (x + y + ng)) hs mg), (mvo (wmap os (x + y + ng)) ps mo)⟩ else none := by
  subst hg; subst ho; subst hh; subst hp; unfold thenF; simp [h0, h1, h]

set_option maxRecDepth 100000 in
theorem Then_1_any (Bc Bd : Nat) (x y : Int) (Ag : Option Addr) (ng cg : Nat) (Ao : Option Addr) (no co : Nat) (u v : Int) (Dg : Option Addr) (mg dg : Nat) (Do : Option Addr) (mo do_ : Nat) (os : List Int) (z : Int) (w : World) (hc : BxC w Bc x y Ag ng cg Ao no co) (hd : BxC w Bd u v Dg mg dg Do mo do_) (ho : RI w Ao no os) (hx : 0 ≤ x ∧ x ≤ 20) (hy : 0 ≤ y ∧ y ≤ 20) (hu : 0 ≤ u ∧ u ≤ 20) (hv : 0 ≤ v ∧ v ≤ 20) (hn : ng ≤ 300) (hno : no ≤ 40) (hE1 : (no : Int) ≤ u + v) (hE2 : u + v ≤ no) (hz : 0 ≤ z) (hz2 : z ≤ 100000) :
    Calls Try.prog 69 #[.int .i64 z, .pointer (some ⟨Bd, 0, none⟩), .pointer (some ⟨Bc, 0, none⟩)] w fun e w' => e = .returned (.int .i64 (wmap os (x + y + ng) z)) ∧ Below w.heap.size w w' := by
  have hlo := ho.len
  have hq := hc; obtain ⟨k0, k1, k2, k3⟩ := hq
  have hq := hd; obtain ⟨l0, l1, l2, l3⟩ := hq
  by_cases h1 : z < u + v
  · obtain ⟨Z, rfl⟩ : ∃ Z : Nat, z = Z := ⟨z.toNat, by omega⟩
    have HR : Hid (wmap os (x + y + ng) Z = gi os Z) := Lib.hid (by unfold wmap; rw [if_pos (by omega)]; rfl)
    go_enter Try.func69, Try.ntmps69
    go_wp2_with fail
    refine (Circuit_inputs_any u v Dg mg dg Do mo do_ _ hu hv).mono ?_
    rintro e w1 ⟨rfl, hb1⟩
    have hc1 := hc.below hb1
    obtain ⟨b, o, rfl, hbl, hce⟩ := (ho.below hb1 (Nat.le_refl _)).at_ (k := Z) (by omega)
    clear k0 k1 k2 k3 l0 l1 l2 l3
    obtain ⟨k0, k1, k2, k3⟩ := hc1
    go_wp2
    go_ret
    exact ⟨by rw [HR.out]; rfl, hb1⟩
  · have HR : Hid (wmap os (x + y + ng) z = x + y + ng + z - (u + v)) := Lib.hid (by unfold wmap; rw [if_neg (by omega)]; omega)
    have hw1 : IntKind.i64.wrap (x + y + (ng : Int) + z) = x + y + ng + z := IntWalk.i64_in _ (by omega)
    have hw2 : IntKind.i64.wrap (x + y + (ng : Int) + z - (u + v)) = x + y + ng + z - (u + v) := IntWalk.i64_in _ (by omega)
    go_enter Try.func69, Try.ntmps69
    go_wp2_with fail
    refine (Circuit_inputs_any u v Dg mg dg Do mo do_ _ hu hv).mono ?_
    rintro e w1 ⟨rfl, hb1⟩
    have hc1 := hc.below hb1
    have hd1 := hd.below hb1
    clear k0 k1 k2 k3 l0 l1 l2 l3
    obtain ⟨k0, k1, k2, k3⟩ := hc1
    obtain ⟨l0, l1, l2, l3⟩ := hd1
    go_wp2_with fail
    refine wp_region_keep (w1.heap.size) (w1) [(⟨Bc, 0, none⟩, .int .i64 x), (⟨Bc, 1, none⟩, .int .i64 y), (⟨Bc, 2, none⟩, .slice Ag ng cg), (⟨Bc, 3, none⟩, .slice Ao no co), (⟨Bd, 0, none⟩, .int .i64 u), (⟨Bd, 1, none⟩, .int .i64 v), (⟨Bd, 2, none⟩, .slice Dg mg dg), (⟨Bd, 3, none⟩, .slice Do mo do_)] (by kernel_rfl) (by kernel_rfl) (by simp only [List.mem_cons, forall_eq_or_imp, List.not_mem_nil, false_implies, implies_true, and_true]; repeat (any_goals (apply And.intro)); all_goals (first | assumption | go_simp)) ?_
    repeat (first
      | go_big_quiet_skip
      | (go_big_quiet_want
         apply Exists.intro
         refine ⟨fun w3 hw3 => ?_, ?_⟩
         · have hcs := hw3.2
           simp only [List.mem_cons, forall_eq_or_imp, List.not_mem_nil, false_implies, implies_true, and_true] at hcs
           simp only [Oper.quietAt]
           go_simp
           first | done | exact ⟨rfl, rfl⟩ | rfl | (go_at_call 61; refine (Circuit_wires_any _ _ _ _ _ _ _ _ _ hx hy (by omega)).mono ?_; rintro e w6 ⟨rfl, hb6⟩; exact ⟨rfl, hw3.next hb6 (Nat.le_refl _)⟩) | (go_at_call 58; refine (Circuit_inputs_any _ _ _ _ _ _ _ _ _ hu hv).mono ?_; rintro e w6 ⟨rfl, hb6⟩; exact ⟨rfl, hw3.next hb6 (Nat.le_refl _)⟩)
         go_big_quiet_on
         try simp only [Act.put, List.setIfInBounds_toArray, List.set_cons_zero, List.set_cons_succ]))
    refine wpQuiet_nil ?_
    intro wq hwq
    go_wp2
    go_ret
    exact ⟨by rw [HR.out]; first | rfl | (congr 2), hb1.trans (hwq.1.mono hb1.size)⟩

set_option maxRecDepth 100000 in
set_option maxHeartbeats 3000000 in
theorem ThenCircuit_any (x y : Int) (Ag : Option Addr) (ng cg : Nat) (Ao : Option Addr) (no co : Nat) (u v : Int) (Dg : Option Addr) (mg dg : Nat) (Do : Option Addr) (mo do_ : Nat) (gs : List G3) (os : List Int) (hs : List G3) (ps : List Int) (w : World) (hr : RG w Ag ng gs ∧ RI w Ao no os) (hng : ng ≤ 2097152) (hno : no ≤ 2097152) (hr2 : RG w Dg mg hs ∧ RI w Do mo ps) (hmg : mg ≤ 2097152) (hmo : mo ≤ 2097152) :
    Calls Try.prog 24 #[.agg #[.int .i64 x, .int .i64 y, .slice Ag ng cg, .slice Ao no co], .agg #[.int .i64 u, .int .i64 v, .slice Dg mg dg, .slice Do mo do_]] w (RetC w (thenF x y gs os u v hs ps)) := by
  have hlg := hr.1.len
  have hlo := hr.2.len
  have hlh := hr2.1.len
  have hlp := hr2.2.len
  have hB : Below w.heap.size w (((w.alloc (.cells #[.int .i64 x, .int .i64 y, .slice Ag ng cg, .slice Ao no co] 40)).alloc (.cells #[.int .i64 u, .int .i64 v, .slice Dg mg dg, .slice Do mo do_] 40)).alloc (.cells #[.int .i64 0, .int .i64 0, .slice none 0 0, .slice none 0 0] 40)) := (((Below.refl _ _).alloc (Nat.le_refl _) _).alloc (by simp) _).alloc (by simp; omega) _
  have hc0 : BxC (((w.alloc (.cells #[.int .i64 x, .int .i64 y, .slice Ag ng cg, .slice Ao no co] 40)).alloc (.cells #[.int .i64 u, .int .i64 v, .slice Dg mg dg, .slice Do mo do_] 40)).alloc (.cells #[.int .i64 0, .int .i64 0, .slice none 0 0, .slice none 0 0] 40)) w.heap.size x y Ag ng cg Ao no co := ((BxC.new w _).below ((Below.refl _ _).alloc (Nat.le_refl _) _)).below ((Below.refl _ _).alloc (Nat.le_refl _) _)
  have hd0 : BxC (((w.alloc (.cells #[.int .i64 x, .int .i64 y, .slice Ag ng cg, .slice Ao no co] 40)).alloc (.cells #[.int .i64 u, .int .i64 v, .slice Dg mg dg, .slice Do mo do_] 40)).alloc (.cells #[.int .i64 0, .int .i64 0, .slice none 0 0, .slice none 0 0] 40)) (w.heap.size + 1) u v Dg mg dg Do mo do_ := by
    have h := (BxC.new (x := u) (y := v) (Ag := Dg) (ng := mg) (cg := dg) (Ao := Do) (no := mo) (co := do_) (w.alloc (.cells #[.int .i64 x, .int .i64 y, .slice Ag ng cg, .slice Ao no co] 40)) 40).below ((Below.refl _ _).alloc (Nat.le_refl _) (.cells #[.int .i64 0, .int .i64 0, .slice none 0 0, .slice none 0 0] 40))
    simpa using h
  have hz0 : BxC (((w.alloc (.cells #[.int .i64 x, .int .i64 y, .slice Ag ng cg, .slice Ao no co] 40)).alloc (.cells #[.int .i64 u, .int .i64 v, .slice Dg mg dg, .slice Do mo do_] 40)).alloc (.cells #[.int .i64 0, .int .i64 0, .slice none 0 0, .slice none 0 0] 40)) (w.heap.size + 2) 0 0 none 0 0 none 0 0 := by
    have h := BxC.new (x := 0) (y := 0) (Ag := none) (ng := 0) (cg := 0) (Ao := none) (no := 0) (co := 0) ((w.alloc (.cells #[.int .i64 x, .int .i64 y, .slice Ag ng cg, .slice Ao no co] 40)).alloc (.cells #[.int .i64 u, .int .i64 v, .slice Dg mg dg, .slice Do mo do_] 40)) 40
    simpa using h
  have fz0 : Fz (((w.alloc (.cells #[.int .i64 x, .int .i64 y, .slice Ag ng cg, .slice Ao no co] 40)).alloc (.cells #[.int .i64 u, .int .i64 v, .slice Dg mg dg, .slice Do mo do_] 40)).alloc (.cells #[.int .i64 0, .int .i64 0, .slice none 0 0, .slice none 0 0] 40)) (w.heap.size + 2) := by
    have h := Fz.new ((w.alloc (.cells #[.int .i64 x, .int .i64 y, .slice Ag ng cg, .slice Ao no co] 40)).alloc (.cells #[.int .i64 u, .int .i64 v, .slice Dg mg dg, .slice Do mo do_] 40)) #[.int .i64 0, .int .i64 0, .slice none 0 0, .slice none 0 0] 40
    simpa using h
  have hs0 : (((w.alloc (.cells #[.int .i64 x, .int .i64 y, .slice Ag ng cg, .slice Ao no co] 40)).alloc (.cells #[.int .i64 u, .int .i64 v, .slice Dg mg dg, .slice Do mo do_] 40)).alloc (.cells #[.int .i64 0, .int .i64 0, .slice none 0 0, .slice none 0 0] 40)).heap.size = w.heap.size + 3 := by simp
  have ht0 : (((w.alloc (.cells #[.int .i64 x, .int .i64 y, .slice Ag ng cg, .slice Ao no co] 40)).alloc (.cells #[.int .i64 u, .int .i64 v, .slice Dg mg dg, .slice Do mo do_] 40)).alloc (.cells #[.int .i64 0, .int .i64 0, .slice none 0 0, .slice none 0 0] 40)).heap.size = (((w.alloc (.cells #[.int .i64 x, .int .i64 y, .slice Ag ng cg, .slice Ao no co] 40)).alloc (.cells #[.int .i64 u, .int .i64 v, .slice Dg mg dg, .slice Do mo do_] 40)).alloc (.cells #[.int .i64 0, .int .i64 0, .slice none 0 0, .slice none 0 0] 40)).heap.size := rfl
  obtain ⟨V0, hV0⟩ : ∃ V0, V0 = (((w.alloc (.cells #[.int .i64 x, .int .i64 y, .slice Ag ng cg, .slice Ao no co] 40)).alloc (.cells #[.int .i64 u, .int .i64 v, .slice Dg mg dg, .slice Do mo do_] 40)).alloc (.cells #[.int .i64 0, .int .i64 0, .slice none 0 0, .slice none 0 0] 40)) := ⟨_, rfl⟩
  have hB0 : Below w.heap.size w V0 := by rw [hV0]; exact hB
  have hcV : BxC V0 w.heap.size x y Ag ng cg Ao no co := by rw [hV0]; exact hc0
  have hdV : BxC V0 (w.heap.size + 1) u v Dg mg dg Do mo do_ := by rw [hV0]; exact hd0
  have hzV : BxC V0 (w.heap.size + 2) 0 0 none 0 0 none 0 0 := by rw [hV0]; exact hz0
  have fzV : Fz V0 (w.heap.size + 2) := by rw [hV0]; exact fz0
  have hsV : V0.heap.size = w.heap.size + 3 := by rw [hV0]; exact hs0
  clear hV0 ht0 hB0 hcV hdV hzV fzV hsV V0
  cases h0 : circB x y gs os with
  | false =>
    have HR := Lib.hid (thenF_1 (u := u) (v := v) (hs := hs) (ps := ps) h0)
    have H0 := Lib.hid h0; clear h0
    go_enter Try.func24, Try.ntmps24
    have hq := hc0; obtain ⟨k0, k1, k2, k3⟩ := hq
    have hq := hd0; obtain ⟨l0, l1, l2, l3⟩ := hq
    go_wp2_with fail
    refine wp_region_keep ((w.heap.size + 3)) ((((w.alloc (.cells #[.int .i64 x, .int .i64 y, .slice Ag ng cg, .slice Ao no co] 40)).alloc (.cells #[.int .i64 u, .int .i64 v, .slice Dg mg dg, .slice Do mo do_] 40)).alloc (.cells #[.int .i64 0, .int .i64 0, .slice none 0 0, .slice none 0 0] 40))) [(⟨w.heap.size, 0, none⟩, .int .i64 x), (⟨w.heap.size, 1, none⟩, .int .i64 y), (⟨w.heap.size, 2, none⟩, .slice Ag ng cg), (⟨w.heap.size, 3, none⟩, .slice Ao no co), (⟨w.heap.size + 1, 0, none⟩, .int .i64 u), (⟨w.heap.size + 1, 1, none⟩, .int .i64 v), (⟨w.heap.size + 1, 2, none⟩, .slice Dg mg dg), (⟨w.heap.size + 1, 3, none⟩, .slice Do mo do_)] (by kernel_rfl) (by kernel_rfl) (by simp only [List.mem_cons, forall_eq_or_imp, List.not_mem_nil, false_implies, implies_true, and_true]; repeat (any_goals (apply And.intro)); all_goals (first | assumption | go_simp)) ?_
    repeat (first
      | go_big_quiet_skip
      | (go_big_quiet_want
         apply Exists.intro
         refine ⟨fun w3 hw3 => ?_, ?_⟩
         · have hcs := hw3.2
           simp only [List.mem_cons, forall_eq_or_imp, List.not_mem_nil, false_implies, implies_true, and_true] at hcs
           simp only [Oper.quietAt]
           go_simp
           first | done | exact ⟨rfl, rfl⟩ | rfl | (go_at_call_of 56 (Value.agg #[.int .i64 x, .int .i64 y, .slice Ag ng cg, .slice Ao no co]); refine (IsCircuit_any x y Ag ng cg Ao no co gs os _ (hr.1.below (hB.trans (hw3.1.mono (by omega))) (Nat.le_refl _)) (hr.2.below (hB.trans (hw3.1.mono (by omega))) (Nat.le_refl _)) hng hno).mono ?_; rintro e w4 ⟨he, hb4⟩; rw [H0.out] at he; obtain rfl := he; exact ⟨rfl, hw3.next hb4 (by simp)⟩)
         go_big_quiet_on
         try simp only [Act.put, List.setIfInBounds_toArray, List.set_cons_zero, List.set_cons_succ]))
    refine wpQuiet_nil ?_
    intro wq hwq
    have hb1 : Below (((w.alloc (.cells #[.int .i64 x, .int .i64 y, .slice Ag ng cg, .slice Ao no co] 40)).alloc (.cells #[.int .i64 u, .int .i64 v, .slice Dg mg dg, .slice Do mo do_] 40)).alloc (.cells #[.int .i64 0, .int .i64 0, .slice none 0 0, .slice none 0 0] 40)).heap.size (((w.alloc (.cells #[.int .i64 x, .int .i64 y, .slice Ag ng cg, .slice Ao no co] 40)).alloc (.cells #[.int .i64 u, .int .i64 v, .slice Dg mg dg, .slice Do mo do_] 40)).alloc (.cells #[.int .i64 0, .int .i64 0, .slice none 0 0, .slice none 0 0] 40)) wq := by rw [hs0]; exact hwq.1
    have hBq := hB.trans (hb1.mono hB.size)
    have hcq := hc0.below hb1
    have hdq := hd0.below hb1
    have hzq := hz0.below hb1
    have fzq := fz0.below hb1 (by rw [hs0]; omega)
    have hsq := hb1.size
    rw [hs0] at hsq
    clear hwq hb1 k0 k1 k2 k3 l0 l1 l2 l3 hc0 hd0 hz0 fz0 hB hs0
    have hq := hzq; obtain ⟨r0, r1, r2, r3⟩ := hq
    have g0 := fzq 0; have g1 := fzq 1; have g2 := fzq 2; have g3 := fzq 3
    go_wp2
    have hq9 := BxC.set4 (hzq) 0 0 none 0 0 none 0 0
    obtain ⟨q0, q1, q2, q3⟩ := hq9
    refine bodyPost_ret (v := .tuple #[.agg #[.int .i64 0, .int .i64 0, .slice none 0 0, .slice none 0 0], .bool false]) (by simp [results, Try.results24, go_sem, q0, q1, q2, q3]) rfl ?_
    exact RetC.none_ (below_set4 hBq (by omega) _ _ _ _ _ _ _ _) HR.out rfl
  | true =>
    cases h1 : circB u v hs ps with
    | false =>
      have HR := Lib.hid (thenF_2 (x := x) (y := y) (gs := gs) (os := os) h1)
      have H0 := Lib.hid h0; have H1 := Lib.hid h1; clear h0 h1
      go_enter Try.func24, Try.ntmps24
      have hq := hc0; obtain ⟨k0, k1, k2, k3⟩ := hq
      have hq := hd0; obtain ⟨l0, l1, l2, l3⟩ := hq
      go_wp2_with fail
      refine wp_region_keep ((w.heap.size + 3)) ((((w.alloc (.cells #[.int .i64 x, .int .i64 y, .slice Ag ng cg, .slice Ao no co] 40)).alloc (.cells #[.int .i64 u, .int .i64 v, .slice Dg mg dg, .slice Do mo do_] 40)).alloc (.cells #[.int .i64 0, .int .i64 0, .slice none 0 0, .slice none 0 0] 40))) [(⟨w.heap.size, 0, none⟩, .int .i64 x), (⟨w.heap.size, 1, none⟩, .int .i64 y), (⟨w.heap.size, 2, none⟩, .slice Ag ng cg), (⟨w.heap.size, 3, none⟩, .slice Ao no co), (⟨w.heap.size + 1, 0, none⟩, .int .i64 u), (⟨w.heap.size + 1, 1, none⟩, .int .i64 v), (⟨w.heap.size + 1, 2, none⟩, .slice Dg mg dg), (⟨w.heap.size + 1, 3, none⟩, .slice Do mo do_)] (by kernel_rfl) (by kernel_rfl) (by simp only [List.mem_cons, forall_eq_or_imp, List.not_mem_nil, false_implies, implies_true, and_true]; repeat (any_goals (apply And.intro)); all_goals (first | assumption | go_simp)) ?_
      repeat (first
        | go_big_quiet_skip
        | (go_big_quiet_want
           apply Exists.intro
           refine ⟨fun w3 hw3 => ?_, ?_⟩
           · have hcs := hw3.2
             simp only [List.mem_cons, forall_eq_or_imp, List.not_mem_nil, false_implies, implies_true, and_true] at hcs
             simp only [Oper.quietAt]
             go_simp
             first | done | exact ⟨rfl, rfl⟩ | rfl | (go_at_call_of 56 (Value.agg #[.int .i64 x, .int .i64 y, .slice Ag ng cg, .slice Ao no co]); refine (IsCircuit_any x y Ag ng cg Ao no co gs os _ (hr.1.below (hB.trans (hw3.1.mono (by omega))) (Nat.le_refl _)) (hr.2.below (hB.trans (hw3.1.mono (by omega))) (Nat.le_refl _)) hng hno).mono ?_; rintro e w4 ⟨he, hb4⟩; rw [H0.out] at he; obtain rfl := he; exact ⟨rfl, hw3.next hb4 (by simp)⟩) | (go_at_call_of 56 (Value.agg #[.int .i64 u, .int .i64 v, .slice Dg mg dg, .slice Do mo do_]); refine (IsCircuit_any u v Dg mg dg Do mo do_ hs ps _ (hr2.1.below (hB.trans (hw3.1.mono (by omega))) (Nat.le_refl _)) (hr2.2.below (hB.trans (hw3.1.mono (by omega))) (Nat.le_refl _)) hmg hmo).mono ?_; rintro e w4 ⟨he, hb4⟩; rw [H1.out] at he; obtain rfl := he; exact ⟨rfl, hw3.next hb4 (by simp)⟩)
           go_big_quiet_on
           try simp only [Act.put, List.setIfInBounds_toArray, List.set_cons_zero, List.set_cons_succ]))
      refine wpQuiet_nil ?_
      intro wq hwq
      have hb1 : Below (((w.alloc (.cells #[.int .i64 x, .int .i64 y, .slice Ag ng cg, .slice Ao no co] 40)).alloc (.cells #[.int .i64 u, .int .i64 v, .slice Dg mg dg, .slice Do mo do_] 40)).alloc (.cells #[.int .i64 0, .int .i64 0, .slice none 0 0, .slice none 0 0] 40)).heap.size (((w.alloc (.cells #[.int .i64 x, .int .i64 y, .slice Ag ng cg, .slice Ao no co] 40)).alloc (.cells #[.int .i64 u, .int .i64 v, .slice Dg mg dg, .slice Do mo do_] 40)).alloc (.cells #[.int .i64 0, .int .i64 0, .slice none 0 0, .slice none 0 0] 40)) wq := by rw [hs0]; exact hwq.1
      have hBq := hB.trans (hb1.mono hB.size)
      have hcq := hc0.below hb1
      have hdq := hd0.below hb1
      have hzq := hz0.below hb1
      have fzq := fz0.below hb1 (by rw [hs0]; omega)
      have hsq := hb1.size
      rw [hs0] at hsq
      clear hwq hb1 k0 k1 k2 k3 l0 l1 l2 l3 hc0 hd0 hz0 fz0 hB hs0
      have hq := hzq; obtain ⟨r0, r1, r2, r3⟩ := hq
      have g0 := fzq 0; have g1 := fzq 1; have g2 := fzq 2; have g3 := fzq 3
      go_wp2
      have hq9 := BxC.set4 (hzq) 0 0 none 0 0 none 0 0
      obtain ⟨q0, q1, q2, q3⟩ := hq9
      refine bodyPost_ret (v := .tuple #[.agg #[.int .i64 0, .int .i64 0, .slice none 0 0, .slice none 0 0], .bool false]) (by simp [results, Try.results24, go_sem, q0, q1, q2, q3]) rfl ?_
      exact RetC.none_ (below_set4 hBq (by omega) _ _ _ _ _ _ _ _) HR.out rfl
    | true =>
      have hbx := circB_bd h0
      have hbu := circB_bd h1
      have hgs := circB_gates h0 hlg
      have hgh := circB_gates h1 hlh
      have hps := circB_outs h1 hlh hlp
      have hgt : ∀ k : Nat, k < mg → GateIs (gg hs k) ((u + v) + k) := circB_gate_at h1 hlh
      have hx := hbx.1; have hy := hbx.2.1; have hu := hbu.1; have hv := hbu.2.1
      have hng3 : ng ≤ 300 := by have := hbx.2.2.1; omega
      have hmg3 : mg ≤ 300 := by have := hbu.2.2.1; omega
      have hno3 : no ≤ 40 := by have := hbx.2.2.2.1; omega
      have hmo3 : mo ≤ 40 := by have := hbu.2.2.2.1; omega
      have hao := hbu.2.2.2.2.2
      rw [hlh] at hao
      have H0 := Lib.hid h0; have H1 := Lib.hid h1; clear h0 h1 hbx hbu
      cases hE : ((no : Int) == u + v) with
      | false =>
        have hne : ¬ (no : Int) = u + v := by simpa using hE
        have hE2 : ((no : Int) != u + v) = true := by simpa using hE
        have hE3 : (!((no : Int) == u + v)) = true := by simpa using hE
        have HR := Lib.hid (thenF_3 (x := x) (y := y) (gs := gs) (hs := hs) (ps := ps) (u := u) (v := v) hlo hne); clear hne
        go_enter Try.func24, Try.ntmps24
        have hq := hc0; obtain ⟨k0, k1, k2, k3⟩ := hq
        have hq := hd0; obtain ⟨l0, l1, l2, l3⟩ := hq
        go_wp2_with fail
        refine wp_region_keep ((w.heap.size + 3)) ((((w.alloc (.cells #[.int .i64 x, .int .i64 y, .slice Ag ng cg, .slice Ao no co] 40)).alloc (.cells #[.int .i64 u, .int .i64 v, .slice Dg mg dg, .slice Do mo do_] 40)).alloc (.cells #[.int .i64 0, .int .i64 0, .slice none 0 0, .slice none 0 0] 40))) [(⟨w.heap.size, 0, none⟩, .int .i64 x), (⟨w.heap.size, 1, none⟩, .int .i64 y), (⟨w.heap.size, 2, none⟩, .slice Ag ng cg), (⟨w.heap.size, 3, none⟩, .slice Ao no co), (⟨w.heap.size + 1, 0, none⟩, .int .i64 u), (⟨w.heap.size + 1, 1, none⟩, .int .i64 v), (⟨w.heap.size + 1, 2, none⟩, .slice Dg mg dg), (⟨w.heap.size + 1, 3, none⟩, .slice Do mo do_)] (by kernel_rfl) (by kernel_rfl) (by simp only [List.mem_cons, forall_eq_or_imp, List.not_mem_nil, false_implies, implies_true, and_true]; repeat (any_goals (apply And.intro)); all_goals (first | assumption | go_simp)) ?_
        repeat (first
          | go_big_quiet_skip
          | (go_big_quiet_want
             apply Exists.intro
             refine ⟨fun w3 hw3 => ?_, ?_⟩
             · have hcs := hw3.2
               simp only [List.mem_cons, forall_eq_or_imp, List.not_mem_nil, false_implies, implies_true, and_true] at hcs
               simp only [Oper.quietAt]
               go_simp
               first | done | exact ⟨rfl, rfl⟩ | rfl | (go_at_call_of 56 (Value.agg #[.int .i64 x, .int .i64 y, .slice Ag ng cg, .slice Ao no co]); refine (IsCircuit_any x y Ag ng cg Ao no co gs os _ (hr.1.below (hB.trans (hw3.1.mono (by omega))) (Nat.le_refl _)) (hr.2.below (hB.trans (hw3.1.mono (by omega))) (Nat.le_refl _)) hng hno).mono ?_; rintro e w4 ⟨he, hb4⟩; rw [H0.out] at he; obtain rfl := he; exact ⟨rfl, hw3.next hb4 (by simp)⟩) | (go_at_call_of 56 (Value.agg #[.int .i64 u, .int .i64 v, .slice Dg mg dg, .slice Do mo do_]); refine (IsCircuit_any u v Dg mg dg Do mo do_ hs ps _ (hr2.1.below (hB.trans (hw3.1.mono (by omega))) (Nat.le_refl _)) (hr2.2.below (hB.trans (hw3.1.mono (by omega))) (Nat.le_refl _)) hmg hmo).mono ?_; rintro e w4 ⟨he, hb4⟩; rw [H1.out] at he; obtain rfl := he; exact ⟨rfl, hw3.next hb4 (by simp)⟩) | (go_at_call 58; refine (Circuit_inputs_any u v Dg mg dg Do mo do_ _ hu hv).mono ?_; rintro e w4 ⟨rfl, hb4⟩; exact ⟨rfl, hw3.next hb4 (by simp)⟩)
             go_big_quiet_on
             try simp only [Act.put, List.setIfInBounds_toArray, List.set_cons_zero, List.set_cons_succ]))
        refine wpQuiet_nil ?_
        intro wq hwq
        have hb1 : Below (((w.alloc (.cells #[.int .i64 x, .int .i64 y, .slice Ag ng cg, .slice Ao no co] 40)).alloc (.cells #[.int .i64 u, .int .i64 v, .slice Dg mg dg, .slice Do mo do_] 40)).alloc (.cells #[.int .i64 0, .int .i64 0, .slice none 0 0, .slice none 0 0] 40)).heap.size (((w.alloc (.cells #[.int .i64 x, .int .i64 y, .slice Ag ng cg, .slice Ao no co] 40)).alloc (.cells #[.int .i64 u, .int .i64 v, .slice Dg mg dg, .slice Do mo do_] 40)).alloc (.cells #[.int .i64 0, .int .i64 0, .slice none 0 0, .slice none 0 0] 40)) wq := by rw [hs0]; exact hwq.1
        have hBq := hB.trans (hb1.mono hB.size)
        have hcq := hc0.below hb1
        have hdq := hd0.below hb1
        have hzq := hz0.below hb1
        have fzq := fz0.below hb1 (by rw [hs0]; omega)
        have hsq := hb1.size
        rw [hs0] at hsq
        clear hwq hb1 k0 k1 k2 k3 l0 l1 l2 l3 hc0 hd0 hz0 fz0 hB hs0
        have hq := hzq; obtain ⟨r0, r1, r2, r3⟩ := hq
        have g0 := fzq 0; have g1 := fzq 1; have g2 := fzq 2; have g3 := fzq 3
        go_wp2
        have hq9 := BxC.set4 (hzq) 0 0 none 0 0 none 0 0
        obtain ⟨q0, q1, q2, q3⟩ := hq9
        refine bodyPost_ret (v := .tuple #[.agg #[.int .i64 0, .int .i64 0, .slice none 0 0, .slice none 0 0], .bool false]) (by simp [results, Try.results24, go_sem, q0, q1, q2, q3]) rfl ?_
        exact RetC.none_ (below_set4 hBq (by omega) _ _ _ _ _ _ _ _) HR.out rfl
      | true =>
        have hE2 : ((no : Int) != u + v) = false := by simpa using hE
        have hE3 : (!((no : Int) == u + v)) = false := by simpa using hE
        have HE : Hid ((no : Int) = u + v) := Lib.hid (by simpa using hE)
        have hEa : (no : Int) ≤ u + v := by rw [HE.out]; omega
        have hEb : u + v ≤ (no : Int) := by rw [HE.out]; omega
        have HT := Lib.hid (thenF_t (x := x) (y := y) (gs := gs) (os := os) (hs := hs) (ps := ps) (u := u) (v := v) hlg hlo hlh hlp H0.out H1.out HE.out)
        go_enter Try.func24, Try.ntmps24
        have hq := hc0; obtain ⟨k0, k1, k2, k3⟩ := hq
        have hq := hd0; obtain ⟨l0, l1, l2, l3⟩ := hq
        go_wp2_with fail
        refine wp_region_keep ((w.heap.size + 3)) ((((w.alloc (.cells #[.int .i64 x, .int .i64 y, .slice Ag ng cg, .slice Ao no co] 40)).alloc (.cells #[.int .i64 u, .int .i64 v, .slice Dg mg dg, .slice Do mo do_] 40)).alloc (.cells #[.int .i64 0, .int .i64 0, .slice none 0 0, .slice none 0 0] 40))) [(⟨w.heap.size, 0, none⟩, .int .i64 x), (⟨w.heap.size, 1, none⟩, .int .i64 y), (⟨w.heap.size, 2, none⟩, .slice Ag ng cg), (⟨w.heap.size, 3, none⟩, .slice Ao no co), (⟨w.heap.size + 1, 0, none⟩, .int .i64 u), (⟨w.heap.size + 1, 1, none⟩, .int .i64 v), (⟨w.heap.size + 1, 2, none⟩, .slice Dg mg dg), (⟨w.heap.size + 1, 3, none⟩, .slice Do mo do_)] (by kernel_rfl) (by kernel_rfl) (by simp only [List.mem_cons, forall_eq_or_imp, List.not_mem_nil, false_implies, implies_true, and_true]; repeat (any_goals (apply And.intro)); all_goals (first | assumption | go_simp)) ?_
        repeat (first
          | go_big_quiet_skip
          | (go_big_quiet_want
             apply Exists.intro
             refine ⟨fun w3 hw3 => ?_, ?_⟩
             · have hcs := hw3.2
               simp only [List.mem_cons, forall_eq_or_imp, List.not_mem_nil, false_implies, implies_true, and_true] at hcs
               simp only [Oper.quietAt]
               go_simp
               first | done | exact ⟨rfl, rfl⟩ | rfl | (go_at_call_of 56 (Value.agg #[.int .i64 x, .int .i64 y, .slice Ag ng cg, .slice Ao no co]); refine (IsCircuit_any x y Ag ng cg Ao no co gs os _ (hr.1.below (hB.trans (hw3.1.mono (by omega))) (Nat.le_refl _)) (hr.2.below (hB.trans (hw3.1.mono (by omega))) (Nat.le_refl _)) hng hno).mono ?_; rintro e w4 ⟨he, hb4⟩; rw [H0.out] at he; obtain rfl := he; exact ⟨rfl, hw3.next hb4 (by simp)⟩) | (go_at_call_of 56 (Value.agg #[.int .i64 u, .int .i64 v, .slice Dg mg dg, .slice Do mo do_]); refine (IsCircuit_any u v Dg mg dg Do mo do_ hs ps _ (hr2.1.below (hB.trans (hw3.1.mono (by omega))) (Nat.le_refl _)) (hr2.2.below (hB.trans (hw3.1.mono (by omega))) (Nat.le_refl _)) hmg hmo).mono ?_; rintro e w4 ⟨he, hb4⟩; rw [H1.out] at he; obtain rfl := he; exact ⟨rfl, hw3.next hb4 (by simp)⟩) | (go_at_call 58; refine (Circuit_inputs_any u v Dg mg dg Do mo do_ _ hu hv).mono ?_; rintro e w4 ⟨rfl, hb4⟩; exact ⟨rfl, hw3.next hb4 (by simp)⟩)
             go_big_quiet_on
             try simp only [Act.put, List.setIfInBounds_toArray, List.set_cons_zero, List.set_cons_succ]))
        refine wpQuiet_nil ?_
        intro wq hwq
        have hb1 : Below (((w.alloc (.cells #[.int .i64 x, .int .i64 y, .slice Ag ng cg, .slice Ao no co] 40)).alloc (.cells #[.int .i64 u, .int .i64 v, .slice Dg mg dg, .slice Do mo do_] 40)).alloc (.cells #[.int .i64 0, .int .i64 0, .slice none 0 0, .slice none 0 0] 40)).heap.size (((w.alloc (.cells #[.int .i64 x, .int .i64 y, .slice Ag ng cg, .slice Ao no co] 40)).alloc (.cells #[.int .i64 u, .int .i64 v, .slice Dg mg dg, .slice Do mo do_] 40)).alloc (.cells #[.int .i64 0, .int .i64 0, .slice none 0 0, .slice none 0 0] 40)) wq := by rw [hs0]; exact hwq.1
        have hBq := hB.trans (hb1.mono hB.size)
        have hcq := hc0.below hb1
        have hdq := hd0.below hb1
        have hzq := hz0.below hb1
        have fzq := fz0.below hb1 (by rw [hs0]; omega)
        have hsq := hb1.size
        rw [hs0] at hsq
        clear hwq hb1 k0 k1 k2 k3 l0 l1 l2 l3 hc0 hd0 hz0 fz0 hB hs0
        clear hE hE2 hE3
        have hq := hcq; obtain ⟨k0, k1, k2, k3⟩ := hq
        go_wp2_with fail
        refine wp_region_mem0 (10) [(⟨w.heap.size, 0, none⟩, .int .i64 x), (⟨w.heap.size, 1, none⟩, .int .i64 y), (⟨w.heap.size, 2, none⟩, .slice Ag ng cg)] [(6, [], []), (8, [], []), (9, [6, 8], [6, 8])] [9] [(6, Res.rowG wq.heap.size ng gs), (8, Res.box [.int .i64 0, .int .i64 0, .slice none 0 0, .slice none 0 0]), (9, Res.stG wq.heap.size x y ng gs)] (by kernel_rfl) (by kernel_rfl) (by kernel_rfl) (by simp only [CellsL, List.mem_cons, forall_eq_or_imp, List.not_mem_nil, false_implies, implies_true, and_true]; repeat (any_goals (apply And.intro)); all_goals (first | assumption | go_simp)) ?_
        simp only [List.take_succ_cons, List.take_zero, List.drop_succ_cons, List.drop_zero, List.take_nil, List.drop_nil, List.take, List.drop]
        repeat (first
          | (refine mem_skip (by rfl) (by rfl) ?_
             simp only [Act.put, List.setIfInBounds_toArray, List.set_cons_zero, List.set_cons_succ])
          | (refine mem_pure (by rfl) (by rfl) (fun K hK => ?_)
             apply Exists.intro
             refine ⟨fun w3 hw3 => ?_, ?_⟩
             · have hcs := hw3
               simp only [CellsL, List.mem_cons, forall_eq_or_imp, List.not_mem_nil, false_implies, implies_true, and_true] at hcs
               clear hw3
               go_simp
               first | done | exact ⟨rfl, rfl⟩ | rfl
             refine hK _ ?_
             clear hK K
             try simp only [Act.put, List.setIfInBounds_toArray, List.set_cons_zero, List.set_cons_succ]))
        refine mem_rowG wq.heap.size ng gs (by rfl) (by rfl) (by omega) (fun w3 hw3 hc3 hp3 => ?_) (fun A2 c2 => ?_)
        · have hcs := hc3
          simp only [CellsL, List.mem_cons, forall_eq_or_imp, List.not_mem_nil, false_implies, implies_true, and_true] at hcs
          (go_simp; have hb3 := hBq.trans ((alt_below hw3).mono hBq.size); refine (CloneG_any Ag ng cg gs _ (hr.1.below hb3 (Nat.le_refl _)) hng).mono ?_; rintro e w4 ⟨A4, c4, rfl, ho4, hb4⟩; exact retPost.mk_ (postRowG.mk_ ho4 hb4))
        try simp only [Act.put, List.setIfInBounds_toArray, List.set_cons_zero, List.set_cons_succ]
        repeat (first
          | (refine mem_skip (by rfl) (by rfl) ?_
             simp only [Act.put, List.setIfInBounds_toArray, List.set_cons_zero, List.set_cons_succ])
          | (refine mem_pure (by rfl) (by rfl) (fun K hK => ?_)
             apply Exists.intro
             refine ⟨fun w3 hw3 => ?_, ?_⟩
             · have hcs := hw3
               simp only [CellsL, List.mem_cons, forall_eq_or_imp, List.not_mem_nil, false_implies, implies_true, and_true] at hcs
               clear hw3
               go_simp
               first | done | exact ⟨rfl, rfl⟩ | rfl
             refine hK _ ?_
             clear hK K
             try simp only [Act.put, List.setIfInBounds_toArray, List.set_cons_zero, List.set_cons_succ]))
        refine mem_box [.int .i64 0, .int .i64 0, .slice none 0 0, .slice none 0 0] (by rfl) (by rfl) (fun w3 hw3 hc3 hp3 => ?_) (fun bO => ?_)
        · have hcs := hc3
          simp only [CellsL, List.mem_cons, forall_eq_or_imp, List.not_mem_nil, false_implies, implies_true, and_true] at hcs
          (go_simp; exact postBox.circ _ _)
        try simp only [Act.put, List.setIfInBounds_toArray, List.set_cons_zero, List.set_cons_succ]
        refine mem_stG 6 8 wq.heap.size x y ng gs A2 c2 bO (by rfl) (by rfl) (by rfl) (by rfl) (by rfl) (by rfl) (by decide) (by rfl) (by rfl) (fun w3 hw3 hc3 hz3 hf3 => ?_) ?_
        · obtain ⟨m0, m1, m2, m3⟩ := hz3
          have gz0 := hf3 0; have gz1 := hf3 1; have gz2 := hf3 2; have gz3 := hf3 3
          go_simp; exact postSet.mk_ _ _
        try simp only [Act.put, List.setIfInBounds_toArray, List.set_cons_zero, List.set_cons_succ]
        refine wpSep_end ?_
        intro wt hwt hct hfin hap
        have hst : BxC wt bO x y A2 ng c2 none 0 0 ∧ Fz wt bO ∧ bO < wt.heap.size ∧ OwnG wt wq.heap.size wt.heap.size (.slice A2 ng c2) ng gs ∧ (Value.slice A2 ng c2).ownBlock ≠ some bO := hfin.1.1 A2 c2 bO rfl
        have hbO : wq.heap.size ≤ bO := ((hfin.1.2 bO ⟨A2, c2, bO, rfl, .inl rfl⟩).1).elim id False.elim
        obtain ⟨hob, hof, hol, hG, hGn⟩ := hst
        have hbt := alt_below hwt
        have hzt := hbt.size
        have hBt := hBq.trans (hbt.mono hBq.size)
        have hct' := hcq.below hbt
        have hdt := hdq.below hbt
        have hzzt := hzq.below hbt
        have fzt := fzq.below hbt hzq.lt
        clear hfin hap hct hwt hcq hdq hzq fzq hBq k0 k1 k2 k3 hbt
        have hq := hct'; obtain ⟨k0, k1, k2, k3⟩ := hq
        have hq := hdt; obtain ⟨l0, l1, l2, l3⟩ := hq
        have hq := hob; obtain ⟨o0, o1, o2, o3⟩ := hq
        go_wp2_with fail
        refine (appended_any 69 Try.call69 #[.pointer (some ⟨w.heap.size + 1, 0, none⟩), .pointer (some ⟨w.heap.size, 0, none⟩)] (wmap os (x + y + ng)) x y A2 ng c2 none 0 0 u v Dg mg dg Do mo do_ gs hs ps (u + v + mg) wq.heap.size wt.heap.size _ hG ⟨hr2.1.below hBt (Nat.le_refl _), hr2.2.below hBt (Nat.le_refl _)⟩ ⟨fun hn => hr2.1.lt (by omega) hn, fun hn => hr2.2.lt (by omega) hn⟩ hzt hgh hps (by omega) (by omega) (by omega) (Lib.hid fun z h0 h1 w1 hb => Then_1_any w.heap.size (w.heap.size + 1) x y Ag ng cg Ao no co u v Dg mg dg Do mo do_ os z w1 (hct'.bel hb (by omega)) (hdt.bel hb (by omega)) (hr.2.below (hBt.trans (hb.mono (by omega))) (Nat.le_refl _)) hx hy hu hv (by omega) hno3 hEa hEb h0 (by omega))).mono ?_
        rintro e w4 hA
        obtain ⟨A5, c5, O5, d5, rfl, hG5, hO5, hap5, hat5, hg5⟩ := hA
        have k5 := Alt.of_grown (S := fun i => (Value.slice A2 ng c2).ownBlock = some i) hg5 (fun _ h => h)
        have hA2 : ∀ i, i < wq.heap.size → ¬ (Value.slice A2 ng c2).ownBlock = some i := fun i hi hc => by have := hG.lt i hc; omega
        have hz5 := k5.size
        have hB5 := hBt.trans (k5.below_ (B := w.heap.size) (by omega) (fun i hi => hA2 i (by omega)))
        have hrz5 := hzzt.alt k5 (hA2 _ (by omega))
        have fz5 := fzt.alt k5 hzzt.lt (hA2 _ (by omega))
        have ho5 := hob.alt k5 hGn
        have fo5 := hof.alt k5 hol hGn
        have hn5 : (Value.slice A5 (ng + mg) c5).ownBlock ≠ some bO := fun hc => by
          rcases hat5 with h | h
          · exact hGn (h.symm.trans hc)
          · have := h bO hc; omega
        clear k0 k1 k2 k3 l0 l1 l2 l3 o0 o1 o2 o3 hg5 k5 hob hof hzzt fzt hct' hdt
        have hq := ho5; obtain ⟨k0, k1, k2, k3⟩ := hq
        have g0 := fo5 0; have g1 := fo5 1; have g2 := fo5 2; have g3 := fo5 3
        have k7 := alt_set4 (Alt.refl_ (fun i => i = bO) w4) (fun _ => rfl) x y A5 (ng + mg) c5 none 0 0
        have ho6 := BxC.set4 ho5 x y A5 (ng + mg) c5 none 0 0
        have ho7 := ho6.setO O5 mo d5
        have k8 := k7.set_ ⟨bO, 3, none⟩ (.slice O5 mo d5) (fun _ => rfl)
        have hB6 := (below_set4 hB5 (b := bO) (by omega) x y A5 (ng + mg) c5 none 0 0).setCell (p := ⟨bO, 3, none⟩) (by show w.heap.size ≤ bO; omega) (.slice O5 mo d5)
        have fo6 := (((fo5.set ⟨bO, 0, none⟩ (.int .i64 x)).set ⟨bO, 1, none⟩ (.int .i64 y)).set ⟨bO, 2, none⟩ (.slice A5 (ng + mg) c5)).set ⟨bO, 3, none⟩ (.slice none 0 0)
        have f3 := fo6 3
        have hG6 := hG5.alt k8 (fun g hg hc => hn5 (hc ▸ hg))
        have hO6 := hO5.alt k8 (fun g hg hc => by have := hO5.lt g hg; omega)
        have hrz6 := hrz5.alt k8 (by omega)
        have fz6 := fz5.alt k8 hrz5.lt (by omega)
        have hbo4 : bO < w4.heap.size := by omega
        have hs6 : (((((w4.setCell ⟨bO, 0, none⟩ (.int .i64 x)).setCell ⟨bO, 1, none⟩ (.int .i64 y)).setCell ⟨bO, 2, none⟩ (.slice A5 (ng + mg) c5)).setCell ⟨bO, 3, none⟩ (.slice none 0 0)).setCell ⟨bO, 3, none⟩ (.slice O5 mo d5)).heap.size = w4.heap.size := by simp
        have hq := ho6; obtain ⟨p0, p1, p2, p3⟩ := hq
        have hq := ho7; obtain ⟨q0, q1, q2, q3⟩ := hq
        cases h2 : circB x y (gs ++ mvs (wmap os (x + y + ng)) hs mg) (mvo (wmap os (x + y + ng)) ps mo) with
        | false =>
          have HR : Hid (thenF x y gs os u v hs ps = none) := Lib.hid (by rw [HT.out, h2]; rfl)
          have H2 := Lib.hid h2; clear h2
          go_wp2_with fail
          refine (valid_f x y A5 (ng + mg) c5 O5 mo d5 (gs ++ mvs (wmap os (x + y + ng)) hs mg) (mvo (wmap os (x + y + ng)) ps mo) _ hG6.reads hO6.reads (by omega) (by omega) H2.out).mono ?_
          rintro e v10 ⟨rfl, hb10⟩
          have hrz10 := hrz6.below hb10
          have fz10 := fz6.below hb10 hrz6.lt
          have hB10 := hB6.trans (hb10.mono hB6.size)
          have hq := hrz10; obtain ⟨r0, r1, r2, r3⟩ := hq
          have j0 := fz10 0; have j1 := fz10 1; have j2 := fz10 2; have j3 := fz10 3
          go_wp2
          have hq9 := BxC.set4 (hrz10) 0 0 none 0 0 none 0 0
          obtain ⟨q0, q1, q2, q3⟩ := hq9
          refine bodyPost_ret (v := .tuple #[.agg #[.int .i64 0, .int .i64 0, .slice none 0 0, .slice none 0 0], .bool false]) (by simp [results, Try.results24, go_sem, q0, q1, q2, q3]) rfl ?_
          exact RetC.none_ (below_set4 hB10 (by omega) _ _ _ _ _ _ _ _) HR.out rfl
        | true =>
          have HR : Hid (thenF x y gs os u v hs ps = some ⟨x, y, (gs ++ mvs (wmap os (x + y + ng)) hs mg), (mvo (wmap os (x + y + ng)) ps mo)⟩) := Lib.hid (by rw [HT.out, h2]; rfl)
          have H2 := Lib.hid h2; clear h2
          go_wp2_with fail
          refine (valid_t x y A5 (ng + mg) c5 O5 mo d5 (gs ++ mvs (wmap os (x + y + ng)) hs mg) (mvo (wmap os (x + y + ng)) ps mo) _ hG6.reads hO6.reads (by omega) (by omega) H2.out).mono ?_
          rintro e v10 ⟨rfl, hb10⟩
          have hrz10 := hrz6.below hb10
          have fz10 := fz6.below hb10 hrz6.lt
          have hB10 := hB6.trans (hb10.mono hB6.size)
          have hG10 := (hG6.below hb10 (.inl (Nat.le_refl _))).now
          have hO10 := (hO6.below hb10 (.inl (Nat.le_refl _))).now
          have hC10 : OwnC v10 wq.heap.size v10.heap.size A5 (ng + mg) c5 O5 mo d5 (gs ++ mvs (wmap os (x + y + ng)) hs mg) (mvo (wmap os (x + y + ng)) ps mo) := ⟨hG10, hO10.lo_ (by omega), hap5⟩
          have hgl := hG10.len
          have hol' := hO10.len
          have hq := hrz10; obtain ⟨r0, r1, r2, r3⟩ := hq
          have j0 := fz10 0; have j1 := fz10 1; have j2 := fz10 2; have j3 := fz10 3
          clear hG6 hO6 hrz6 fz6 hB6 hG10 hO10 k0 k1 k2 k3 g0 g1 g2 g3 p0 p1 p2 p3 q0 q1 q2 q3 f3
          go_wp2
          have hq9 := BxC.set4 (hrz10) x y A5 (ng + mg) c5 O5 mo d5
          obtain ⟨q0, q1, q2, q3⟩ := hq9
          refine bodyPost_ret (v := .tuple #[.agg #[.int .i64 x, .int .i64 y, .slice A5 (ng + mg) c5, .slice O5 mo d5], .bool true]) (by simp [results, Try.results24, go_sem, q0, q1, q2, q3]) rfl ?_
          exact RetC.some_ (below_set4 hB10 (by omega) _ _ _ _ _ _ _ _) HR.out hgl hol' rfl (by rw [set4_size]; exact ((hC10.set4 (.inl (by omega)) _ _ _ _ _ _ _ _).lo_ (by omega)))

end Go.Proofs.Ytadgmbkpbgcdjaa
