/- A drawn program: whatever the bytes are, lines of the call's own come back and the reader stays one. -/
import Derived.Deep.CutRange
import Derived.Deep.CutBlock
import Derived.Test.YtenknpcbbcbciaaGreatQS33
namespace Go.Proofs.YtenknpcbbcbciaaGreat
open Go.RowKit
set_option linter.unusedVariables false
set_option linter.unusedSimpArgs false
attribute [local go_sem] sepAt sepUpon pureAt pureUpon
def nms : List Str := [[120], [121], [117], [118], [119], [114], [115], [116], [115, 117, 109], [108, 101, 115, 115], [109, 111, 115, 116], [98, 105, 116]]
theorem nms_short : ∀ s ∈ nms, shortS s := by
 intro s hs; simp only [nms, List.mem_cons, List.not_mem_nil, or_false] at hs
 unfold shortS
 rcases hs with rfl | rfl | rfl | rfl | rfl | rfl | rfl | rfl | rfl | rfl | rfl | rfl <;> simp
def RetPg (b : Nat) (R : Nat → Prop) (T : Nat) (w : World) (e : Ending) (w' : World) : Prop :=
 ∃ (l : List Lp) (A : Option Addr) (n c : Nat), e = .returned (.slice A n c) ∧ OL w' w.heap.size w'.heap.size (.slice A n c) n l ∧ 1 ≤ n ∧ n ≤ 40 ∧ Cur w' b R T ∧ Alt (fun i => i = b) w w'
theorem opsL_short : ∀ s ∈ opsL, shortS s := by
 intro s hs; simp only [opsL, List.mem_cons, List.not_mem_nil, or_false] at hs
 unfold shortS
 rcases hs with rfl | rfl | rfl | rfl | rfl | rfl | rfl | rfl <;> simp
def Qln (ds cells : List Value) : Prop := ∃ x : Ln, x.parts = [] ∧ shL x ∧ cells = lpC ⟨x, none, 0⟩
def Qapp (l : List Lp) (ds cells : List Value) : Prop := ∃ e : Lp, e.x.parts = [] ∧ shL e.x ∧ cells = lpsC (l ++ [e])
def Qst (n : Nat) (ds cells : List Value) : Prop := ∃ ps : List Str, ps.length = n ∧ (∀ s ∈ ps, shortS s) ∧ cells = strV ps
def Qs1 (v : Value) : Prop := ∃ s : Str, shortS s ∧ v = .string (bs s)
theorem Qs1.one : ∃ v, Qs1 v := ⟨_, [], by unfold shortS; simp, rfl⟩
def Qout (s : Str) (ds cells : List Value) : Prop := ∃ (A : Option Addr) (c : Nat), ds.getD 0 undef = .slice A 1 c ∧ cells = lpC ⟨⟨6, [], [], [s], 0, 0, 0⟩, A, c⟩
def Qend (l : List Lp) (s : Str) (ds cells : List Value) : Prop := ∃ (A : Option Addr) (c : Nat), ds.getD 2 undef = .slice A 1 c ∧ cells = lpsC (l ++ [⟨⟨6, [], [], [s], 0, 0, 0⟩, A, c⟩])
set_option maxRecDepth 100000 in
set_option maxHeartbeats 16000000 in
theorem program_any (b : Nat) (R : Nat → Prop) (T : Nat) (w : World) (h : Cur w b R T) (hT : T < 600000000) (hR : ∀ i, R i → i < w.heap.size) (hRb : ¬ R b) :
 Calls Tryz.prog 108 #[.pointer (some ⟨b, 0, none⟩)] w (RetPg b R (T + 2000) w) := by
 have hb := h.lt
 have al0 : Below w.heap.size w (w.alloc (.cells #[.string { data := #[120] }, .string { data := #[121] }, .string { data := #[117] }, .string { data := #[118] }, .string { data := #[119] }, .string { data := #[114] }, .string { data := #[115] }, .string { data := #[116] }, .string { data := #[115, 117, 109] }, .string { data := #[108, 101, 115, 115] }, .string { data := #[109, 111, 115, 116] }, .string { data := #[98, 105, 116] }] 9)) := bA
 have hN0 : RX (w.alloc (.cells #[.string { data := #[120] }, .string { data := #[121] }, .string { data := #[117] }, .string { data := #[118] }, .string { data := #[119] }, .string { data := #[114] }, .string { data := #[115] }, .string { data := #[116] }, .string { data := #[115, 117, 109] }, .string { data := #[108, 101, 115, 115] }, .string { data := #[109, 111, 115, 116] }, .string { data := #[98, 105, 116] }] 9)) (some ⟨w.heap.size, 0, none⟩) 12 nms := RX_lit w nms 9
 have h0 := h.alt (Alt.of_new (S := fun _ => False) al0) (fun h => h) (fun _ _ h => h)
 have ka0 : Alt (fun i => i = b) w (w.alloc (.cells #[.string { data := #[120] }, .string { data := #[121] }, .string { data := #[117] }, .string { data := #[118] }, .string { data := #[119] }, .string { data := #[114] }, .string { data := #[115] }, .string { data := #[116] }, .string { data := #[115, 117, 109] }, .string { data := #[108, 101, 115, 115] }, .string { data := #[109, 111, 115, 116] }, .string { data := #[98, 105, 116] }] 9)) := Alt.of_new al0
 have hs0 : (w.alloc (.cells #[.string { data := #[120] }, .string { data := #[121] }, .string { data := #[117] }, .string { data := #[118] }, .string { data := #[119] }, .string { data := #[114] }, .string { data := #[115] }, .string { data := #[116] }, .string { data := #[115, 117, 109] }, .string { data := #[108, 101, 115, 115] }, .string { data := #[109, 111, 115, 116] }, .string { data := #[98, 105, 116] }] 9)).heap.size = w.heap.size + 1 := by simp
 have hnl : nms.length = 12 := rfl
 have hsh := zH nms_short
 go_enter Tryz.func108, Tryz.ntmps108
 go_wp2_with fail
 generalize w.alloc (.cells #[.string { data := #[120] }, .string { data := #[121] }, .string { data := #[117] }, .string { data := #[118] }, .string { data := #[119] }, .string { data := #[114] }, .string { data := #[115] }, .string { data := #[116] }, .string { data := #[115, 117, 109] }, .string { data := #[108, 101, 115, 115] }, .string { data := #[109, 111, 115, 116] }, .string { data := #[98, 105, 116] }] 9) = a0 at *
 refine (Zbm 9 b R _ _ h0 (by omega) (by omega)).mono ?_
 rintro e a1 ⟨m1, hm1, hm1b, rfl, c1, k1, z1⟩
 have hN1 := hN0.alt k1 (fun b' o' e => by simp only [Option.some.injEq, Addr.mk.injEq] at e; omega)
 have ka1 := ka0.trans_ k1 (fun _ _ h => h)
 have hz1 := ka1.size
 have hz1' : w.heap.size + 1 ≤ a1.heap.size := by have := k1.size; omega
 have hu8 : m1 ≤ 8 := by omega
 have hw1 : IntKind.i64.wrap (2 + (m1 : Int)) = ((2 + m1 : Nat) : Int) := by rw [IntKind.wrap_i64] <;> omega
 clear hN0 h0 ka0 k1 z1 h hm1 hs0
 generalize nms = nms at *
 have hL1 := OLq.none_ (Sh := shL) a1 (w.heap.size + 1) a1.heap.size
 go_wp2
 go_loopg [4, 5] (2 + m1) (fun g lv kv wr => ∃ (l : List Lp) (A : Option Addr) (n c U : Nat), kv = .int .i64 g ∧ lv = .slice A n c ∧ n + g = 2 + m1 ∧ OL wr (w.heap.size + 1) wr.heap.size (.slice A n c) n l ∧ RX wr (some ⟨w.heap.size, 0, none⟩) 12 nms ∧ Cur wr b R U ∧ U + 100 * g ≤ T + 1800 ∧ Alt (fun i => i = b) w wr ∧ w.heap.size + 1 ≤ wr.heap.size)
 case atStart => exact ⟨[], none, 0, 0, _, congrArg (Value.int .i64) (by omega), rfl, by omega, hL1, hN1, c1, by omega, ka1, hz1'⟩
 case round =>
  obtain ⟨l, A, n, c, U, rfl, rfl, hng, hL, hN, hu, hU, ha, hsz⟩ := hrel
  clear hL1 hN1 c1 ka1 hz1 hz1'
  generalize wr = W0 at *
  generalize gk = gK at *
  have hng := zH hng
  have hn10 : n ≤ 10 := by have := hng.out; omega
  have hlen := hL.len
  by_cases hg0 : gK = 0
  ·subst hg0
   have hg1 : ¬ (0 : Int) < ((0 : Nat) : Int) := by omega
   have hn2 : 2 ≤ n := by have := hng.out; omega
   have hn12 : (n : Int) < 12 := by omega
   have hn12' : n < 12 := by omega
   obtain ⟨j, hj⟩ : ∃ j, n = j + 1 := ⟨n - 1, by omega⟩
   have hwj : IntKind.i64.wrap ((n : Int) - 1) = (j : Int) := by rw [IntKind.wrap_i64] <;> omega
   have hjn : (j : Int) < (n : Int) := by omega
   have hjn' : j < n := by omega
   have HJ := zH hj; clear hj
   obtain ⟨g, rfl, hg0', _, hg2, hcl, _, _⟩ := hL.cell hjn'
   have c1 := hcl 1 _ rfl
   have hsm : shortS (lp l j).x.name := ((hL.pa _ (lp_mem (by omega))).2).1
   generalize (lp l j).x.name = nm at *
   obtain ⟨LO, hLO⟩ := lT (W0.heap.size)
   have hLO1 : LO ≤ W0.heap.size := Nat.le_of_eq hLO.out.symm
   have hLO2 : w.heap.size + 1 ≤ LO := by have := hLO.out; omega
   clear hcl hg2
   go_wp2_with fail
   go_wp2_with fail
   refine Zbu (14) [(⟨g, j * 7 + 1, none⟩, .string (bs nm)), (⟨g, j * 7 + 1, none⟩, .string (bs nm))] [(0, [], []), (2, [0], [0]), (10, [], []), (12, [10], []), (13, [2, 12, 10], [2])] [13, 10] [(0, Res.rowP 89 7 LO 0 (fun _ cells => cells = [])), (2, Res.rowP 89 7 LO (0 + n) (fun _ cells => cells = lpsC l)), (10, Res.rowP 9 1 LO 1 (fun _ cells => cells = strV [nm])), (12, Res.rowP 89 7 LO 1 (Qout nm)), (13, Res.rowP 89 7 LO (0 + n + 1) (Qend l nm))] (by kernel_rfl) (by kernel_rfl) (by kernel_rfl) (by simp only [cD, cC, and_true]; repeat (any_goals (apply And.intro)); all_goals (first | assumption | go_simp)) ?_
   simp only [List.take_succ_cons, List.take_zero, List.drop_succ_cons, List.drop_zero, List.take_nil, List.drop_nil, List.take, List.drop]
   refine Zfd 89 7 LO 0 _ (by rfl) (by rfl) hLO1 (by omega) (fun w3 hw3 hc3 hp3 => ?_) (fun A0 c0 => ?_)
   ·go_simp
    exact ⟨#[], rfl, rfl, rfl, rfl⟩
   try simp only [pA, pB, sA, sB, sC]
   repeat (first
    | ((first
     | ((with_reducible refine Zan ?_ ?_ ?_)
        ·exact rfl
        ·exact rfl)
     | ((with_reducible refine Zas ?_ ?_ ?_)
        ·exact rfl
        ·exact Zad rfl rfl rfl rfl))
       intro K hK
       apply Exists.intro
       refine ⟨fun w3 hw3 => ?_, ?_⟩
       ·have hcs := hw3
        simp only [cD, cC, and_true] at hcs
        clear hw3
        go_simp
        first | done | exact ⟨rfl, rfl⟩ | rfl
       refine hK _ ?_
       clear hK K
       try simp only [pA, pB, sA, sB, sC])
    | ((with_reducible refine Zar ?_ ?_ ?_)
       ·exact rfl
       ·exact Zak rfl rfl rfl rfl
       simp only [pA, pB, sA, sB, sC]))
   refine mem_appP 89 23 (.agg #[.int .i64 0, .string ⟨#[]⟩, .string ⟨#[]⟩, .slice none 0 0, .int .i64 0, .int .i64 0, .int .i64 0]) 7 88 0 LO 0 n (fun _ cells => cells = []) (fun _ cells => cells = lpsC l) A0 c0 (some ⟨g, 0, none⟩) c (.tmp 108) (.tmp 109) Tryz.underlying23 Zcs rfl (by decide) (by decide) (by rfl) (by rfl) hLO1 (by rfl) (by rfl) (by decide) (by rfl) (by rfl) (by rfl) (by rfl) (by omega) (fun w3 cells hw3 hc3 hp3 hq3 => ⟨lpsC l, (hL.alt hw3 (fun i _ _ h3 h => h.elim (fun h => by omega) (fun h => h))).rv, lpsC_oneC l, by rw [hq3]; rfl⟩) (fun A2 c2 => ?_)
   try simp only [pA, pB, sA, sB, sC]
   simp only [Nat.zero_add]
   repeat (first
    | ((first
     | ((with_reducible refine Zan ?_ ?_ ?_)
        ·exact rfl
        ·exact rfl)
     | ((with_reducible refine Zas ?_ ?_ ?_)
        ·exact rfl
        ·exact Zad rfl rfl rfl rfl))
       intro K hK
       apply Exists.intro
       refine ⟨fun w3 hw3 => ?_, ?_⟩
       ·have hcs := hw3
        simp only [cD, cC, and_true] at hcs
        clear hw3
        go_simp
        first | done | exact ⟨rfl, rfl⟩ | rfl
       refine hK _ ?_
       clear hK K
       try simp only [pA, pB, sA, sB, sC])
    | ((with_reducible refine Zar ?_ ?_ ?_)
       ·exact rfl
       ·exact Zak rfl rfl rfl rfl
       simp only [pA, pB, sA, sB, sC]))
   refine Zfd 9 1 LO 1 _ (by rfl) (by rfl) hLO1 (by omega) (fun w3 hw3 hc3 hp3 => ?_) (fun A9 c9 => ?_)
   ·go_simp
    exact ⟨#[.string (bs nm)], rfl, rfl, rfl, rfl⟩
   try simp only [pA, pB, sA, sB, sC]
   repeat (first
    | ((first
     | ((with_reducible refine Zan ?_ ?_ ?_)
        ·exact rfl
        ·exact rfl)
     | ((with_reducible refine Zas ?_ ?_ ?_)
        ·exact rfl
        ·exact Zad rfl rfl rfl rfl))
       intro K hK
       apply Exists.intro
       refine ⟨fun w3 hw3 => ?_, ?_⟩
       ·have hcs := hw3
        simp only [cD, cC, and_true] at hcs
        clear hw3
        go_simp
        first | done | exact ⟨rfl, rfl⟩ | rfl
       refine hK _ ?_
       clear hK K
       try simp only [pA, pB, sA, sB, sC])
    | ((with_reducible refine Zar ?_ ?_ ?_)
       ·exact rfl
       ·exact Zak rfl rfl rfl rfl
       simp only [pA, pB, sA, sB, sC]))
   refine Zfd 89 7 LO 1 (Qout nm) (by rfl) (by rfl) hLO1 (by omega) (fun w3 hw3 hc3 hp3 => ?_) (fun A4 c4 => ?_)
   ·go_simp
    exact ⟨#[.int .i64 6, .string ⟨#[]⟩, .string ⟨#[]⟩, .slice A9 1 c9, .int .i64 0, .int .i64 0, .int .i64 0], ⟨A9, c9, rfl, rfl⟩, rfl, rfl, rfl⟩
   try simp only [pA, pB, sA, sB, sC]
   refine mem_appP 89 23 (.agg #[.int .i64 0, .string ⟨#[]⟩, .string ⟨#[]⟩, .slice none 0 0, .int .i64 0, .int .i64 0, .int .i64 0]) 7 88 2 LO n 1 (fun _ cells => cells = lpsC l) (Qend l nm) A2 c2 A4 c4 (.tmp 110) (.tmp 120) Tryz.underlying23 Zcs rfl (by decide) (by decide) (by rfl) (by rfl) hLO1 (by rfl) (by rfl) (by decide) (by rfl) (by rfl) (by rfl) (by rfl) (by omega) (fun w3 cells hw3 hc3 hp3 hq3 => ?_) (fun G cG => ?_)
   ·obtain ⟨cs9, ⟨A7, c7, hds, rfl⟩, ho9⟩ : ∃ cells, Qout nm [.slice A9 1 c9] cells ∧ w3.ownsRow LO 89 7 (.slice A4 1 c4) 1 cells := (Zcl (d := 12) (by decide) hp3 (by rfl) (by rfl)).1
    exact ⟨_, rowP_rv ho9 (by omega), lpC_one _, ⟨A7, c7, hds, by rw [hq3, lpsC_app, lpsC_one]⟩⟩
   try simp only [pA, pB, sA, sB, sC]
   repeat (first
    | ((first
     | ((with_reducible refine Zan ?_ ?_ ?_)
        ·exact rfl
        ·exact rfl)
     | ((with_reducible refine Zas ?_ ?_ ?_)
        ·exact rfl
        ·exact Zad rfl rfl rfl rfl))
       intro K hK
       apply Exists.intro
       refine ⟨fun w3 hw3 => ?_, ?_⟩
       ·have hcs := hw3
        simp only [cD, cC, and_true] at hcs
        clear hw3
        go_simp
        first | done | exact ⟨rfl, rfl⟩ | rfl
       refine hK _ ?_
       clear hK K
       try simp only [pA, pB, sA, sB, sC])
    | ((with_reducible refine Zar ?_ ?_ ?_)
       ·exact rfl
       ·exact Zak rfl rfl rfl rfl
       simp only [pA, pB, sA, sB, sC]))
   refine Zbs ?_
   intro wz hwz hcz hfin hap
   obtain ⟨cs9, ⟨A7, c7, hds, rfl⟩, ho5⟩ : ∃ cells, Qend l nm [.slice A2 n c2, .slice A4 1 c4, .slice A9 1 c9] cells ∧ wz.ownsRow LO 89 7 (.slice G (n + 1) cG) (n + 1) cells := hfin.1.1
   obtain ⟨cs8, rfl, ho9⟩ : ∃ cells, cells = strV [nm] ∧ wz.ownsRow LO 9 1 (.slice A9 1 c9) 1 cells := hfin.2.1.1
   simp only [List.getD_cons_succ, List.getD_cons_zero, Value.slice.injEq, true_and] at hds
   obtain ⟨rfl, rfl⟩ := hds
   have hdj : ∀ q, (Value.slice A9 1 c9).ownBlock = some q → (Value.slice G (n + 1) cG).ownBlock ≠ some q := fun q h1 h2 => hap 13 (by decide) 10 (by decide) (by decide) q h2 h1
   have kz : Alt (fun _ => False) W0 wz := hwz.mono_ (fun i hi h => h.elim (fun h => by omega) (fun h => h))
   have hG : ∀ g, (Value.slice G (n + 1) cG).ownBlock = some g → LO ≤ g := fun g hg => (ho5.lt g hg).1
   have hLz : OL wz (w.heap.size + 1) wz.heap.size (.slice G (n + 1) cG) (n + 1) (l ++ [⟨⟨6, [], [], [nm], 0, 0, 0⟩, A9, c9⟩]) := by
    refine OLq.mk_ (ownsRow_loO ho5 (by omega)) (by simp [hlen]) fun e he => ?_
    rcases List.mem_append.1 he with he | he
    ·have h1 := (hL.alt kz (fun _ _ _ _ h => h)).pa e he
     have hsz9 := hLO.out
     exact ⟨(h1.1.row (fun b' h2 h3 h4 h5 h6 => by have := hG b' h6; omega)).now, h1.2⟩
    ·simp only [List.mem_cons, List.not_mem_nil, or_false] at he
     subst he
     exact ⟨((PaAt.ofRow (r := (Value.slice G (n + 1) cG).ownBlock) ho9 hdj)).lo_ (by omega), ⟨by unfold shortS; simp, by unfold shortS; simp, by simp, by simpa using hsm⟩⟩
   have hzz := kz.size
   have haz := ha.trans_ kz (fun _ _ h => h.elim)
   have rz := hu.alt kz (fun h => h) (fun _ _ h => h)
   clear hfin hap hwz hcz ho5 ho9
   go_wp2_with fail
   refine (Zdb G (n + 1) cG _ _ hLz.reads (by omega) hLz.cap (fun x hx => (hLz.short x hx).s)).mono ?_
   rintro e ay ⟨rfl, by_⟩
   have ky : Alt (fun _ => False) wz ay := Alt.of_new by_
   have hLy := (hLz.alt ky (fun _ _ _ _ h => h)).now
   have ry := rz.alt ky (fun h => h) (fun _ _ h => h)
   have hay := haz.trans_ ky (fun _ _ h => h.elim)
   have hLl := ((hL.alt kz (fun _ _ _ _ h => h)).alt ky (fun _ _ _ _ h => h)).now
   generalize decide (goodP _) = tb
   cases tb with
   | true =>
    go_wp2
    go_ret
    exact ⟨_, G, n + 1, cG, rfl, hLy.lo_ (by omega), by omega, by omega, ry.mono (by omega), hay⟩
   | false =>
    go_wp2
    go_ret
    exact ⟨_, some ⟨g, 0, none⟩, n, c, rfl, hLl.lo_ (by omega), by omega, by omega, ry.mono (by omega), hay⟩
  ·have hg1 : (0 : Int) < (gK : Int) := by omega
   have hg1' : 0 < gK := by omega
   have hn9 : n ≤ 9 := by have := hng.out; omega
   have hn12 : (n : Int) < 12 := by omega
   have hn12' : n < 12 := by omega
   obtain ⟨b', o', hA', hb', hc6⟩ := hN.at_ (k := n) (by omega)
   simp only [Option.some.injEq, Addr.mk.injEq, and_true] at hA'
   obtain ⟨rfl, rfl⟩ := hA'
   rw [Nat.zero_add] at hc6
   have hs0 : shortS (sx nms n) := hsh.out _ (sx_memO (by omega))
   generalize sx nms n = s0 at *
   clear hb'
   go_wp2_with fail
   go_wp2_with fail
   refine Zch (10) ((fun i => i = b ∨ R i)) [(⟨w.heap.size, n, none⟩, .string (bs s0)), (⟨w.heap.size, n, none⟩, .string (bs s0))] [(1, [101], [101]), (9, [], [])] [101] [1, 9] [(101, Res.cur W0 b R U 1), (1, Res.cur W0 b R (U + 2) 6), (9, Res.box [.int .i64 0, .string ⟨#[]⟩, .string ⟨#[]⟩, .slice none 0 0, .int .i64 0, .int .i64 0, .int .i64 0])] ((upd (fun _ => undef) 101 (.int .i64 (0 : Nat)))) (by kernel_rfl) (by kernel_rfl) (by kernel_rfl) (by simp only [cD, cC, and_true]; repeat (any_goals (apply And.intro)); all_goals (first | assumption | go_simp)) (fun q9 hq9 => by simp only [List.mem_cons, List.not_mem_nil, or_false, or_self] at hq9; subst hq9; rintro (h | h) <;> first | (have h' : w.heap.size = b := h; omega) | (have h' : w.heap.size < w.heap.size := hR _ h; omega)) (⟨⟨⟨hu.alt ((Alt.refl_ (fun _ => False) W0).drewN_ 1) (fun h => h) (fun _ _ h => h), fun i hi => ⟨by have := hR i hi; show i < W0.heap.size; omega, rfl⟩⟩, fun i hi => ⟨.inr hi, hi.elim (fun h => h ▸ hu.lt) (fun h => by have := hR i h; show i < W0.heap.size; omega)⟩⟩, trivial⟩) ((fun d hd d' hd' hn c hc hc' => by simp only [List.mem_cons, List.not_mem_nil, or_false] at hd hd'; rcases hd with rfl; rcases hd' with rfl; exact hn rfl)) ?_
   simp only [List.take_succ_cons, List.take_zero, List.drop_succ_cons, List.drop_zero, List.take_nil, List.drop_nil, List.take, List.drop]
   repeat (first
    | ((first
     | ((with_reducible refine Zan ?_ ?_ ?_)
        ·exact rfl
        ·exact rfl)
     | ((with_reducible refine Zas ?_ ?_ ?_)
        ·exact rfl
        ·exact Zad rfl rfl rfl rfl))
       intro K hK
       apply Exists.intro
       refine ⟨fun w3 hw3 => ?_, ?_⟩
       ·have hcs := hw3
        simp only [cD, cC, and_true] at hcs
        clear hw3
        go_simp
        first | done | exact ⟨rfl, rfl⟩ | rfl
       refine hK _ ?_
       clear hK K
       try simp only [pA, pB, sA, sB, sC])
    | ((with_reducible refine Zar ?_ ?_ ?_)
       ·exact rfl
       ·exact Zak rfl rfl rfl rfl
       simp only [pA, pB, sA, sB, sC]))
   refine mem_pick 101 b R U (U + 2) 1 6 W0 (.int .i64 (0 : Nat)) hRb (by rfl) (by rfl) (by rfl) (by rfl) (by decide) (by rfl) (fun w3 hw3 hc3 hu3 => ?_) (fun x9 hx9 => ?_)
   ·go_simp
    refine (Zbm _ _ R U _ hu3 (by omega) (by omega)).mono ?_
    rintro e w4 ⟨v, hv, hw, rfl, c4, k4, z4⟩
    exact retPost.mk_ ⟨v, hv, rfl, c4, k4⟩
   try simp only [pA, pB, sA, sB, sC]
   have hx5 : x9 ≤ 5 := by omega
   have hwx : IntKind.i64.wrap (1 + (x9 : Int)) = 1 + (x9 : Int) := by rw [IntKind.wrap_i64] <;> omega
   repeat (first
    | ((first
     | ((with_reducible refine Zan ?_ ?_ ?_)
        ·exact rfl
        ·exact rfl)
     | ((with_reducible refine Zas ?_ ?_ ?_)
        ·exact rfl
        ·exact Zad rfl rfl rfl rfl))
       intro K hK
       apply Exists.intro
       refine ⟨fun w3 hw3 => ?_, ?_⟩
       ·have hcs := hw3
        simp only [cD, cC, and_true] at hcs
        clear hw3
        go_simp
        first | done | exact ⟨rfl, rfl⟩ | rfl
       refine hK _ ?_
       clear hK K
       try simp only [pA, pB, sA, sB, sC])
    | ((with_reducible refine Zar ?_ ?_ ?_)
       ·exact rfl
       ·exact Zak rfl rfl rfl rfl
       simp only [pA, pB, sA, sB, sC]))
   focus
    (with_reducible refine mem_box [.int .i64 0, .string ⟨#[]⟩, .string ⟨#[]⟩, .slice none 0 0, .int .i64 0, .int .i64 0, .int .i64 0] ?_ ?_ ?_ ?_ (hw := ?_))
    ·exact rfl
    ·exact rfl
    ·intro w3 hw3 hc3 hp3
     have hcs := hc3
     simp only [cD, cC, and_true] at hcs
     (go_simp; exact postBox.new w3 [.int .i64 0, .string ⟨#[]⟩, .string ⟨#[]⟩, .slice none 0 0, .int .i64 0, .int .i64 0, .int .i64 0] _ ⟨Zaf _ _ 0 _ rfl, Zaf _ _ 1 _ rfl, Zaf _ _ 2 _ rfl, Zaf _ _ 3 _ rfl, Zaf _ _ 4 _ rfl, Zaf _ _ 5 _ rfl, Zaf _ _ 6 _ rfl, trivial⟩)
    rotate_left
    ·first | exact Zao rfl | exact Zad rfl rfl rfl rfl
    intro K
    try simp only [pA, pB, sA, sB, sC]
   refine Zbs ?_
   intro wy hwy hcy hfin hap
   have hC4 : Cur wy b R (U + 2) ∧ ∀ i, R i → i < wy.heap.size ∧ wy.heap[i]? = W0.heap[i]? := hfin.1.1
   obtain ⟨hK0, ⟨d0, d1, d2, d3, d4, d5, d6, _⟩, hKf⟩ := hfin.2.1.1 K rfl
   have hKok : okB W0 (fun i => i = b ∨ R i) K := (hfin.2.1.2 K rfl).1
   have hKn : ¬ (K = b ∨ R K) := fun hc => hap 9 (by decide) 1 (by decide) (by decide) K rfl hc
   have hKl : W0.heap.size ≤ K := hKok.elim (fun h => h) (fun h => absurd h hKn)
   have k6 : Alt (fun i => i = b) W0 wy := alt_back (base := W0) (b := b) (R := R) (own := fun _ => False) (Alt.refl_ _ _) (hwy.mono_ (fun i _ h => h.elim (fun h => .inl h) (fun h => .inr (.inl h)))) (fun i h => h.elim) (fun i hi => (hC4.2 i hi).2)
   have r6 := hC4.1
   have f0 := hKf 0; have f1 := hKf 1; have f2 := hKf 2; have f3 := hKf 3; have f4 := hKf 4; have f5 := hKf 5; have f6 := hKf 6
   obtain ⟨HI, hHI⟩ := lT (W0.heap.size)
   rw [hHI.out] at hKl hL
   have hwH : w.heap.size + 1 ≤ HI := by have := hHI.out; omega
   have kk6 : Alt (fun i => i = b ∨ HI ≤ i) W0 wy := k6.mono_ (fun i _ h => .inl h)
   clear hfin hap hcy hwy hC4 hKok hKn hu hsz k6 hc6 hx9
   simp only [Nat.zero_add] at d1 d2 d3 d4 d5 d6
   have hX0 : LB ((((((((wy.setCell ⟨K, 0, none⟩ (.int .i64 (1 + (x9 : Int)))).setCell ⟨K, 1, none⟩ (.string (bs s0))).setCell ⟨K, 2, none⟩ (.string ⟨#[]⟩)).setCell ⟨K, 3, none⟩ (.slice none 0 0)).setCell ⟨K, 4, none⟩ (.int .i64 0)).setCell ⟨K, 5, none⟩ (.int .i64 0)).setCell ⟨K, 6, none⟩ (.int .i64 0))) K ⟨1 + (x9 : Int), s0, [], [], 0, 0, 0⟩ none 0 :=
    ((((((LB.mk (x := ⟨0, [], [], [], 0, 0, 0⟩) (P := none) (q := 0) d0 d1 d2 d3 d4 d5 d6 hKf hK0).set0 _).set1 s0).set2 []).set3 none [] 0 0 rfl).set4 0).set5 0 |>.set6 0
   have hA7 : Alt (fun i => i = K) wy ((((((((wy.setCell ⟨K, 0, none⟩ (.int .i64 (1 + (x9 : Int)))).setCell ⟨K, 1, none⟩ (.string (bs s0))).setCell ⟨K, 2, none⟩ (.string ⟨#[]⟩)).setCell ⟨K, 3, none⟩ (.slice none 0 0)).setCell ⟨K, 4, none⟩ (.int .i64 0)).setCell ⟨K, 5, none⟩ (.int .i64 0)).setCell ⟨K, 6, none⟩ (.int .i64 0))) :=
    ((((((((Alt.refl_ (fun i => i = K) wy).set_ _ _ (fun _ => rfl)).set_ _ _ (fun _ => rfl)).set_ _ _ (fun _ => rfl)).set_ _ _ (fun _ => rfl)).set_ _ _ (fun _ => rfl)).set_ _ _ (fun _ => rfl)).set_ _ _ (fun _ => rfl))
   have hKb : ¬ K = b := by omega
   have kk7 := kk6.trans_ (T := fun i => i = K) hA7 (fun i hi e => .inr (by omega))
   have r7 := r6.alt hA7 (fun e => hKb e.symm) (fun i hi e => by have := hR i hi; omega)
   have hz7 : Hid (((((((((wy.setCell ⟨K, 0, none⟩ (.int .i64 (1 + (x9 : Int)))).setCell ⟨K, 1, none⟩ (.string (bs s0))).setCell ⟨K, 2, none⟩ (.string ⟨#[]⟩)).setCell ⟨K, 3, none⟩ (.slice none 0 0)).setCell ⟨K, 4, none⟩ (.int .i64 0)).setCell ⟨K, 5, none⟩ (.int .i64 0)).setCell ⟨K, 6, none⟩ (.int .i64 0))).heap.size = wy.heap.size) := zH (by simp)
   go_wp2_with fail
   clear d0 d1 d2 d3 d4 d5 d6 f0 f1 f2 f3 f4 f5 f6 hKf hK0 kk6 r6 hA7
   generalize (((((((wy.setCell ⟨K, 0, none⟩ (.int .i64 (1 + (x9 : Int)))).setCell ⟨K, 1, none⟩ (.string (bs s0))).setCell ⟨K, 2, none⟩ (.string ⟨#[]⟩)).setCell ⟨K, 3, none⟩ (.slice none 0 0)).setCell ⟨K, 4, none⟩ (.int .i64 0)).setCell ⟨K, 5, none⟩ (.int .i64 0)).setCell ⟨K, 6, none⟩ (.int .i64 0)) = a7 at *
   have al8 : Below a7.heap.size a7 (a7.alloc (.cells #[.int .i64 1, .int .i64 2, .int .i64 3, .int .i64 3, .int .i64 3, .int .i64 4] 3)) := bA
   have hr8 : RI (a7.alloc (.cells #[.int .i64 1, .int .i64 2, .int .i64 3, .int .i64 3, .int .i64 3, .int .i64 4] 3)) (some ⟨a7.heap.size, 0, none⟩) 6 [1, 2, 3, 3, 3, 4] := by simpa using RI_lit a7 [1, 2, 3, 3, 3, 4] 3
   rw [hz7.out] at hr8
   have r8 := r7.alt (Alt.of_new (S := fun _ => False) al8) (fun h => h) (fun _ _ h => h)
   have kk8 : Alt (fun i => i = b ∨ HI ≤ i) W0 _ := kk7.new_ al8
   have hX8 := hX0.alt (Alt.of_new (S := fun _ => False) al8) (fun h => h)
   have hb7 : b < wy.heap.size := by have := r7.lt; rw [hz7.out] at this; exact this
   refine (among_any _ 6 6 [1, 2, 3, 3, 3, 4] b R _ _ r8 (by omega) hr8 (by omega) (by omega) (fun q o hA => by simp only [Option.some.injEq, Addr.mk.injEq, and_true] at hA; omega)).mono ?_
   rintro e a9 ⟨x, hxm, rfl, r9, k9, z9⟩
   obtain ⟨V, rfl, hV1, hV4⟩ : ∃ V : Nat, x = (V : Int) ∧ 1 ≤ V ∧ V ≤ 4 := by
    simp only [List.mem_cons, List.not_mem_nil, or_false] at hxm
    exact ⟨x.toNat, by omega, by omega, by omega⟩
   have kk9 : Alt (fun i => i = b ∨ HI ≤ i) W0 a9 := kk8.trans_ k9 (fun _ _ h => .inl h)
   have hX9 := hX8.alt k9 hKb
   clear hxm z9 k9 hX8 kk8 r8 hr8 al8 hX0 kk7 r7 hb7
   go_upto_if 33 with (fail)
   go_cut [] from 15 to 102 (fun wx => ∃ kd : Int, LB wx K ⟨kd, s0, [], [], 0, 0, 0⟩ none 0 ∧ Alt (fun i => i = b ∨ HI ≤ i) W0 wx ∧ Cur wx b R (U + 2 + 2))
   case first =>
    by_cases h2 : n < 2
    ·have h2i : (n : Int) < 2 := by omega
     have d0 := hX9.c0; have f0 := hX9.fz 0
     go_wp2
     go_meet
     exact ⟨1, hX9.set0 1, kk9.set_ ⟨K, 0, none⟩ _ (fun _ => .inr hKl), r9.alt ((Alt.refl_ (fun i => i = K) a9).set_ ⟨K, 0, none⟩ _ (fun _ => rfl)) (fun e => hKb e.symm) (fun i hi e => by have := hR i hi; omega)⟩
    ·have h2i : ¬ (n : Int) < 2 := by omega
     go_wp2
     go_meet
     exact ⟨_, hX9, kk9, r9⟩
   case rest =>
    obtain ⟨kd, hXa, kka, ra⟩ := hcut
    clear hX9 kk9 r9
    have d0 := hXa.c0
    dsimp only at d0
    go_upto_block 2 with (fail)
    clear d0
    go_cut [] from 15 to 102 (fun wx => ∃ (x : Ln) (U' : Nat), x.parts = [] ∧ shL x ∧ LB wx K x none 0 ∧ Alt (fun i => i = b ∨ HI ≤ i) W0 wx ∧ Cur wx b R U' ∧ U' ≤ U + 12)
    case first =>
     have hsl : shL ⟨kd, s0, [], [], 0, 0, 0⟩ := ⟨hs0, by unfold shortS; simp, by simp, by simp⟩
     have d0 := hXa.c0; have d1 := hXa.c1; have d2 := hXa.c2; have d3 := hXa.c3; have d4 := hXa.c4; have d5 := hXa.c5; have d6 := hXa.c6
     have f0 := hXa.fz 0; have f1 := hXa.fz 1; have f2 := hXa.fz 2; have f4 := hXa.fz 4; have f5 := hXa.fz 5; have f6 := hXa.fz 6
     dsimp only at d0 d1 d2 d3 d4 d5 d6
     by_cases q1 : kd = 1
     ·have t1 : (kd == 1) = true := by simp [q1]
      go_wp2
      go_meet
      exact ⟨⟨kd, s0, [], [], (n : Int) % 2, V, 0⟩, U + 2 + 2, rfl, ⟨hs0, by unfold shortS; simp, by simp, by simp⟩, (hXa.set4 _).set5 _, (kka.set_ ⟨K, 4, none⟩ _ (fun _ => .inr hKl)).set_ ⟨K, 5, none⟩ _ (fun _ => .inr hKl), ra.alt (((Alt.refl_ (fun i => i = K) _).set_ ⟨K, 4, none⟩ _ (fun _ => rfl)).set_ ⟨K, 5, none⟩ _ (fun _ => rfl)) (fun e => hKb e.symm) (fun i hi e => by have := hR i hi; omega), by omega⟩
     ·have t1 : (kd == 1) = false := by simp [q1]
      by_cases q2 : kd = 2
      ·have t2 : (kd == 2) = true := by simp [q2]
       obtain ⟨N, hN2⟩ : ∃ N : Nat, 2 ^ V = N := ⟨_, rfl⟩
       have hNb : N ≤ 16 := by rw [← hN2]; exact Nat.le_trans (Nat.pow_le_pow_right (by omega) hV4) (by decide)
       have hNi : (2 : Int) ^ V = N := by rw [← hN2]; simp
       have hta : ((V : Nat) : Int).toNat = V := by simp
       clear hN2
       have hXb := hXa.set5 (V : Int)
       have kkb := kka.set_ ⟨K, 5, none⟩ (.int .i64 (V : Int)) (fun _ => .inr hKl)
       have rb := ra.alt ((Alt.refl_ (fun i => i = K) _).set_ ⟨K, 5, none⟩ (.int .i64 (V : Int)) (fun _ => rfl)) (fun e => hKb e.symm) (fun i hi e => by have := hR i hi; omega)
       go_wp2_with fail
       refine (Zbm N b R _ _ rb (by omega) (by omega)).mono ?_
       rintro e ax ⟨y, hy, hy2, rfl, rc, kc, zc⟩
       have hXc := hXb.alt kc hKb
       have kkc := kkb.trans_ kc (fun _ _ h => .inl h)
       have e6 := hXc.c6; have g6 := hXc.fz 6
       dsimp only at e6
       clear hNi hta d0 d1 d2 d3 d4 d5 d6 f0 f1 f2 f4 f5 f6 hXb kkb rb kc zc
       go_wp2
       go_meet
       exact ⟨⟨kd, s0, [], [], 0, V, y⟩, U + 2 + 2 + 2, rfl, ⟨hs0, by unfold shortS; simp, by simp, by simp⟩, hXc.set6 _, kkc.set_ ⟨K, 6, none⟩ _ (fun _ => .inr hKl), rc.alt ((Alt.refl_ (fun i => i = K) _).set_ ⟨K, 6, none⟩ _ (fun _ => rfl)) (fun e => hKb e.symm) (fun i hi e => by have := hR i hi; omega), by omega⟩
      ·have t2 : (kd == 2) = false := by simp [q2]
       by_cases q3 : kd = 3
       ·have t3 : (kd == 3) = true := by simp [q3]
        have hbc := ra.lt
        go_wp2_with fail
        refine (laOps_new _).mono ?_
        rintro e ax ⟨rfl, hpx, bx⟩
        have hXb := hXa.alt (Alt.of_new (S := fun _ => False) bx) (fun h => h)
        have kkb := kka.new_ bx
        have rb := ra.alt (Alt.of_new (S := fun _ => False) bx) (fun h => h) (fun _ _ h => h)
        go_wp2_with fail
        refine (of_any _ 8 8 opsL b R _ _ rb (by omega) hpx (by omega) (by omega) (fun q o hA => by simp only [Option.some.injEq, Addr.mk.injEq, and_true] at hA; omega)).mono ?_
        rintro e ay ⟨sy, hsy, rfl, rc, kc, zc⟩
        have hXc := hXb.alt kc hKb
        have kkc := kkb.trans_ kc (fun _ _ h => .inl h)
        have e2 := hXc.c2; have g2 := hXc.fz 2
        dsimp only at e2
        clear d0 d1 d2 d3 d4 d5 d6 f0 f1 f2 f4 f5 f6 hXb kkb rb kc zc bx hpx
        go_wp2
        go_meet
        exact ⟨⟨kd, s0, sy, [], 0, 0, 0⟩, U + 2 + 2 + 2, rfl, ⟨hs0, opsL_short _ hsy, by simp, by simp⟩, hXc.set2 _, kkc.set_ ⟨K, 2, none⟩ _ (fun _ => .inr hKl), rc.alt ((Alt.refl_ (fun i => i = K) _).set_ ⟨K, 2, none⟩ _ (fun _ => rfl)) (fun e => hKb e.symm) (fun i hi e => by have := hR i hi; omega), by omega⟩
       ·have t3 : (kd == 3) = false := by simp [q3]
        by_cases q6 : kd = 6
        ·have t6 : (kd == 6) = true := by simp [q6]
         go_wp2
         go_meet
         exact ⟨⟨kd, [], [], [], 0, 0, 0⟩, U + 2 + 2, rfl, ⟨by unfold shortS; simp, by unfold shortS; simp, by simp, by simp⟩, hXa.set1 [], kka.set_ ⟨K, 1, none⟩ _ (fun _ => .inr hKl), ra.alt ((Alt.refl_ (fun i => i = K) _).set_ ⟨K, 1, none⟩ _ (fun _ => rfl)) (fun e => hKb e.symm) (fun i hi e => by have := hR i hi; omega), by omega⟩
        ·have t6 : (kd == 6) = false := by simp [q6]
         go_wp2
         go_meet
         exact ⟨_, _, rfl, hsl, hXa, kka, ra, by omega⟩
    case rest =>
     obtain ⟨x, U2, hxp, hxs, hXb, kkb, rb, hU2⟩ := hcut
     clear hXa kka ra
     have d0 := hXb.c0
     go_wp2_with fail
     refine (Zbn x.kind _).mono ?_
     rintro e ax ⟨rfl, rfl⟩
     clear d0
     have hP3 : partsN x.kind ≤ 3 := by unfold partsN; repeat (first | omega | split)
     generalize partsN x.kind = PN at *
     have hx0 : ({ x with parts := [] } : Ln) = x := by cases x; simp only at hxp; subst hxp; rfl
     have hKs := hXb.lt
     obtain ⟨HK, hHK⟩ := lT (wc.heap.size)
     rw [hHK.out] at hKs
     have hHKl : HK ≤ wc.heap.size := Nat.le_of_eq hHK.out.symm
     have hIK : HI ≤ HK := by omega
     have hst : LB wc K { x with parts := [] } none 0 := by rw [hx0]; exact hXb
     have hrw0 : wc.ownsRow HK 9 1 (.slice none 0 0) 0 (strV []) := World.ownsRow_nil wc HK _ _
     clear hXb hx0
     go_wp2
     go_loopg [8] PN (fun g pv wx => ∃ (ps : List Str) (m : Nat) (PA : Option Addr) (q V2 : Nat), pv = .int .i64 g ∧ m + g = PN ∧ ps.length = m ∧ (∀ s ∈ ps, shortS s) ∧ LB wx K { x with parts := ps } PA q ∧ wx.ownsRow HK 9 1 (.slice PA m q) m (strV ps) ∧ Alt (fun i => i = b ∨ HI ≤ i) W0 wx ∧ Cur wx b R V2 ∧ V2 + 10 * g ≤ U + 60 ∧ HK ≤ wx.heap.size)
     case atStart => exact ⟨[], 0, none, 0, U2, rfl, by omega, rfl, by simp, hst, hrw0, kkb, rb, by omega, hHKl⟩
     case round =>
      obtain ⟨ps, m, PA, q, V2, rfl, hmg, hpl, hps, hX, hrow, kk, hu, hV2, hszr⟩ := hrel
      clear hst hrw0 kkb rb
      have hmg := zH hmg
      have hm3 : m ≤ 3 := by have := hmg.out; omega
      have hbK : b < HK := by omega
      have hob : ∀ g, (Value.slice PA m q).ownBlock = some g → HK ≤ g ∧ g < wr.heap.size := fun g hg => hrow.lt g hg
      by_cases hgk : gk = 0
      ·subst hgk
       have hg2 : ¬ (0 : Int) < ((0 : Nat) : Int) := by omega
       have hb_ := hu.lt
       have hLr := hL.alt kk (fun i h1 h2 _ e => e.elim (fun e => by omega) (fun e => by omega))
       have d0 := hX.c0; have d1 := hX.c1; have d2 := hX.c2; have d3 := hX.c3; have d4 := hX.c4; have d5 := hX.c5; have d6 := hX.c6
       dsimp only at d0 d1 d2 d3 d4 d5 d6
       rw [hpl] at d3
       obtain ⟨LO, hLO⟩ := lT (wr.heap.size)
       have hLO1 : LO ≤ wr.heap.size := Nat.le_of_eq hLO.out.symm
       have hLO2 : HK ≤ LO := by have := hLO.out; omega
       have hpx : shL { x with parts := ps } := ⟨hxs.1, hxs.2.1, by show ps.length ≤ _; omega, hps⟩
       go_wp2_with fail
       go_wp2_with fail
       refine Zbu (6) [(⟨K, 0, none⟩, .int .i64 x.kind), (⟨K, 1, none⟩, .string (bs x.name)), (⟨K, 2, none⟩, .string (bs x.op)), (⟨K, 3, none⟩, .slice PA m q), (⟨K, 4, none⟩, .int .i64 x.party), (⟨K, 5, none⟩, .int .i64 x.width), (⟨K, 6, none⟩, .int .i64 x.value)] [(0, [], []), (2, [0], [0]), (4, [], []), (5, [2, 4], [2])] [5] [(0, Res.rowP 89 7 LO 0 (fun _ cells => cells = [])), (2, Res.rowP 89 7 LO (0 + n) (fun _ cells => cells = lpsC l)), (4, Res.rowP 89 7 LO 1 (fun _ cells => cells = lpC (Lp.mk { x with parts := ps } PA q))), (5, Res.rowP 89 7 LO (0 + n + 1) (fun _ cells => cells = lpsC (l ++ [(Lp.mk { x with parts := ps } PA q)])))] (by kernel_rfl) (by kernel_rfl) (by kernel_rfl) (by simp only [cD, cC, and_true]; repeat (any_goals (apply And.intro)); all_goals (first | assumption | go_simp)) ?_
       simp only [List.take_succ_cons, List.take_zero, List.drop_succ_cons, List.drop_zero, List.take_nil, List.drop_nil, List.take, List.drop]
       refine Zfd 89 7 LO 0 _ (by rfl) (by rfl) hLO1 (by omega) (fun w3 hw3 hc3 hp3 => ?_) (fun A0 c0 => ?_)
       ·go_simp
        exact ⟨#[], rfl, rfl, rfl, rfl⟩
       try simp only [pA, pB, sA, sB, sC]
       repeat (first
        | ((first
         | ((with_reducible refine Zan ?_ ?_ ?_)
            ·exact rfl
            ·exact rfl)
         | ((with_reducible refine Zas ?_ ?_ ?_)
            ·exact rfl
            ·exact Zad rfl rfl rfl rfl))
           intro K hK
           apply Exists.intro
           refine ⟨fun w3 hw3 => ?_, ?_⟩
           ·have hcs := hw3
            simp only [cD, cC, and_true] at hcs
            clear hw3
            go_simp
            first | done | exact ⟨rfl, rfl⟩ | rfl
           refine hK _ ?_
           clear hK K
           try simp only [pA, pB, sA, sB, sC])
        | ((with_reducible refine Zar ?_ ?_ ?_)
           ·exact rfl
           ·exact Zak rfl rfl rfl rfl
           simp only [pA, pB, sA, sB, sC]))
       refine mem_appP 89 23 (.agg #[.int .i64 0, .string ⟨#[]⟩, .string ⟨#[]⟩, .slice none 0 0, .int .i64 0, .int .i64 0, .int .i64 0]) 7 88 0 LO 0 n (fun _ cells => cells = []) (fun _ cells => cells = lpsC l) A0 c0 A c (.tmp 83) (.tmp 84) Tryz.underlying23 Zcs rfl (by decide) (by decide) (by rfl) (by rfl) hLO1 (by rfl) (by rfl) (by decide) (by rfl) (by rfl) (by rfl) (by rfl) (by omega) (fun w3 cells hw3 hc3 hp3 hq3 => ⟨lpsC l, (hLr.alt hw3 (fun i _ _ h3 h => h.elim (fun h => by omega) (fun h => h))).rv, lpsC_oneC l, by rw [hq3]; rfl⟩) (fun A2 c2 => ?_)
       try simp only [pA, pB, sA, sB, sC]
       simp only [Nat.zero_add]
       repeat (first
        | ((first
         | ((with_reducible refine Zan ?_ ?_ ?_)
            ·exact rfl
            ·exact rfl)
         | ((with_reducible refine Zas ?_ ?_ ?_)
            ·exact rfl
            ·exact Zad rfl rfl rfl rfl))
           intro K hK
           apply Exists.intro
           refine ⟨fun w3 hw3 => ?_, ?_⟩
           ·have hcs := hw3
            simp only [cD, cC, and_true] at hcs
            clear hw3
            go_simp
            first | done | exact ⟨rfl, rfl⟩ | rfl
           refine hK _ ?_
           clear hK K
           try simp only [pA, pB, sA, sB, sC])
        | ((with_reducible refine Zar ?_ ?_ ?_)
           ·exact rfl
           ·exact Zak rfl rfl rfl rfl
           simp only [pA, pB, sA, sB, sC]))
       refine Zfd 89 7 LO 1 _ (by rfl) (by rfl) hLO1 (by omega) (fun w3 hw3 hc3 hp3 => ?_) (fun A4 c4 => ?_)
       ·go_simp
        exact ⟨#[.int .i64 x.kind, .string (bs x.name), .string (bs x.op), .slice PA m q, .int .i64 x.party, .int .i64 x.width, .int .i64 x.value], by simp [lpC, hpl], rfl, rfl, rfl⟩
       try simp only [pA, pB, sA, sB, sC]
       refine mem_appP 89 23 (.agg #[.int .i64 0, .string ⟨#[]⟩, .string ⟨#[]⟩, .slice none 0 0, .int .i64 0, .int .i64 0, .int .i64 0]) 7 88 2 LO n 1 (fun _ cells => cells = lpsC l) (fun _ cells => cells = lpsC (l ++ [(Lp.mk { x with parts := ps } PA q)])) A2 c2 A4 c4 (.tmp 85) (.tmp 87) Tryz.underlying23 Zcs rfl (by decide) (by decide) (by rfl) (by rfl) hLO1 (by rfl) (by rfl) (by decide) (by rfl) (by rfl) (by rfl) (by rfl) (by omega) (fun w3 cells hw3 hc3 hp3 hq3 => ?_) (fun G cG => ?_)
       ·obtain ⟨cs9, rfl, ho9⟩ : ∃ cells, cells = lpC (Lp.mk { x with parts := ps } PA q) ∧ w3.ownsRow LO 89 7 (.slice A4 1 c4) 1 cells := (Zcl (d := 4) (by decide) hp3 (by rfl) (by rfl)).1
        exact ⟨_, rowP_rv ho9 (by omega), lpC_one _, by rw [hq3, lpsC_app, lpsC_one]⟩
       try simp only [pA, pB, sA, sB, sC]
       repeat (first
        | ((first
         | ((with_reducible refine Zan ?_ ?_ ?_)
            ·exact rfl
            ·exact rfl)
         | ((with_reducible refine Zas ?_ ?_ ?_)
            ·exact rfl
            ·exact Zad rfl rfl rfl rfl))
           intro K hK
           apply Exists.intro
           refine ⟨fun w3 hw3 => ?_, ?_⟩
           ·have hcs := hw3
            simp only [cD, cC, and_true] at hcs
            clear hw3
            go_simp
            first | done | exact ⟨rfl, rfl⟩ | rfl
           refine hK _ ?_
           clear hK K
           try simp only [pA, pB, sA, sB, sC])
        | ((with_reducible refine Zar ?_ ?_ ?_)
           ·exact rfl
           ·exact Zak rfl rfl rfl rfl
           simp only [pA, pB, sA, sB, sC]))
       refine Zbs ?_
       intro wz hwz hcz hfin hap
       obtain ⟨cs9, rfl, ho5⟩ : ∃ cells, cells = lpsC (l ++ [(Lp.mk { x with parts := ps } PA q)]) ∧ wz.ownsRow LO 89 7 (.slice G (n + 1) cG) (n + 1) cells := hfin.1.1
       have kz : Alt (fun _ => False) wr wz := hwz.mono_ (fun i hi h => h.elim (fun h => by omega) (fun h => h))
       have hG : ∀ g, (Value.slice G (n + 1) cG).ownBlock = some g → LO ≤ g := fun g hg => (ho5.lt g hg).1
       have hLz : OL wz (w.heap.size + 1) wz.heap.size (.slice G (n + 1) cG) (n + 1) (l ++ [(Lp.mk { x with parts := ps } PA q)]) := by
        refine OLq.mk_ (ownsRow_loO ho5 (by omega)) (by simp [hlen]) fun e he => ?_
        rcases List.mem_append.1 he with he | he
        ·have h1 := (hLr.alt kz (fun _ _ _ _ h => h)).pa e he
         exact ⟨(h1.1.row (fun b' h2 h3 h4 h5 h6 => by have := hG b' h6; omega)).now, h1.2⟩
        ·simp only [List.mem_cons, List.not_mem_nil, or_false] at he
         subst he
         refine ⟨(((PaAt.ofRow (r := none) hrow (fun g hg => by simp)).alt kz (fun _ _ _ _ h => h)).row (fun b' h2 h3 h4 h5 h6 => by have := hG b' h6; have := hLO.out; omega)).now.lo_ (by omega), hpx⟩
       have kkz : Alt (fun i => i = b ∨ HI ≤ i) W0 wz := kk.trans_ kz (fun _ _ h => h.elim)
       have rz := hu.alt kz (fun h => h) (fun _ _ h => h)
       have hzz := kz.size
       clear hfin hap hwz hcz ho5 d0 d1 d2 d3 d4 d5 d6 hX hrow kk hu hLr
       go_wp2_with fail
       refine (Zdb G (n + 1) cG _ _ hLz.reads (by omega) hLz.cap (fun x hx => (hLz.short x hx).s)).mono ?_
       rintro e ay ⟨rfl, by_⟩
       have ky : Alt (fun _ => False) wz ay := Alt.of_new by_
       have hLy := (hLz.alt ky (fun _ _ _ _ h => h)).now
       have kky : Alt (fun i => i = b ∨ HI ≤ i) W0 ay := kkz.trans_ ky (fun _ _ h => h.elim)
       have ry := rz.alt ky (fun h => h) (fun _ _ h => h)
       have hsy : LO ≤ ay.heap.size := by have := by_.size; omega
       generalize decide (goodP _) = tb
       clear hLz kkz rz by_ ky hzz kz
       have hng' := hng.out
       have hHI' := hHI.out
       cases tb with
       | true =>
        have hN' := hN.alt kky (fun b' o' e => by simp only [Option.some.injEq, Addr.mk.injEq] at e; omega)
        have ha' := ha.trans_ kky (fun i hi h => h.elim (fun h => h) (fun h => by omega))
        go_wp2
        go_roundg (gK - 1)
        case rel => exact ⟨_, G, n + 1, cG, V2, congrArg (Value.int .i64) (by omega), rfl, by omega, hLy, hN', ry, by omega, ha', by omega⟩
        case measure => omega
       | false =>
        obtain ⟨b9, o9, hA9, _, hc9⟩ := hN.at_ (k := n) (by omega)
        simp only [Option.some.injEq, Addr.mk.injEq, and_true] at hA9
        obtain ⟨rfl, rfl⟩ := hA9
        rw [Nat.zero_add] at hc9
        have hs9 : shortS (sx nms n) := hsh.out _ (sx_memO (by omega))
        generalize sx nms n = s9 at *
        have hc9' := kky.cell_ hc9 (fun h => h.elim (fun h => by have h' : w.heap.size = b := h; omega) (fun h => by have h' : HI ≤ w.heap.size := h; omega))
        have hLr := hL.alt kky (fun i h1 h2 _ e => e.elim (fun e => by omega) (fun e => by omega))
        have hob2 : ∀ g, (Value.slice A n c).ownBlock = some g → w.heap.size + 1 ≤ g ∧ g < HI ∧ g < ay.heap.size := fun g hg => hLr.lt g hg
        have hHIs : HI ≤ ay.heap.size := by have := kky.size; omega
        have hlo7 : w.heap.size + 1 ≤ ay.heap.size := by omega
        clear hLy
        go_wp2_with fail
        go_wp2_with fail
        refine Zch (11) ((fun i => (i = b ∨ R i) ∨ (Value.slice A n c).ownBlock = some i)) [(⟨w.heap.size, n, none⟩, .string (bs s9)), (⟨w.heap.size, n, none⟩, .string (bs s9))] [(7, [101], [101]), (9, [], []), (10, [100, 9], [100])] [100, 101] [7, 10] [(100, Res.rowP 89 7 (w.heap.size + 1) n (fun _ cells => cells = lpsC l)), (101, Res.cur ay b R V2 1), (7, Res.cur ay b R (V2 + 2) 2), (9, Res.rowP 89 7 (w.heap.size + 1) 1 Qln), (10, Res.rowP 89 7 (w.heap.size + 1) (n + 1) (Qapp l))] ((upd (upd (fun _ => undef) 100 (.slice A n c)) 101 (.int .i64 (0 : Nat)))) (by kernel_rfl) (by kernel_rfl) (by kernel_rfl) (by simp only [cD, cC, and_true]; repeat (any_goals (apply And.intro)); all_goals (first | assumption | go_simp)) (fun q9 hq9 => by simp only [List.mem_cons, List.not_mem_nil, or_false, or_self] at hq9; subst hq9; rintro ((h | h) | h) <;> first | (have h' : w.heap.size = b := h; omega) | (have h' : w.heap.size < w.heap.size := hR _ h; omega) | (have h' := hob2 _ h; have h2 : w.heap.size + 1 ≤ w.heap.size := h'.1; omega)) (⟨⟨⟨_, rfl, hLr.row⟩, fun i hi => ⟨.inr (.inr hi), (hob2 i hi).2.2⟩⟩, ⟨⟨ry.alt ((Alt.refl_ (fun _ => False) ay).drewN_ 1) (fun h => h) (fun _ _ h => h), fun i hi => ⟨by have := hR i hi; show i < ay.heap.size; omega, rfl⟩⟩, fun i hi => ⟨.inr (.inl hi), hi.elim (fun h => h ▸ ry.lt) (fun h => by have := hR i h; show i < ay.heap.size; omega)⟩⟩, trivial⟩) ((fun d hd d' hd' hn c hc hc' => by simp only [List.mem_cons, List.not_mem_nil, or_false] at hd hd'; rcases hd with rfl | rfl <;> rcases hd' with rfl | rfl <;> first | exact hn rfl | (have h1 := hob2 c hc; rcases hc' with h2 | h2; (have h3 : c = b := h2; omega); (have h3 := hR c h2; omega)) | (have h1 := hob2 c hc'; rcases hc with h2 | h2; (have h3 : c = b := h2; omega); (have h3 := hR c h2; omega)))) ?_
        simp only [List.take_succ_cons, List.take_zero, List.drop_succ_cons, List.drop_zero, List.take_nil, List.drop_nil, List.take, List.drop]
        repeat (first
         | ((first
          | ((with_reducible refine Zan ?_ ?_ ?_)
             ·exact rfl
             ·exact rfl)
          | ((with_reducible refine Zas ?_ ?_ ?_)
             ·exact rfl
             ·exact Zad rfl rfl rfl rfl))
            intro K hK
            apply Exists.intro
            refine ⟨fun w3 hw3 => ?_, ?_⟩
            ·have hcs := hw3
             simp only [cD, cC, and_true] at hcs
             clear hw3
             go_simp
             first | done | exact ⟨rfl, rfl⟩ | rfl
            refine hK _ ?_
            clear hK K
            try simp only [pA, pB, sA, sB, sC])
         | ((with_reducible refine Zar ?_ ?_ ?_)
            ·exact rfl
            ·exact Zak rfl rfl rfl rfl
            simp only [pA, pB, sA, sB, sC]))
        refine mem_pick 101 b R V2 (V2 + 2) 1 2 ay (.int .i64 (0 : Nat)) hRb (by rfl) (by rfl) (by rfl) (by rfl) (by decide) (by rfl) (fun w3 hw3 hc3 hu3 => ?_) (fun x8 hx8 => ?_)
        ·go_simp
         refine (Zbm _ _ R V2 _ hu3 (by omega) (by omega)).mono ?_
         rintro e w4 ⟨v, hv, hw, rfl, c4, k4, z4⟩
         exact retPost.mk_ ⟨v, hv, rfl, c4, k4⟩
        try simp only [pA, pB, sA, sB, sC]
        repeat (first
         | ((first
          | ((with_reducible refine Zan ?_ ?_ ?_)
             ·exact rfl
             ·exact rfl)
          | ((with_reducible refine Zas ?_ ?_ ?_)
             ·exact rfl
             ·exact Zad rfl rfl rfl rfl))
            intro K hK
            apply Exists.intro
            refine ⟨fun w3 hw3 => ?_, ?_⟩
            ·have hcs := hw3
             simp only [cD, cC, and_true] at hcs
             clear hw3
             go_simp
             first | done | exact ⟨rfl, rfl⟩ | rfl
            refine hK _ ?_
            clear hK K
            try simp only [pA, pB, sA, sB, sC])
         | ((with_reducible refine Zar ?_ ?_ ?_)
            ·exact rfl
            ·exact Zak rfl rfl rfl rfl
            simp only [pA, pB, sA, sB, sC]))
        refine Zfd 89 7 (w.heap.size + 1) 1 Qln (by rfl) (by rfl) hlo7 (by omega) (fun w3 hw3 hc3 hp3 => ?_) (fun A4 c4 => ?_)
        ·go_simp
         exact ⟨#[.int .i64 2, .string (bs s9), .string ⟨#[]⟩, .slice none 0 0, .int .i64 0, .int .i64 1, .int .i64 x8], ⟨⟨2, s9, [], [], 0, 1, x8⟩, rfl, ⟨hs9, by unfold shortS; simp, by simp, by simp⟩, rfl⟩, rfl, rfl, rfl⟩
        try simp only [pA, pB, sA, sB, sC]
        refine mem_appP 89 23 (.agg #[.int .i64 0, .string ⟨#[]⟩, .string ⟨#[]⟩, .slice none 0 0, .int .i64 0, .int .i64 0, .int .i64 0]) 7 88 100 (w.heap.size + 1) n 1 (fun _ cells => cells = lpsC l) (Qapp l) A c A4 c4 (.tmp 92) (.tmp 101) Tryz.underlying23 Zcs rfl (by decide) (by decide) (by rfl) (by rfl) hlo7 (by rfl) (by rfl) (by decide) (by rfl) (by rfl) (by rfl) (by rfl) (by omega) (fun w3 cells hw3 hc3 hp3 hq3 => ?_) (fun G2 cG2 => ?_)
        ·obtain ⟨cs9, ⟨x7, hx7, hsh7, rfl⟩, ho9⟩ : ∃ cells, Qln ((depsL _ 9).map _) cells ∧ w3.ownsRow (w.heap.size + 1) 89 7 (.slice A4 1 c4) 1 cells := (Zcl (d := 9) (by decide) hp3 (by rfl) (by rfl)).1
         exact ⟨_, rowP_rv ho9 (by omega), lpC_one _, ⟨_, hx7, hsh7, by rw [hq3, lpsC_app, lpsC_one]⟩⟩
        try simp only [pA, pB, sA, sB, sC]
        repeat (first
         | ((first
          | ((with_reducible refine Zan ?_ ?_ ?_)
             ·exact rfl
             ·exact rfl)
          | ((with_reducible refine Zas ?_ ?_ ?_)
             ·exact rfl
             ·exact Zad rfl rfl rfl rfl))
            intro K hK
            apply Exists.intro
            refine ⟨fun w3 hw3 => ?_, ?_⟩
            ·have hcs := hw3
             simp only [cD, cC, and_true] at hcs
             clear hw3
             go_simp
             first | done | exact ⟨rfl, rfl⟩ | rfl
            refine hK _ ?_
            clear hK K
            try simp only [pA, pB, sA, sB, sC])
         | ((with_reducible refine Zar ?_ ?_ ?_)
            ·exact rfl
            ·exact Zak rfl rfl rfl rfl
            simp only [pA, pB, sA, sB, sC]))
        refine Zbs ?_
        intro wz2 hwz hcz hfin hap
        have hC4 : Cur wz2 b R (V2 + 2) ∧ ∀ i, R i → i < wz2.heap.size ∧ wz2.heap[i]? = ay.heap[i]? := hfin.1.1
        obtain ⟨cs9, ⟨E9, hE9, hsE9, rfl⟩, ho5⟩ : ∃ cells, Qapp l _ cells ∧ wz2.ownsRow (w.heap.size + 1) 89 7 (.slice G2 (n + 1) cG2) (n + 1) cells := hfin.2.1.1
        have hGok : ∀ g, (Value.slice G2 (n + 1) cG2).ownBlock = some g → okB ay (fun i => (i = b ∨ R i) ∨ (Value.slice A n c).ownBlock = some i) g := fun g hg => (hfin.2.1.2 g hg).1
        have hLn : OL wz2 (w.heap.size + 1) wz2.heap.size (.slice G2 (n + 1) cG2) (n + 1) (l ++ [E9]) := by
         refine OLq.mk_ ho5 (by simp [hlen]) fun e he => ?_
         rcases List.mem_append.1 he with he | he
         ·have h1 := hLr.pa e he
          refine ⟨((h1.1.alt hwz (fun i h2 h3 h4 h => ?_)).row (fun b' h2 h3 h4 h5 h6 => ?_)).now, h1.2⟩
          ·rcases h with h | (h | h) | h
           ·omega
           ·omega
           ·have := hR _ h; omega
           ·exact h4 h
          ·rcases hGok b' h6 with h | (h | h) | h
           ·omega
           ·omega
           ·have := hR _ h; omega
           ·exact h5 h
         ·simp only [List.mem_cons, List.not_mem_nil, or_false] at he
          subst he
          rw [hE9]
          exact ⟨PaAt.nil _ _ _ _ _, hsE9⟩
        have kkz : Alt (fun i => i = b ∨ HI ≤ i) W0 wz2 ∨ True := .inr trivial
        have haz : Alt (fun i => i = b) w wz2 := by
         have h1 := ha.trans_ kky (fun i hi h => h.elim (fun h => h) (fun h => by omega))
         exact h1.trans_ (T := fun i => i = b ∨ w.heap.size + 1 ≤ i) (alt_backH hwz (fun i hi => (hob2 i hi).1) (fun i hi => (hC4.2 i hi).2) hlo7) (fun i hi h => h.elim (fun h => h) (fun h => by omega))
        have hNz := (hN.alt kky (fun b' o' e => by simp only [Option.some.injEq, Addr.mk.injEq] at e; omega)).alt (alt_backH (H := w.heap.size + 1) hwz (fun i hi => (hob2 i hi).1) (fun i hi => (hC4.2 i hi).2) hlo7) (fun b' o' e => by simp only [Option.some.injEq, Addr.mk.injEq] at e; omega)
        have hsz := hwz.size
        have rz := hC4.1
        clear hfin hap hwz hcz ho5 hC4 kky ry hLr kkz
        go_wp2
        go_roundg (gK - 1)
        case rel => exact ⟨_, G2, n + 1, cG2, V2 + 2, congrArg (Value.int .i64) (by omega), rfl, by omega, hLn, hNz, rz, by omega, haz, by omega⟩
        case measure => omega
      ·have hg2 : (0 : Int) < (gk : Int) := by omega
       have hg2' : 0 < gk := by omega
       have d3 := hX.c3
       dsimp only at d3
       rw [hpl] at d3
       go_wp2_with fail
       go_wp2_with fail
       refine Zch (11) ((fun i => (i = b ∨ R i) ∨ (Value.slice PA m q).ownBlock = some i)) [(⟨K, 3, none⟩, .slice PA m q), (⟨K, 3, none⟩, .slice PA m q)] [(6, [101], [101]), (8, [], []), (9, [], []), (10, [100, 9], [100])] [100, 101] [6, 10] [(100, Res.rowP 9 1 HK m (fun _ cells => cells = strV ps)), (101, Res.cur wr b R V2 1), (6, Res.cur wr b R (V2 + 2) n), (8, Res.anyQ Qs1 Qs1.one), (9, Res.rowP 9 1 HK 1 (Qst 1)), (10, Res.rowP 9 1 HK (m + 1) (Qst (m + 1)))] ((upd (upd (fun _ => undef) 100 (.slice PA m q)) 101 (.int .i64 (0 : Nat)))) (by kernel_rfl) (by kernel_rfl) (by kernel_rfl) (by simp only [cD, cC, and_true]; repeat (any_goals (apply And.intro)); all_goals (first | assumption | go_simp)) (fun q9 hq9 => by simp only [List.mem_cons, List.not_mem_nil, or_false, or_self] at hq9; subst hq9; rintro ((h | h) | h) <;> first | exact hKb h | (have h' : K < w.heap.size := hR _ h; omega) | (have h' := hob _ h; have h2 : HK ≤ K := h'.1; omega)) (⟨⟨⟨_, rfl, hrow⟩, fun i hi => ⟨.inr (.inr hi), (hob i hi).2⟩⟩, ⟨⟨hu.alt ((Alt.refl_ (fun _ => False) wr).drewN_ 1) (fun h => h) (fun _ _ h => h), fun i hi => ⟨by have := hR i hi; show i < wr.heap.size; omega, rfl⟩⟩, fun i hi => ⟨.inr (.inl hi), hi.elim (fun h => h ▸ hu.lt) (fun h => by have := hR i h; show i < wr.heap.size; omega)⟩⟩, trivial⟩) ((fun d hd d' hd' hn c hc hc' => by simp only [List.mem_cons, List.not_mem_nil, or_false] at hd hd'; rcases hd with rfl | rfl <;> rcases hd' with rfl | rfl <;> first | exact hn rfl | (have h1 := hob c hc; rcases hc' with h2 | h2; (have h3 : c = b := h2; omega); (have h3 := hR c h2; omega)) | (have h1 := hob c hc'; rcases hc with h2 | h2; (have h3 : c = b := h2; omega); (have h3 := hR c h2; omega)))) ?_
       simp only [List.take_succ_cons, List.take_zero, List.drop_succ_cons, List.drop_zero, List.take_nil, List.drop_nil, List.take, List.drop]
       repeat (first
        | ((first
         | ((with_reducible refine Zan ?_ ?_ ?_)
            ·exact rfl
            ·exact rfl)
         | ((with_reducible refine Zas ?_ ?_ ?_)
            ·exact rfl
            ·exact Zad rfl rfl rfl rfl))
           intro K hK
           apply Exists.intro
           refine ⟨fun w3 hw3 => ?_, ?_⟩
           ·have hcs := hw3
            simp only [cD, cC, and_true] at hcs
            clear hw3
            go_simp
            first | done | exact ⟨rfl, rfl⟩ | rfl
           refine hK _ ?_
           clear hK K
           try simp only [pA, pB, sA, sB, sC])
        | ((with_reducible refine Zar ?_ ?_ ?_)
           ·exact rfl
           ·exact Zak rfl rfl rfl rfl
           simp only [pA, pB, sA, sB, sC]))
       refine mem_pick 101 b R V2 (V2 + 2) 1 n wr (.int .i64 (0 : Nat)) hRb (by rfl) (by rfl) (by rfl) (by rfl) (by decide) (by rfl) (fun w3 hw3 hc3 hu3 => ?_) (fun x8 hx8 => ?_)
       ·go_simp
        refine (Zbm _ _ R V2 _ hu3 (by omega) (by omega)).mono ?_
        rintro e w4 ⟨v, hv, hw, rfl, c4, k4, z4⟩
        exact retPost.mk_ ⟨v, hv, rfl, c4, k4⟩
       try simp only [pA, pB, sA, sB, sC]
       have hx12 : (x8 : Int) < 12 := by omega
       have hx12' : x8 < 12 := by omega
       repeat (first
        | ((first
         | ((with_reducible refine Zan ?_ ?_ ?_)
            ·exact rfl
            ·exact rfl)
         | ((with_reducible refine Zas ?_ ?_ ?_)
            ·exact rfl
            ·exact Zad rfl rfl rfl rfl))
           intro K hK
           apply Exists.intro
           refine ⟨fun w3 hw3 => ?_, ?_⟩
           ·have hcs := hw3
            simp only [cD, cC, and_true] at hcs
            clear hw3
            go_simp
            first | done | exact ⟨rfl, rfl⟩ | rfl
           refine hK _ ?_
           clear hK K
           try simp only [pA, pB, sA, sB, sC])
        | ((with_reducible refine Zar ?_ ?_ ?_)
           ·exact rfl
           ·exact Zak rfl rfl rfl rfl
           simp only [pA, pB, sA, sB, sC]))
       refine mem_any Qs1 Qs1.one (by rfl) (by rfl) (fun w3 hw3 hc3 hp3 => ?_) (fun v9 hv9 => ?_)
       ·have hN3 := (hN.alt kk (fun b' o' e => by simp only [Option.some.injEq, Addr.mk.injEq] at e; omega)).alt hw3 (fun b' o' e => by
         simp only [Option.some.injEq, Addr.mk.injEq] at e
         rintro (h | (h | h) | h)
         ·omega
         ·omega
         ·have := hR _ h; omega
         ·have := hob _ h; omega)
        obtain ⟨b9, o9, hA9, _, hc9⟩ := hN3.at_ (k := x8) (by omega)
        simp only [Option.some.injEq, Addr.mk.injEq, and_true] at hA9
        obtain ⟨rfl, rfl⟩ := hA9
        rw [Nat.zero_add] at hc9
        go_simp
        exact ⟨⟨sx nms x8, hsh.out _ (sx_memO (by omega)), rfl⟩, Below.refl _ _⟩
       obtain ⟨s9, hs9, rfl⟩ := hv9
       try simp only [pA, pB, sA, sB, sC]
       refine Zfd 9 1 HK 1 (Qst 1) (by rfl) (by rfl) hszr (by omega) (fun w3 hw3 hc3 hp3 => ?_) (fun A3 c3' => ?_)
       ·go_simp
        exact ⟨#[.string (bs s9)], ⟨[s9], rfl, by simpa using hs9, rfl⟩, rfl, rfl, rfl⟩
       try simp only [pA, pB, sA, sB, sC]
       refine mem_appP 9 87 (.string ⟨#[]⟩) 1 16 100 HK m 1 (fun _ cells => cells = strV ps) (Qst (m + 1)) PA q A3 c3' (.tmp 72) (.tmp 80) Tryz.underlying87 info_strO rfl (by decide) (by decide) (by rfl) (by rfl) hszr (by rfl) (by rfl) (by decide) (by rfl) (by rfl) (by rfl) (by rfl) (by omega) (fun w3 cells hw3 hc3 hp3 hq3 => ?_) (fun G' cG' => ?_)
       ·obtain ⟨cs9, ⟨ps9, hl9, hsh9, rfl⟩, ho9⟩ : ∃ cells, Qst 1 ((depsL _ 9).map _) cells ∧ w3.ownsRow HK 9 1 (.slice A3 1 c3') 1 cells := (Zcl (d := 9) (by decide) hp3 (by rfl) (by rfl)).1
        exact ⟨strV ps9, rowP_rv ho9 (by omega), strV_one _, ps ++ ps9, by simp [hpl, hl9], fun s hs => (List.mem_append.1 hs).elim (hps s) (hsh9 s), by rw [hq3]; simp [strV]⟩
       try simp only [pA, pB, sA, sB, sC]
       repeat (first
        | ((first
         | ((with_reducible refine Zan ?_ ?_ ?_)
            ·exact rfl
            ·exact rfl)
         | ((with_reducible refine Zas ?_ ?_ ?_)
            ·exact rfl
            ·exact Zad rfl rfl rfl rfl))
           intro K hK
           apply Exists.intro
           refine ⟨fun w3 hw3 => ?_, ?_⟩
           ·have hcs := hw3
            simp only [cD, cC, and_true] at hcs
            clear hw3
            go_simp
            first | done | exact ⟨rfl, rfl⟩ | rfl
           refine hK _ ?_
           clear hK K
           try simp only [pA, pB, sA, sB, sC])
        | ((with_reducible refine Zar ?_ ?_ ?_)
           ·exact rfl
           ·exact Zak rfl rfl rfl rfl
           simp only [pA, pB, sA, sB, sC]))
       refine Zbs ?_
       intro wy2 hwy hcy hfin hap
       have hC4 : Cur wy2 b R (V2 + 2) ∧ ∀ i, R i → i < wy2.heap.size ∧ wy2.heap[i]? = wr.heap[i]? := hfin.1.1
       obtain ⟨cs9, ⟨ps2, hl2, hsh2, rfl⟩, ho2⟩ : ∃ cells, Qst (m + 1) _ cells ∧ wy2.ownsRow HK 9 1 (.slice G' (m + 1) cG') (m + 1) cells := hfin.2.1.1
       have hKs2 : ¬ okB wr (fun i => (i = b ∨ R i) ∨ (Value.slice PA m q).ownBlock = some i) K := fun h => by
        rcases h with h | (h | h) | h
        ·omega
        ·exact hKb h
        ·have := hR _ h; omega
        ·have := hob _ h; omega
       have hX2 := hX.alt hwy hKs2
       have kk2 : Alt (fun i => i = b ∨ HI ≤ i) W0 wy2 := by
        refine kk.trans_ (T := fun i => i = b ∨ HK ≤ i) (alt_backH hwy (fun i hi => (hob i hi).1) (fun i hi => (hC4.2 i hi).2) hszr) (fun i hi h => h.elim .inl (fun h => .inr (by omega)))
       have e3 := hX2.c3; have g3 := hX2.fz 3
       have hX3 := hX2.set3 G' ps2 (m + 1) cG' hl2
       have kk3 := kk2.set_ ⟨K, 3, none⟩ (.slice G' (m + 1) cG') (fun _ => .inr hKl)
       have r3 := hC4.1.alt ((Alt.refl_ (fun i => i = K) wy2).set_ ⟨K, 3, none⟩ (.slice G' (m + 1) cG') (fun _ => rfl)) (fun e => hKb e.symm) (fun i hi e => by have := hR i hi; omega)
       have ho3 := Zav ho2 ((Alt.refl_ (fun i => i = K) wy2).set_ ⟨K, 3, none⟩ (.slice G' (m + 1) cG') (fun _ => rfl)) (fun g hg e => by have := (ho2.lt g hg).1; omega)
       have hsz3 : HK ≤ (wy2.setCell ⟨K, 3, none⟩ (.slice G' (m + 1) cG')).heap.size := by have := hwy.size; simp; omega
       have hmg' := hmg.out
       clear hfin hap hcy hwy hC4 hX2 kk2 ho2 hX hrow kk hu d3
       go_wp2
       go_roundg (gk - 1)
       case rel => exact ⟨ps2, m + 1, G', cG', V2 + 2, congrArg (Value.int .i64) (by omega), by omega, hl2, hsh2, hX3, ho3, kk3, r3, by omega, hsz3⟩
       case measure => omega
end Go.Proofs.YtenknpcbbcbciaaGreat
