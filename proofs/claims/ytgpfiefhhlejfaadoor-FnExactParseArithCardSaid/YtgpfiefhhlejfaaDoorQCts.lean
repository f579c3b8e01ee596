/- A circuit as text: the contracts of the reference's functions. Lengths as valid circuits have them. An arithmetic circuit as text: the contracts of the reference's functions. Lengths as valid circuits have them. -/
import Derived.Test.YtgpfiefhhlejfaaDoorQCtx
import Derived.Test.YtgpfiefhhlejfaaDoorQAtx
namespace Go.Proofs.YtgpfiefhhlejfaaDoor
open Go.RowKit
set_option linter.unusedVariables false
set_option linter.unusedSimpArgs false

/-- A call returns a slice that reads as these numbers. -/
def RetR (w : World) (zs : List Int) (e : Ending) (w' : World) : Prop := ∃ A c, e = .returned (.slice A zs.length c) ∧ RI w' A zs.length zs ∧ Below w.heap.size w w'

theorem ciParts_t (g : G3) (hg : GSm g) (w : World) :
    Calls Tryd.prog 56 #[.agg #[.int .i64 g.k, .int .i64 g.a, .int .i64 g.b]] w (RetR w (prtT g)) := by
  have hB : Below w.heap.size w (w.alloc (.cells #[.int .i64 g.k, .int .i64 g.a, .int .i64 g.b] 59)) := (Below.refl _ _).alloc (Nat.le_refl _) _
  obtain ⟨gk, ga, gb⟩ := g
  obtain ⟨⟨hk0, hk1⟩, _, _⟩ := hg
  dsimp only at hB hk0 hk1
  have hk : gk = 0 ∨ gk = 1 ∨ gk = 2 ∨ gk = 3 := by omega
  rcases hk with rfl | rfl | rfl | rfl
  · have HP : Hid (prtT ⟨0, ga, gb⟩ = [ga, gb]) := Lib.hid rfl
    rw [HP.out]
    go_enter Tryd.func56, Tryd.ntmps56
    go_wp2
    go_ret
    exact ⟨_, _, rfl, by simpa using RI_new2 (w.alloc (.cells #[.int .i64 0, .int .i64 ga, .int .i64 gb] 59)) ga gb _, hB.alloc (by simp) _⟩
  · have HP : Hid (prtT ⟨1, ga, gb⟩ = [ga, gb]) := Lib.hid rfl
    rw [HP.out]
    go_enter Tryd.func56, Tryd.ntmps56
    go_wp2
    go_ret
    exact ⟨_, _, rfl, by simpa using RI_new2 (w.alloc (.cells #[.int .i64 1, .int .i64 ga, .int .i64 gb] 59)) ga gb _, hB.alloc (by simp) _⟩
  · have HP : Hid (prtT ⟨2, ga, gb⟩ = [ga]) := Lib.hid rfl
    rw [HP.out]
    go_enter Tryd.func56, Tryd.ntmps56
    go_wp2
    go_ret
    exact ⟨_, _, rfl, by simpa using RI_new1 (w.alloc (.cells #[.int .i64 2, .int .i64 ga, .int .i64 gb] 59)) ga _, hB.alloc (by simp) _⟩
  · have HP : Hid (prtT ⟨3, ga, gb⟩ = []) := Lib.hid rfl
    rw [HP.out]
    go_enter Tryd.func56, Tryd.ntmps56
    go_wp2
    go_ret
    exact ⟨_, _, rfl, RI_none _, hB⟩

theorem Num_any (n : Int) (h0 : 0 ≤ n) (h1 : n ≤ 1000000) (w : World) :
    Calls Tryd.prog 55 #[.int .i64 n] w fun e w' => e = .returned (.string (bs (Lib.itoa n))) ∧ Below w.heap.size w w' := l1Num_any (n.toNat + 1) n h0 h1 (by omega) w
theorem gw_at {k : Nat} (h : k ≤ 3) : (#[Value.string ⟨#[120, 111, 114]⟩, .string ⟨#[97, 110, 100]⟩, .string ⟨#[110, 111, 116]⟩, .string ⟨#[111, 110, 101]⟩] : Array Value)[k]? = some (.string (bs (gwL k))) := by
  have h : k = 0 ∨ k = 1 ∨ k = 2 ∨ k = 3 := by omega
  rcases h with rfl | rfl | rfl | rfl <;> rfl
set_option maxRecDepth 100000 in
set_option maxHeartbeats 4000000 in
theorem ciText_any (x y : Int) (Ag : Option Addr) (ng cg : Nat) (Ao : Option Addr) (no co : Nat) (gs : List G3) (os : List Int) (w : World) (hr : RG w Ag ng gs ∧ RI w Ao no os) (h1 : circB x y gs os = true) :
    Calls Tryd.prog 28 #[.agg #[.int .i64 x, .int .i64 y, .slice Ag ng cg, .slice Ao no co]] w fun e w' => e = .returned (.string (bs (circT x y gs os))) ∧ Below w.heap.size w w' := by
  have hlg := hr.1.len
  have hlo := hr.2.len
  have hB : Below w.heap.size w (w.alloc (.cells #[.int .i64 x, .int .i64 y, .slice Ag ng cg, .slice Ao no co] 31)) := (Below.refl _ _).alloc (Nat.le_refl _) _
  have hx0 : BxC (w.alloc (.cells #[.int .i64 x, .int .i64 y, .slice Ag ng cg, .slice Ao no co] 31)) w.heap.size x y Ag ng cg Ao no co := BxC.new w _
  have hbd := circB_bd h1
  have hgsm := circB_gsm h1
  have hosm := circB_osm h1
  have hxy : smallN [x, y] := fun n hn => by
    simp only [List.mem_cons, List.not_mem_nil, or_false] at hn
    rcases hn with rfl | rfl <;> omega
  obtain ⟨hx, hy, hn3, ho4, _, _⟩ := hbd
  clear h1
  have hxl := itoa_len hx.1 (by omega)
  have hyl := itoa_len hy.1 (by omega)
  rw [← bs_size] at hxl hyl
  have hd : Hid (((((⟨#[99, 105, 114, 99, 117, 105, 116, 32]⟩ : ByteArray) ++ bs (Lib.itoa x)) ++ ⟨#[32]⟩) ++ bs (Lib.itoa y)) ++ ⟨#[10]⟩ = bs (lineL [99, 105, 114, 99, 117, 105, 116] [x, y] ++ gatesT (gs.take 0))) := Lib.hid (by
    show (((bs [99, 105, 114, 99, 117, 105, 116, 32] ++ bs (Lib.itoa x)) ++ bs [32]) ++ bs (Lib.itoa y)) ++ bs [10] = _
    simp only [bs_append]
    simp [lineL, numsL, gatesT])
  go_enter Tryd.func28, Tryd.ntmps28
  go_wp2_with fail
  refine wp_region_keep (w.heap.size + 1) (w.alloc (.cells #[.int .i64 x, .int .i64 y, .slice Ag ng cg, .slice Ao no co] 31)) [(⟨w.heap.size, 0, none⟩, .int .i64 x), (⟨w.heap.size, 1, none⟩, .int .i64 y)] (by kernel_rfl) (by kernel_rfl) (by simp only [List.mem_cons, forall_eq_or_imp, List.not_mem_nil, false_implies, implies_true, and_true]; repeat (any_goals (apply And.intro)); all_goals (first | assumption | go_simp)) ?_
  repeat (first
    | go_big_quiet_skip
    | (go_big_quiet_want
       apply Exists.intro
       refine ⟨fun w3 hw3 => ?_, ?_⟩
       · have hcs := hw3.2
         simp only [List.mem_cons, forall_eq_or_imp, List.not_mem_nil, false_implies, implies_true, and_true] at hcs
         simp only [Oper.quietAt]
         go_simp
         first | done | exact ⟨rfl, rfl⟩ | rfl | (first | (rw [if_neg (by omega)]; exact ⟨rfl, rfl⟩) | (rw [if_neg]; all_goals first | exact ⟨rfl, rfl⟩ | omega) | (with_reducible refine (Num_any x hx.1 (by omega) _).mono ?_; rintro e w4 ⟨rfl, hb4⟩; exact ⟨rfl, hw3.next hb4 (by simp)⟩) | (with_reducible refine (Num_any y hy.1 (by omega) _).mono ?_; rintro e w4 ⟨rfl, hb4⟩; exact ⟨rfl, hw3.next hb4 (by simp)⟩))
       go_big_quiet_on
       try simp only [Act.put, List.setIfInBounds_toArray, List.set_cons_zero, List.set_cons_succ]))
  refine wpQuiet_nil ?_
  intro wq hwq
  have hbq := hB.trans (hwq.1.mono (by omega))
  have hxq := hx0.below (hwq.1.mono (by simp))
  clear hwq
  have hq := hxq; obtain ⟨q0, q1, q2, q3⟩ := hq
  have hls : (lineL [99, 105, 114, 99, 117, 105, 116] [x, y]).length ≤ 60 := by have := lineL_len (wd := [99, 105, 114, 99, 117, 105, 116]) hxy; simp at this; omega
  go_wp2
  go_loopw [3, 23] (fun s i wr => ∃ (k : Nat) (sb : ByteArray), k ≤ ng ∧ i = .int .i64 k ∧ s = .string sb ∧ Hid (sb = bs (lineL [99, 105, 114, 99, 117, 105, 116] [x, y] ++ gatesT (gs.take k))) ∧ BxC wr w.heap.size x y Ag ng cg Ao no co ∧ Below w.heap.size w wr) (fun _ i _ => ng - (intOf i).toNat)
  case atStart => exact ⟨0, _, Nat.zero_le _, rfl, rfl, hd, hxq, hbq⟩
  case round =>
    clear hxq hbq q0 q1 q2 q3
    obtain ⟨k, sb, hk, rfl, rfl, hsb, hxr, hb⟩ := hrel
    have hsz : sb.size ≤ 60 + 60 * k := by
      rw [hsb.out, bs_size, List.length_append]
      have h1 := gatesT_len hgsm k (by omega)
      omega
    by_cases hlt : k < ng
    · obtain ⟨b, o, rfl, hbB, c0, c1, c2⟩ := (hr.1.below hb (Nat.le_refl _)).at_ hlt
      have hgk := hgsm k (by omega)
      have hsn : Hid (gatesT (gs.take (k + 1)) = gatesT (gs.take k) ++ gateT (gg gs k)) := Lib.hid (gatesT_snoc (by omega))
      obtain ⟨g, hg⟩ : ∃ g, Hid (gg gs k = g) := ⟨_, Lib.hid rfl⟩
      rw [hg.out] at c0 c1 c2 hgk hsn
      obtain ⟨gk, ga, gb⟩ := g
      dsimp only at c0 c1 c2
      obtain ⟨kk, rfl⟩ : ∃ kk : Nat, gk = (kk : Int) := ⟨gk.toNat, by have := hgk.k; dsimp only at this; omega⟩
      have hk3 : kk ≤ 3 := by have := hgk.k; dsimp only at this; omega
      have hgw := gw_at hk3
      have hgz : (bs (gwL kk)).size = 3 := by rw [bs_size]; exact gwL_len kk
      obtain ⟨ps, hpe⟩ : ∃ ps, Hid (prtT ⟨(kk : Int), ga, gb⟩ = ps) := ⟨_, Lib.hid rfl⟩
      have hgT : Hid (gateT ⟨(kk : Int), ga, gb⟩ = gwL kk ++ numsL ps ++ [10]) := Lib.hid (by unfold gateT lineL; rw [hpe.out]; rfl)
      have hps := prtT_small hgk
      have hpl := prtT_len ⟨(kk : Int), ga, gb⟩
      have hpc := ciParts_t ⟨(kk : Int), ga, gb⟩ hgk
      rw [hpe.out] at hps hpl hpc
      clear hgk
      have hA4 : Below wr.heap.size wr ((wr.alloc (.cells #[.int .i64 (kk : Int), .int .i64 ga, .int .i64 gb] 59)).alloc (.cells #[.string ⟨#[120, 111, 114]⟩, .string ⟨#[97, 110, 100]⟩, .string ⟨#[110, 111, 116]⟩, .string ⟨#[111, 110, 101]⟩] 9)) := ((Below.refl _ _).alloc (Nat.le_refl _) _).alloc (by simp) _
      go_wp2_with fail
      refine (hpc _).mono ?_
      rintro e w4 ⟨Ap, cp, rfl, hp4, hb4⟩
      have hB4 := hb.trans ((hA4.trans (hb4.mono hA4.size)).mono hb.size)
      have hx4 := (hxr.below hA4).below hb4
      clear hA4 hb4 hxr hpc
      have hlp := hp4.len
      go_wp2
      go_loopw [3, 37] (fun s i w5 => ∃ (j : Nat) (sc : ByteArray), j ≤ ps.length ∧ i = .int .i64 j ∧ s = .string sc ∧ Hid (sc = bs (lineL [99, 105, 114, 99, 117, 105, 116] [x, y] ++ gatesT (gs.take k) ++ gwL kk ++ numsL (ps.take j))) ∧ BxC w5 w.heap.size x y (some ⟨b, o, none⟩) ng cg Ao no co ∧ RI w5 Ap ps.length ps ∧ Below w.heap.size w w5) (fun _ i _ => ps.length - (intOf i).toNat)
      case atStart => exact ⟨0, _, Nat.zero_le _, rfl, rfl, Lib.hid (by rw [hsb.out, bs_append, List.take_zero, numsL_nil, List.append_nil]), hx4, hp4, hB4⟩
      case round =>
        clear hx4 hp4 hB4
        obtain ⟨j, sc, hj, rfl, rfl, hsc, hx5, hp5, hb5⟩ := hrel
        have hsz2 : sc.size ≤ 60 + 60 * k + 3 + 22 * j := by
          rw [hsc.out, bs_size, List.length_append, List.length_append, List.length_append, gwL_len]
          have h1 := gatesT_len hgsm k (by omega)
          have h2 := numsL_len (smallN_take hps j)
          have h3 : (ps.take j).length ≤ j := by simp; omega
          omega
        by_cases hlj : j < ps.length
        · obtain ⟨b6, o6, rfl, hb6, d1⟩ := hp5.at_ hlj
          have hgi := hps _ (gi_mem (xs := ps) (j := j) (by omega))
          have hi := itoa_len hgi.1 hgi.2
          rw [← bs_size] at hi
          go_wp2_with fail
          refine (Num_any (gi ps j) hgi.1 hgi.2 _).mono ?_
          rintro e w6 ⟨rfl, hb6'⟩
          have hnx : Hid (sc ++ (bs [32] ++ bs (Lib.itoa (gi ps j))) = bs (lineL [99, 105, 114, 99, 117, 105, 116] [x, y] ++ gatesT (gs.take k) ++ gwL kk ++ numsL (ps.take (j + 1)))) := Lib.hid (by
            rw [hsc.out, take_snoc_gi (by omega), numsL_snoc, bs_append, bs_append]; simp)
          have hx6 := hx5.below hb6'
          have hp6 := hp5.below hb6' (Nat.le_refl _)
          have hB6 := hb5.trans (hb6'.mono hb5.size)
          go_wp2
          go_roundw
          case rel => exact ⟨j + 1, _, by omega, by go_num, rfl, hnx, hx6, hp6, hB6⟩
          case measure => simp [intOf]; omega
        · obtain rfl : j = ps.length := Nat.le_antisymm hj (Nat.le_of_not_lt hlj)
          have hnx : Hid (sc ++ bs [10] = bs (lineL [99, 105, 114, 99, 117, 105, 116] [x, y] ++ gatesT (gs.take (k + 1)))) := Lib.hid (by
            rw [hsc.out, hsn.out, hgT.out, bs_append, List.take_length]; simp)
          go_wp2
          go_roundw
          case rel => exact ⟨k + 1, _, by omega, by go_num, rfl, hnx, hx5, hb5⟩
          case measure => simp [intOf]; omega
    · obtain rfl : ng = k := by omega
      have hq := hxr; obtain ⟨q0, q1, q2, q3⟩ := hq
      go_wp2
      go_loopw [3, 55] (fun s i w5 => ∃ (j : Nat) (sc : ByteArray), j ≤ no ∧ i = .int .i64 j ∧ s = .string sc ∧ Hid (sc = bs (lineL [99, 105, 114, 99, 117, 105, 116] [x, y] ++ gatesT gs ++ [111, 117, 116, 115] ++ numsL (os.take j))) ∧ Below w.heap.size w w5) (fun _ i _ => no - (intOf i).toNat)
      case atStart => exact ⟨0, _, Nat.zero_le _, rfl, rfl, Lib.hid (by
        show sb ++ bs [111, 117, 116, 115] = _
        rw [hsb.out, bs_append, List.take_zero, numsL_nil, List.append_nil, List.take_of_length_le (by omega)]), hb⟩
      case round =>
        clear hxr hb q0 q1 q2 q3
        obtain ⟨j, sc, hj, rfl, rfl, hsc, hb5⟩ := hrel
        have hsz2 : sc.size ≤ 60 + 60 * gs.length + 4 + 22 * j := by
          rw [hsc.out, bs_size, List.length_append, List.length_append, List.length_append]
          have h1 := gatesT_len hgsm gs.length (by omega)
          rw [List.take_length] at h1
          have h2 := numsL_len (smallN_take hosm j)
          have h3 : (os.take j).length ≤ j := by simp; omega
          simp only [List.length_cons, List.length_nil]
          omega
        by_cases hlj : j < no
        · obtain ⟨b6, o6, rfl, hb6, d1⟩ := (hr.2.below hb5 (Nat.le_refl _)).at_ hlj
          have hgi := hosm _ (gi_mem (xs := os) (j := j) (by omega))
          have hi := itoa_len hgi.1 hgi.2
          rw [← bs_size] at hi
          go_wp2_with fail
          refine (Num_any (gi os j) hgi.1 hgi.2 _).mono ?_
          rintro e w6 ⟨rfl, hb6'⟩
          have hnx : Hid (sc ++ (bs [32] ++ bs (Lib.itoa (gi os j))) = bs (lineL [99, 105, 114, 99, 117, 105, 116] [x, y] ++ gatesT gs ++ [111, 117, 116, 115] ++ numsL (os.take (j + 1)))) := Lib.hid (by
            rw [hsc.out, take_snoc_gi (by omega), numsL_snoc, bs_append, bs_append]; simp)
          have hB6 := hb5.trans (hb6'.mono hb5.size)
          go_wp2
          go_roundw
          case rel => exact ⟨j + 1, _, by omega, by go_num, rfl, hnx, hB6⟩
          case measure => simp [intOf]; omega
        · obtain rfl : no = j := by omega
          have hfin : Hid (sc ++ bs [10] = bs (circT x y gs os)) := Lib.hid (by
            rw [hsc.out, bs_append, List.take_of_length_le (by omega)]; simp [circT, lineL])
          go_wp2
          go_ret
          exact ⟨by rw [← hfin.out]; rfl, hb5⟩

set_option maxRecDepth 100000 in
theorem spec_CircuitText_any (x y : Int) (Ag : Option Addr) (ng cg : Nat) (Ao : Option Addr) (no co : Nat) (gs : List G3) (os : List Int) (w : World) (hr : RG w Ag ng gs ∧ RI w Ao no os) (hng : ng ≤ 2097152) (hno : no ≤ 2097152) :
    Calls Tryd.prog 8 #[.agg #[.int .i64 x, .int .i64 y, .slice Ag ng cg, .slice Ao no co]] w fun e w' => e = .returned (.tuple #[.string (bs (ctF x y gs os)), .bool (circB x y gs os)]) ∧ Below w.heap.size w w' := by
  have hB : Below w.heap.size w (w.alloc (.cells #[.int .i64 x, .int .i64 y, .slice Ag ng cg, .slice Ao no co] 31)) := (Below.refl _ _).alloc (Nat.le_refl _) _
  have hx0 : BxC (w.alloc (.cells #[.int .i64 x, .int .i64 y, .slice Ag ng cg, .slice Ao no co] 31)) w.heap.size x y Ag ng cg Ao no co := BxC.new w _
  cases h1 : circB x y gs os with
  | false =>
    have HR : Hid (ctF x y gs os = []) := Lib.hid (by simp [ctF, h1])
    have H1 := Lib.hid h1; clear h1
    go_enter Tryd.func8, Tryd.ntmps8
    go_wp2_with fail
    refine (ciGood_any x y Ag ng cg Ao no co gs os _ (hr.1.below hB (Nat.le_refl _)) (hr.2.below hB (Nat.le_refl _)) hng hno).mono ?_
    rintro e v1 ⟨rfl, hb1⟩
    rw [H1.out]
    go_wp2
    go_ret2
    exact ⟨by rw [HR.out]; rfl, hB.trans (hb1.mono hB.size)⟩
  | true =>
    have HR : Hid (ctF x y gs os = circT x y gs os) := Lib.hid (by simp [ctF, h1])
    have H1 := Lib.hid h1
    have hct := fun v1 hr1 => ciText_any x y Ag ng cg Ao no co gs os v1 hr1 h1
    clear h1
    go_enter Tryd.func8, Tryd.ntmps8
    go_wp2_with fail
    refine (ciGood_any x y Ag ng cg Ao no co gs os _ (hr.1.below hB (Nat.le_refl _)) (hr.2.below hB (Nat.le_refl _)) hng hno).mono ?_
    rintro e v1 ⟨rfl, hb1⟩
    rw [H1.out]
    have hB1 := hB.trans (hb1.mono hB.size)
    have hx1 := hx0.below hb1
    obtain ⟨q0, q1, q2, q3⟩ := hx1
    go_wp2_with fail
    refine (hct _ ⟨hr.1.below hB1 (Nat.le_refl _), hr.2.below hB1 (Nat.le_refl _)⟩).mono ?_
    rintro e v2 ⟨rfl, hb2⟩
    go_wp2
    go_ret2
    exact ⟨by rw [HR.out]; rfl, hB1.trans (hb2.mono hB1.size)⟩

end Go.Proofs.YtgpfiefhhlejfaaDoor

namespace Go.Proofs.YtgpfiefhhlejfaaDoor
open Go.RowKit
set_option linter.unusedVariables false
set_option linter.unusedSimpArgs false
attribute [local go_sem] sepAt sepUpon pureAt pureUpon

/-- A new slice of these cells, made by an operation of a region. -/
def Res.crow (n : Nat) (cs : List Value) : Res :=
  ⟨fun _ v => ∃ b, v = .slice (some ⟨b, 0, none⟩) n n, fun _ v w => ∀ b, v = .slice (some ⟨b, 0, none⟩) n n → b < w.heap.size ∧ CellsAt w b 0 cs, fun _ v b => v = .slice (some ⟨b, 0, none⟩) n n, fun _ => ⟨.slice (some ⟨0, 0, none⟩) n n, 0, rfl⟩,
    fun _ v w w' S h k hb b hv => ⟨Nat.lt_of_lt_of_le (h b hv).1 k.size, (h b hv).2.alt k (hb b hv).1⟩⟩
def postCRow (w : World) (n : Nat) (cs : List Value) (v : Value) (w' : World) : Prop := ∃ b, v = .slice (some ⟨b, 0, none⟩) n n ∧ w.heap.size ≤ b ∧ b < w'.heap.size ∧ CellsAt w' b 0 cs ∧ Below w.heap.size w w'
section
variable {P : Program} {W : World} {own : Nat → Prop} {cs : List (Addr × Value)} {sk : List (Nat × List Nat × List Nat)} {ini fi : List Nat} {rs : List (Nat × Res)} {ops : Array Oper} {L : Act → (Nat → Value) → Prop} {k : Nat} {o : Oper} {rest : List Oper} {a : Act} {ρ : Nat → Value}
theorem mem_crow (n : Nat) (us : List Value) (hr : resAt rs k = Res.crow n us) (he : effB sk k = true) (hx : ∀ w, Alt (okB W own) W w → CellsL w cs → (mkSep W own cs sk ini fi rs).pre k ρ w → sepAt P o a (postCRow w n us) w)
    (h : ∀ b, wpSep (mkSep W own cs sk ini fi rs) P ops L (k + 1) rest (a.put o.dst (.slice (some ⟨b, 0, none⟩) n n)) (upd ρ k (.slice (some ⟨b, 0, none⟩) n n))) (hw : Region.wanted o (yielded ops a.tmps) = true := by first | exact wanted_none rfl | exact wanted_some rfl rfl rfl rfl) : wpSep (mkSep W own cs sk ini fi rs) P ops L k (o :: rest) a ρ :=
  mem_eff (hw := hw) _ hr he (fun w hw hc hp => sepAt_mono (hx w hw hc hp) fun v w' ⟨b, h1, h2, h3, h4, h6⟩ => by
    subst h1
    refine ⟨⟨b, rfl⟩, fun b' hb' => ?_, Alt.of_new h6, fun b' hb' => ?_⟩
    · simp only [Value.slice.injEq, Option.some.injEq, Addr.mk.injEq, and_true] at hb'
      subst hb'
      exact ⟨h3, h4⟩
    · have hb'' : Value.slice (some ⟨b, 0, none⟩) n n = .slice (some ⟨b', 0, none⟩) n n := hb'
      simp only [Value.slice.injEq, Option.some.injEq, Addr.mk.injEq, and_true] at hb''
      subst hb''
      exact ⟨h3, .inl h2⟩) fun v hv => by
    obtain ⟨b, rfl⟩ := hv
    exact h b
end
theorem aw_cells {w : World} {b : Nat} (h : CellsAt w b 0 [.string ⟨#[97, 100, 100]⟩, .string ⟨#[109, 117, 108]⟩, .string ⟨#[115, 99, 97, 108, 101]⟩, .string ⟨#[99, 111, 110, 115, 116]⟩]) {k : Nat} (hk : k ≤ 3) : w.cell? ⟨b, k, none⟩ = some (.string (bs (awL k))) := by
  obtain ⟨h0, h1, h2, h3, _⟩ := h
  have h : k = 0 ∨ k = 1 ∨ k = 2 ∨ k = 3 := by omega
  rcases h with rfl | rfl | rfl | rfl
  · exact h0
  · exact h1
  · exact h2
  · exact h3

set_option maxRecDepth 100000 in
set_option maxHeartbeats 4000000 in
theorem arText_any (p x y : Int) (Ag : Option Addr) (ng cg : Nat) (Ao : Option Addr) (no co : Nat) (gs : List G3) (os : List Int) (w : World) (hr : RG w Ag ng gs ∧ RI w Ao no os) (h1 : arB p x y gs os = true) :
    Calls Tryd.prog 37 #[.agg #[.int .i64 p, .int .i64 x, .int .i64 y, .slice Ag ng cg, .slice Ao no co]] w fun e w' => e = .returned (.string (bs (arithT p x y gs os))) ∧ Below w.heap.size w w' := by
  have hlg := hr.1.len
  have hlo := hr.2.len
  have hB : Below w.heap.size w (w.alloc (.cells #[.int .i64 p, .int .i64 x, .int .i64 y, .slice Ag ng cg, .slice Ao no co] 40)) := (Below.refl _ _).alloc (Nat.le_refl _) _
  have hx0 : BxA (w.alloc (.cells #[.int .i64 p, .int .i64 x, .int .i64 y, .slice Ag ng cg, .slice Ao no co] 40)) w.heap.size p x y Ag ng cg Ao no co := BxA.new w _
  have hbd := arB_bd h1
  have hp := arB_p h1
  have hgsm := arB_gsm h1
  have hosm := arB_osm h1
  have hxy : smallN [p, x, y] := fun n hn => by
    simp only [List.mem_cons, List.not_mem_nil, or_false] at hn
    rcases hn with rfl | rfl | rfl <;> omega
  obtain ⟨_, hx, hy, hn3, ho4, _, _⟩ := hbd
  clear h1
  have hpl := itoa_len (n := p) (by omega) (by omega)
  have hxl := itoa_len hx.1 (by omega)
  have hyl := itoa_len hy.1 (by omega)
  rw [← bs_size] at hpl hxl hyl
  have hd : Hid (((((((⟨#[97, 114, 105, 116, 104, 32]⟩ : ByteArray) ++ bs (Lib.itoa p)) ++ ⟨#[32]⟩) ++ bs (Lib.itoa x)) ++ ⟨#[32]⟩) ++ bs (Lib.itoa y)) ++ ⟨#[10]⟩ = bs (lineL [97, 114, 105, 116, 104] [p, x, y] ++ agatesT (gs.take 0))) := Lib.hid (by
    show (((((bs [97, 114, 105, 116, 104, 32] ++ bs (Lib.itoa p)) ++ bs [32]) ++ bs (Lib.itoa x)) ++ bs [32]) ++ bs (Lib.itoa y)) ++ bs [10] = _
    simp only [bs_append]
    simp [lineL, numsL, agatesT])
  go_enter Tryd.func37, Tryd.ntmps37
  go_wp2_with fail
  refine wp_region_keep (w.heap.size + 1) (w.alloc (.cells #[.int .i64 p, .int .i64 x, .int .i64 y, .slice Ag ng cg, .slice Ao no co] 40)) [(⟨w.heap.size, 0, none⟩, .int .i64 p), (⟨w.heap.size, 1, none⟩, .int .i64 x), (⟨w.heap.size, 2, none⟩, .int .i64 y)] (by kernel_rfl) (by kernel_rfl) (by simp only [List.mem_cons, forall_eq_or_imp, List.not_mem_nil, false_implies, implies_true, and_true]; repeat (any_goals (apply And.intro)); all_goals (first | assumption | go_simp)) ?_
  repeat (first
    | go_big_quiet_skip
    | (go_big_quiet_want
       apply Exists.intro
       refine ⟨fun w3 hw3 => ?_, ?_⟩
       · have hcs := hw3.2
         simp only [List.mem_cons, forall_eq_or_imp, List.not_mem_nil, false_implies, implies_true, and_true] at hcs
         simp only [Oper.quietAt]
         go_simp
         first | done | exact ⟨rfl, rfl⟩ | rfl | (first | (rw [if_neg (by omega)]; exact ⟨rfl, rfl⟩) | (rw [if_neg]; all_goals first | exact ⟨rfl, rfl⟩ | omega) | (with_reducible refine (Num_any p (by omega) (by omega) _).mono ?_; rintro e w4 ⟨rfl, hb4⟩; exact ⟨rfl, hw3.next hb4 (by simp)⟩) | (with_reducible refine (Num_any x hx.1 (by omega) _).mono ?_; rintro e w4 ⟨rfl, hb4⟩; exact ⟨rfl, hw3.next hb4 (by simp)⟩) | (with_reducible refine (Num_any y hy.1 (by omega) _).mono ?_; rintro e w4 ⟨rfl, hb4⟩; exact ⟨rfl, hw3.next hb4 (by simp)⟩))
       go_big_quiet_on
       try simp only [Act.put, List.setIfInBounds_toArray, List.set_cons_zero, List.set_cons_succ]))
  refine wpQuiet_nil ?_
  intro wq hwq
  have hbq := hB.trans (hwq.1.mono (by omega))
  have hxq := hx0.below (hwq.1.mono (by simp))
  clear hwq
  have hq := hxq; obtain ⟨q0, q1, q2, q3, q4⟩ := hq
  have hls : (lineL [97, 114, 105, 116, 104] [p, x, y]).length ≤ 80 := by have := lineL_len (wd := [97, 114, 105, 116, 104]) hxy; simp at this; omega
  go_wp2
  go_loopw [3, 26] (fun s i wr => ∃ (k : Nat) (sb : ByteArray), k ≤ ng ∧ i = .int .i64 k ∧ s = .string sb ∧ Hid (sb = bs (lineL [97, 114, 105, 116, 104] [p, x, y] ++ agatesT (gs.take k))) ∧ BxA wr w.heap.size p x y Ag ng cg Ao no co ∧ Below w.heap.size w wr) (fun _ i _ => ng - (intOf i).toNat)
  case atStart => exact ⟨0, _, Nat.zero_le _, rfl, rfl, hd, hxq, hbq⟩
  case round =>
    clear hxq hbq q0 q1 q2 q3 q4
    obtain ⟨k, sb, hk, rfl, rfl, hsb, hxr, hb⟩ := hrel
    have hsz : sb.size ≤ 80 + 60 * k := by
      rw [hsb.out, bs_size, List.length_append]
      have h1 := agatesT_len hgsm k (by omega)
      omega
    by_cases hlt : k < ng
    · obtain ⟨b, o, rfl, hbB, c0, c1, c2⟩ := (hr.1.below hb (Nat.le_refl _)).at_ hlt
      have hsn : Hid (agatesT (gs.take (k + 1)) = agatesT (gs.take k) ++ agateT (gg gs k)) := Lib.hid (agatesT_snoc (by omega))
      have hgk := hgsm k (by omega)
      obtain ⟨g, hg⟩ : ∃ g, Hid (gg gs k = g) := ⟨_, Lib.hid rfl⟩
      rw [hg.out] at c0 c1 c2 hgk hsn
      obtain ⟨gk, ga, gb⟩ := g
      dsimp only at c0 c1 c2
      have hga := hgk.a
      have hgb := hgk.b
      dsimp only at hga hgb
      have hal := itoa_len hga.1 hga.2
      have hbl := itoa_len hgb.1 hgb.2
      rw [← bs_size] at hal hbl
      by_cases hk : gk = 3
      · subst hk
        have hA4 : Below wr.heap.size wr (wr.alloc (.cells #[.int .i64 3, .int .i64 ga, .int .i64 gb] 59)) := (Below.refl _ _).alloc (Nat.le_refl _) _
        have hB4 := hb.trans (hA4.mono hb.size)
        have hzA : wr.heap.size ≤ (wr.alloc (.cells #[.int .i64 3, .int .i64 ga, .int .i64 gb] 59)).heap.size := hA4.size
        have hwz : (bs (awL 3)).size ≤ 5 := by rw [bs_size]; exact awL_len _
        go_wp2_with fail
        refine wp_region_mem0 (13) [(⟨wr.heap.size, 0, none⟩, .int .i64 3), (⟨wr.heap.size, 1, none⟩, .int .i64 ga), (⟨wr.heap.size, 2, none⟩, .int .i64 gb)] [(1, [], []), (5, [1], []), (9, [], [])] [] [(1, Res.crow 4 [.string ⟨#[97, 100, 100]⟩, .string ⟨#[109, 117, 108]⟩, .string ⟨#[115, 99, 97, 108, 101]⟩, .string ⟨#[99, 111, 110, 115, 116]⟩]), (5, Res.plain (.string (bs (awL 3)))), (9, Res.plain (.string (bs (Lib.itoa ga))))] (by kernel_rfl) (by kernel_rfl) (by kernel_rfl) (by simp only [CellsL, List.mem_cons, forall_eq_or_imp, List.not_mem_nil, false_implies, implies_true, and_true]; repeat (any_goals (apply And.intro)); all_goals (first | assumption | go_simp)) ?_
        simp only [List.take_succ_cons, List.take_zero, List.drop_succ_cons, List.drop_zero, List.take_nil, List.drop_nil, List.take, List.drop]
        repeat (first
          | ((with_reducible refine mem_pure0 ?_ ?_ ?_)
             · exact rfl
             · exact rfl
             intro K hK
             apply Exists.intro
             refine ⟨fun w3 hw3 => ?_, ?_⟩
             · have hcs := hw3
               simp only [CellsL, List.mem_cons, forall_eq_or_imp, List.not_mem_nil, false_implies, implies_true, and_true] at hcs
               clear hw3
               go_simp
               first | done | exact ⟨rfl, rfl⟩ | rfl | (rw [if_neg (by omega)]; exact ⟨rfl, rfl⟩) | (rw [if_neg]; all_goals first | exact ⟨rfl, rfl⟩ | omega)
             refine hK _ ?_
             clear hK K
             try simp only [Act.put, List.setIfInBounds_toArray, List.set_cons_zero, List.set_cons_succ])
          | ((with_reducible refine mem_skip ?_ ?_ ?_)
             · exact rfl
             · exact wanted_not rfl rfl rfl rfl
             simp only [Act.put, List.setIfInBounds_toArray, List.set_cons_zero, List.set_cons_succ])
          | ((with_reducible refine mem_pure ?_ ?_ ?_)
             · exact rfl
             · exact wanted_some rfl rfl rfl rfl
             intro K hK
             apply Exists.intro
             refine ⟨fun w3 hw3 => ?_, ?_⟩
             · have hcs := hw3
               simp only [CellsL, List.mem_cons, forall_eq_or_imp, List.not_mem_nil, false_implies, implies_true, and_true] at hcs
               clear hw3
               go_simp
               first | done | exact ⟨rfl, rfl⟩ | rfl | (rw [if_neg (by omega)]; exact ⟨rfl, rfl⟩) | (rw [if_neg]; all_goals first | exact ⟨rfl, rfl⟩ | omega)
             refine hK _ ?_
             clear hK K
             try simp only [Act.put, List.setIfInBounds_toArray, List.set_cons_zero, List.set_cons_succ]))
        focus
          (with_reducible refine mem_crow 4 [.string ⟨#[97, 100, 100]⟩, .string ⟨#[109, 117, 108]⟩, .string ⟨#[115, 99, 97, 108, 101]⟩, .string ⟨#[99, 111, 110, 115, 116]⟩] ?_ ?_ ?_ ?_ (hw := ?_))
          · exact rfl
          · exact rfl
          · intro w3 hw3 hc3 hp3
            go_simp
            exact ⟨_, rfl, Nat.le_refl _, by simp, ⟨by simp, by simp, by simp, by simp, trivial⟩, (Below.refl _ _).alloc (Nat.le_refl _) _⟩
          rotate_left
          · exact wanted_none rfl
          intro b6
          try simp only [Act.put, List.setIfInBounds_toArray, List.set_cons_zero, List.set_cons_succ]
        repeat (first
          | ((with_reducible refine mem_pure0 ?_ ?_ ?_)
             · exact rfl
             · exact rfl
             intro K hK
             apply Exists.intro
             refine ⟨fun w3 hw3 => ?_, ?_⟩
             · have hcs := hw3
               simp only [CellsL, List.mem_cons, forall_eq_or_imp, List.not_mem_nil, false_implies, implies_true, and_true] at hcs
               clear hw3
               go_simp
               first | done | exact ⟨rfl, rfl⟩ | rfl | (rw [if_neg (by omega)]; exact ⟨rfl, rfl⟩) | (rw [if_neg]; all_goals first | exact ⟨rfl, rfl⟩ | omega)
             refine hK _ ?_
             clear hK K
             try simp only [Act.put, List.setIfInBounds_toArray, List.set_cons_zero, List.set_cons_succ])
          | ((with_reducible refine mem_skip ?_ ?_ ?_)
             · exact rfl
             · exact wanted_not rfl rfl rfl rfl
             simp only [Act.put, List.setIfInBounds_toArray, List.set_cons_zero, List.set_cons_succ])
          | ((with_reducible refine mem_pure ?_ ?_ ?_)
             · exact rfl
             · exact wanted_some rfl rfl rfl rfl
             intro K hK
             apply Exists.intro
             refine ⟨fun w3 hw3 => ?_, ?_⟩
             · have hcs := hw3
               simp only [CellsL, List.mem_cons, forall_eq_or_imp, List.not_mem_nil, false_implies, implies_true, and_true] at hcs
               clear hw3
               go_simp
               first | done | exact ⟨rfl, rfl⟩ | rfl | (rw [if_neg (by omega)]; exact ⟨rfl, rfl⟩) | (rw [if_neg]; all_goals first | exact ⟨rfl, rfl⟩ | omega)
             refine hK _ ?_
             clear hK K
             try simp only [Act.put, List.setIfInBounds_toArray, List.set_cons_zero, List.set_cons_succ]))
        focus
          (with_reducible refine mem_plain (.string (bs (awL 3))) ?_ ?_ ?_ ?_ (hw := ?_))
          · exact rfl
          · exact rfl
          · intro w3 hw3 hc3 hp3
            have hcs := hc3
            simp only [CellsL, List.mem_cons, forall_eq_or_imp, List.not_mem_nil, false_implies, implies_true, and_true] at hcs
            (have h6 : b6 < w3.heap.size ∧ CellsAt w3 b6 0 [.string ⟨#[97, 100, 100]⟩, .string ⟨#[109, 117, 108]⟩, .string ⟨#[115, 99, 97, 108, 101]⟩, .string ⟨#[99, 111, 110, 115, 116]⟩] := hp3.1.1.1 b6 rfl; have e7 := aw_cells h6.2 (k := 3) (by omega); go_simp; exact postPlain.mk_ (Below.refl _ _))
          rotate_left
          · first | exact wanted_none rfl | exact wanted_some rfl rfl rfl rfl
          try simp only [Act.put, List.setIfInBounds_toArray, List.set_cons_zero, List.set_cons_succ]
        repeat (first
          | ((with_reducible refine mem_pure0 ?_ ?_ ?_)
             · exact rfl
             · exact rfl
             intro K hK
             apply Exists.intro
             refine ⟨fun w3 hw3 => ?_, ?_⟩
             · have hcs := hw3
               simp only [CellsL, List.mem_cons, forall_eq_or_imp, List.not_mem_nil, false_implies, implies_true, and_true] at hcs
               clear hw3
               go_simp
               first | done | exact ⟨rfl, rfl⟩ | rfl | (rw [if_neg (by omega)]; exact ⟨rfl, rfl⟩) | (rw [if_neg]; all_goals first | exact ⟨rfl, rfl⟩ | omega)
             refine hK _ ?_
             clear hK K
             try simp only [Act.put, List.setIfInBounds_toArray, List.set_cons_zero, List.set_cons_succ])
          | ((with_reducible refine mem_skip ?_ ?_ ?_)
             · exact rfl
             · exact wanted_not rfl rfl rfl rfl
             simp only [Act.put, List.setIfInBounds_toArray, List.set_cons_zero, List.set_cons_succ])
          | ((with_reducible refine mem_pure ?_ ?_ ?_)
             · exact rfl
             · exact wanted_some rfl rfl rfl rfl
             intro K hK
             apply Exists.intro
             refine ⟨fun w3 hw3 => ?_, ?_⟩
             · have hcs := hw3
               simp only [CellsL, List.mem_cons, forall_eq_or_imp, List.not_mem_nil, false_implies, implies_true, and_true] at hcs
               clear hw3
               go_simp
               first | done | exact ⟨rfl, rfl⟩ | rfl | (rw [if_neg (by omega)]; exact ⟨rfl, rfl⟩) | (rw [if_neg]; all_goals first | exact ⟨rfl, rfl⟩ | omega)
             refine hK _ ?_
             clear hK K
             try simp only [Act.put, List.setIfInBounds_toArray, List.set_cons_zero, List.set_cons_succ]))
        focus
          (with_reducible refine mem_plain (.string (bs (Lib.itoa ga))) ?_ ?_ ?_ ?_ (hw := ?_))
          · exact rfl
          · exact rfl
          · intro w3 hw3 hc3 hp3
            have hcs := hc3
            simp only [CellsL, List.mem_cons, forall_eq_or_imp, List.not_mem_nil, false_implies, implies_true, and_true] at hcs
            (go_simp; refine (Num_any ga hga.1 hga.2 _).mono ?_; rintro e w4 ⟨rfl, hb4⟩; exact retPost.mk_ (postPlain.mk_ hb4))
          rotate_left
          · first | exact wanted_none rfl | exact wanted_some rfl rfl rfl rfl
          try simp only [Act.put, List.setIfInBounds_toArray, List.set_cons_zero, List.set_cons_succ]
        repeat (first
          | ((with_reducible refine mem_pure0 ?_ ?_ ?_)
             · exact rfl
             · exact rfl
             intro K hK
             apply Exists.intro
             refine ⟨fun w3 hw3 => ?_, ?_⟩
             · have hcs := hw3
               simp only [CellsL, List.mem_cons, forall_eq_or_imp, List.not_mem_nil, false_implies, implies_true, and_true] at hcs
               clear hw3
               go_simp
               first | done | exact ⟨rfl, rfl⟩ | rfl | (rw [if_neg (by omega)]; exact ⟨rfl, rfl⟩) | (rw [if_neg]; all_goals first | exact ⟨rfl, rfl⟩ | omega)
             refine hK _ ?_
             clear hK K
             try simp only [Act.put, List.setIfInBounds_toArray, List.set_cons_zero, List.set_cons_succ])
          | ((with_reducible refine mem_skip ?_ ?_ ?_)
             · exact rfl
             · exact wanted_not rfl rfl rfl rfl
             simp only [Act.put, List.setIfInBounds_toArray, List.set_cons_zero, List.set_cons_succ])
          | ((with_reducible refine mem_pure ?_ ?_ ?_)
             · exact rfl
             · exact wanted_some rfl rfl rfl rfl
             intro K hK
             apply Exists.intro
             refine ⟨fun w3 hw3 => ?_, ?_⟩
             · have hcs := hw3
               simp only [CellsL, List.mem_cons, forall_eq_or_imp, List.not_mem_nil, false_implies, implies_true, and_true] at hcs
               clear hw3
               go_simp
               first | done | exact ⟨rfl, rfl⟩ | rfl | (rw [if_neg (by omega)]; exact ⟨rfl, rfl⟩) | (rw [if_neg]; all_goals first | exact ⟨rfl, rfl⟩ | omega)
             refine hK _ ?_
             clear hK K
             try simp only [Act.put, List.setIfInBounds_toArray, List.set_cons_zero, List.set_cons_succ]))
        refine wpSep_end ?_
        intro wt hwt hct hfin hap
        have hbw := alt_below hwt
        have hx5 := (hxr.below hA4).below hbw
        have hB5 := hB4.trans (hbw.mono hB4.size)
        have m0 := cell_below (p := ⟨wr.heap.size, 0, none⟩) (v := .int .i64 3) (by simp) hbw
        have m2 := cell_below (p := ⟨wr.heap.size, 2, none⟩) (v := .int .i64 gb) (by simp) hbw
        clear hwt hct hfin hap
        have hnx : Hid ((sb ++ ((bs (awL 3) ++ bs [32]) ++ bs (Lib.itoa ga))) ++ bs [10] = bs (lineL [97, 114, 105, 116, 104] [p, x, y] ++ agatesT (gs.take (k + 1)))) := Lib.hid (by
          rw [hsb.out, hsn.out, bs_append, bs_append, bs_append, bs_append]
          simp [agateT, prtA, lineL, numsL])
        go_wp2
        go_roundw
        case rel => exact ⟨k + 1, _, by omega, by go_num, rfl, hnx, hx5, hB5⟩
        case measure => simp [intOf]; omega
      · obtain ⟨kk, rfl⟩ : ∃ kk : Nat, gk = (kk : Int) := ⟨gk.toNat, by have := hgk.k; dsimp only at this; omega⟩
        have hk3 : kk ≤ 3 := by have := hgk.k; dsimp only at this; omega
        have hk4 : (kk : Int) < 4 := by omega
        have hne : ((kk : Int) != 3) = true := by simpa using hk
        have hA4 : Below wr.heap.size wr (wr.alloc (.cells #[.int .i64 (kk : Int), .int .i64 ga, .int .i64 gb] 59)) := (Below.refl _ _).alloc (Nat.le_refl _) _
        have hB4 := hb.trans (hA4.mono hb.size)
        have hzA : wr.heap.size ≤ (wr.alloc (.cells #[.int .i64 (kk : Int), .int .i64 ga, .int .i64 gb] 59)).heap.size := hA4.size
        have hwz : (bs (awL kk)).size ≤ 5 := by rw [bs_size]; exact awL_len _
        go_wp2_with fail
        refine wp_region_mem0 (13) [(⟨wr.heap.size, 0, none⟩, .int .i64 (kk : Int)), (⟨wr.heap.size, 1, none⟩, .int .i64 ga), (⟨wr.heap.size, 2, none⟩, .int .i64 gb)] [(1, [], []), (5, [1], []), (9, [], [])] [] [(1, Res.crow 4 [.string ⟨#[97, 100, 100]⟩, .string ⟨#[109, 117, 108]⟩, .string ⟨#[115, 99, 97, 108, 101]⟩, .string ⟨#[99, 111, 110, 115, 116]⟩]), (5, Res.plain (.string (bs (awL kk)))), (9, Res.plain (.string (bs (Lib.itoa ga))))] (by kernel_rfl) (by kernel_rfl) (by kernel_rfl) (by simp only [CellsL, List.mem_cons, forall_eq_or_imp, List.not_mem_nil, false_implies, implies_true, and_true]; repeat (any_goals (apply And.intro)); all_goals (first | assumption | go_simp)) ?_
        simp only [List.take_succ_cons, List.take_zero, List.drop_succ_cons, List.drop_zero, List.take_nil, List.drop_nil, List.take, List.drop]
        repeat (first
          | ((with_reducible refine mem_pure0 ?_ ?_ ?_)
             · exact rfl
             · exact rfl
             intro K hK
             apply Exists.intro
             refine ⟨fun w3 hw3 => ?_, ?_⟩
             · have hcs := hw3
               simp only [CellsL, List.mem_cons, forall_eq_or_imp, List.not_mem_nil, false_implies, implies_true, and_true] at hcs
               clear hw3
               go_simp
               first | done | exact ⟨rfl, rfl⟩ | rfl | (rw [if_neg (by omega)]; exact ⟨rfl, rfl⟩) | (rw [if_neg]; all_goals first | exact ⟨rfl, rfl⟩ | omega)
             refine hK _ ?_
             clear hK K
             try simp only [Act.put, List.setIfInBounds_toArray, List.set_cons_zero, List.set_cons_succ])
          | ((with_reducible refine mem_skip ?_ ?_ ?_)
             · exact rfl
             · exact wanted_not rfl rfl rfl rfl
             simp only [Act.put, List.setIfInBounds_toArray, List.set_cons_zero, List.set_cons_succ])
          | ((with_reducible refine mem_pure ?_ ?_ ?_)
             · exact rfl
             · exact wanted_some rfl rfl rfl rfl
             intro K hK
             apply Exists.intro
             refine ⟨fun w3 hw3 => ?_, ?_⟩
             · have hcs := hw3
               simp only [CellsL, List.mem_cons, forall_eq_or_imp, List.not_mem_nil, false_implies, implies_true, and_true] at hcs
               clear hw3
               go_simp
               first | done | exact ⟨rfl, rfl⟩ | rfl | (rw [if_neg (by omega)]; exact ⟨rfl, rfl⟩) | (rw [if_neg]; all_goals first | exact ⟨rfl, rfl⟩ | omega)
             refine hK _ ?_
             clear hK K
             try simp only [Act.put, List.setIfInBounds_toArray, List.set_cons_zero, List.set_cons_succ]))
        focus
          (with_reducible refine mem_crow 4 [.string ⟨#[97, 100, 100]⟩, .string ⟨#[109, 117, 108]⟩, .string ⟨#[115, 99, 97, 108, 101]⟩, .string ⟨#[99, 111, 110, 115, 116]⟩] ?_ ?_ ?_ ?_ (hw := ?_))
          · exact rfl
          · exact rfl
          · intro w3 hw3 hc3 hp3
            go_simp
            exact ⟨_, rfl, Nat.le_refl _, by simp, ⟨by simp, by simp, by simp, by simp, trivial⟩, (Below.refl _ _).alloc (Nat.le_refl _) _⟩
          rotate_left
          · exact wanted_none rfl
          intro b6
          try simp only [Act.put, List.setIfInBounds_toArray, List.set_cons_zero, List.set_cons_succ]
        repeat (first
          | ((with_reducible refine mem_pure0 ?_ ?_ ?_)
             · exact rfl
             · exact rfl
             intro K hK
             apply Exists.intro
             refine ⟨fun w3 hw3 => ?_, ?_⟩
             · have hcs := hw3
               simp only [CellsL, List.mem_cons, forall_eq_or_imp, List.not_mem_nil, false_implies, implies_true, and_true] at hcs
               clear hw3
               go_simp
               first | done | exact ⟨rfl, rfl⟩ | rfl | (rw [if_neg (by omega)]; exact ⟨rfl, rfl⟩) | (rw [if_neg]; all_goals first | exact ⟨rfl, rfl⟩ | omega)
             refine hK _ ?_
             clear hK K
             try simp only [Act.put, List.setIfInBounds_toArray, List.set_cons_zero, List.set_cons_succ])
          | ((with_reducible refine mem_skip ?_ ?_ ?_)
             · exact rfl
             · exact wanted_not rfl rfl rfl rfl
             simp only [Act.put, List.setIfInBounds_toArray, List.set_cons_zero, List.set_cons_succ])
          | ((with_reducible refine mem_pure ?_ ?_ ?_)
             · exact rfl
             · exact wanted_some rfl rfl rfl rfl
             intro K hK
             apply Exists.intro
             refine ⟨fun w3 hw3 => ?_, ?_⟩
             · have hcs := hw3
               simp only [CellsL, List.mem_cons, forall_eq_or_imp, List.not_mem_nil, false_implies, implies_true, and_true] at hcs
               clear hw3
               go_simp
               first | done | exact ⟨rfl, rfl⟩ | rfl | (rw [if_neg (by omega)]; exact ⟨rfl, rfl⟩) | (rw [if_neg]; all_goals first | exact ⟨rfl, rfl⟩ | omega)
             refine hK _ ?_
             clear hK K
             try simp only [Act.put, List.setIfInBounds_toArray, List.set_cons_zero, List.set_cons_succ]))
        focus
          (with_reducible refine mem_plain (.string (bs (awL kk))) ?_ ?_ ?_ ?_ (hw := ?_))
          · exact rfl
          · exact rfl
          · intro w3 hw3 hc3 hp3
            have hcs := hc3
            simp only [CellsL, List.mem_cons, forall_eq_or_imp, List.not_mem_nil, false_implies, implies_true, and_true] at hcs
            (have h6 : b6 < w3.heap.size ∧ CellsAt w3 b6 0 [.string ⟨#[97, 100, 100]⟩, .string ⟨#[109, 117, 108]⟩, .string ⟨#[115, 99, 97, 108, 101]⟩, .string ⟨#[99, 111, 110, 115, 116]⟩] := hp3.1.1.1 b6 rfl; have e7 := aw_cells h6.2 (k := kk) (by omega); go_simp; exact postPlain.mk_ (Below.refl _ _))
          rotate_left
          · first | exact wanted_none rfl | exact wanted_some rfl rfl rfl rfl
          try simp only [Act.put, List.setIfInBounds_toArray, List.set_cons_zero, List.set_cons_succ]
        repeat (first
          | ((with_reducible refine mem_pure0 ?_ ?_ ?_)
             · exact rfl
             · exact rfl
             intro K hK
             apply Exists.intro
             refine ⟨fun w3 hw3 => ?_, ?_⟩
             · have hcs := hw3
               simp only [CellsL, List.mem_cons, forall_eq_or_imp, List.not_mem_nil, false_implies, implies_true, and_true] at hcs
               clear hw3
               go_simp
               first | done | exact ⟨rfl, rfl⟩ | rfl | (rw [if_neg (by omega)]; exact ⟨rfl, rfl⟩) | (rw [if_neg]; all_goals first | exact ⟨rfl, rfl⟩ | omega)
             refine hK _ ?_
             clear hK K
             try simp only [Act.put, List.setIfInBounds_toArray, List.set_cons_zero, List.set_cons_succ])
          | ((with_reducible refine mem_skip ?_ ?_ ?_)
             · exact rfl
             · exact wanted_not rfl rfl rfl rfl
             simp only [Act.put, List.setIfInBounds_toArray, List.set_cons_zero, List.set_cons_succ])
          | ((with_reducible refine mem_pure ?_ ?_ ?_)
             · exact rfl
             · exact wanted_some rfl rfl rfl rfl
             intro K hK
             apply Exists.intro
             refine ⟨fun w3 hw3 => ?_, ?_⟩
             · have hcs := hw3
               simp only [CellsL, List.mem_cons, forall_eq_or_imp, List.not_mem_nil, false_implies, implies_true, and_true] at hcs
               clear hw3
               go_simp
               first | done | exact ⟨rfl, rfl⟩ | rfl | (rw [if_neg (by omega)]; exact ⟨rfl, rfl⟩) | (rw [if_neg]; all_goals first | exact ⟨rfl, rfl⟩ | omega)
             refine hK _ ?_
             clear hK K
             try simp only [Act.put, List.setIfInBounds_toArray, List.set_cons_zero, List.set_cons_succ]))
        focus
          (with_reducible refine mem_plain (.string (bs (Lib.itoa ga))) ?_ ?_ ?_ ?_ (hw := ?_))
          · exact rfl
          · exact rfl
          · intro w3 hw3 hc3 hp3
            have hcs := hc3
            simp only [CellsL, List.mem_cons, forall_eq_or_imp, List.not_mem_nil, false_implies, implies_true, and_true] at hcs
            (go_simp; refine (Num_any ga hga.1 hga.2 _).mono ?_; rintro e w4 ⟨rfl, hb4⟩; exact retPost.mk_ (postPlain.mk_ hb4))
          rotate_left
          · first | exact wanted_none rfl | exact wanted_some rfl rfl rfl rfl
          try simp only [Act.put, List.setIfInBounds_toArray, List.set_cons_zero, List.set_cons_succ]
        repeat (first
          | ((with_reducible refine mem_pure0 ?_ ?_ ?_)
             · exact rfl
             · exact rfl
             intro K hK
             apply Exists.intro
             refine ⟨fun w3 hw3 => ?_, ?_⟩
             · have hcs := hw3
               simp only [CellsL, List.mem_cons, forall_eq_or_imp, List.not_mem_nil, false_implies, implies_true, and_true] at hcs
               clear hw3
               go_simp
               first | done | exact ⟨rfl, rfl⟩ | rfl | (rw [if_neg (by omega)]; exact ⟨rfl, rfl⟩) | (rw [if_neg]; all_goals first | exact ⟨rfl, rfl⟩ | omega)
             refine hK _ ?_
             clear hK K
             try simp only [Act.put, List.setIfInBounds_toArray, List.set_cons_zero, List.set_cons_succ])
          | ((with_reducible refine mem_skip ?_ ?_ ?_)
             · exact rfl
             · exact wanted_not rfl rfl rfl rfl
             simp only [Act.put, List.setIfInBounds_toArray, List.set_cons_zero, List.set_cons_succ])
          | ((with_reducible refine mem_pure ?_ ?_ ?_)
             · exact rfl
             · exact wanted_some rfl rfl rfl rfl
             intro K hK
             apply Exists.intro
             refine ⟨fun w3 hw3 => ?_, ?_⟩
             · have hcs := hw3
               simp only [CellsL, List.mem_cons, forall_eq_or_imp, List.not_mem_nil, false_implies, implies_true, and_true] at hcs
               clear hw3
               go_simp
               first | done | exact ⟨rfl, rfl⟩ | rfl | (rw [if_neg (by omega)]; exact ⟨rfl, rfl⟩) | (rw [if_neg]; all_goals first | exact ⟨rfl, rfl⟩ | omega)
             refine hK _ ?_
             clear hK K
             try simp only [Act.put, List.setIfInBounds_toArray, List.set_cons_zero, List.set_cons_succ]))
        refine wpSep_end ?_
        intro wt hwt hct hfin hap
        have hbw := alt_below hwt
        have hx5 := (hxr.below hA4).below hbw
        have hB5 := hB4.trans (hbw.mono hB4.size)
        have m0 := cell_below (p := ⟨wr.heap.size, 0, none⟩) (v := .int .i64 (kk : Int)) (by simp) hbw
        have m2 := cell_below (p := ⟨wr.heap.size, 2, none⟩) (v := .int .i64 gb) (by simp) hbw
        clear hwt hct hfin hap
        have hnx : Hid (((sb ++ ((bs (awL kk) ++ bs [32]) ++ bs (Lib.itoa ga))) ++ (bs [32] ++ bs (Lib.itoa gb))) ++ bs [10] = bs (lineL [97, 114, 105, 116, 104] [p, x, y] ++ agatesT (gs.take (k + 1)))) := Lib.hid (by
          rw [hsb.out, hsn.out]
          simp only [bs_append]
          simp [agateT, prtA, lineL, numsL, hk])
        go_wp2_with fail
        refine (Num_any gb hgb.1 hgb.2 _).mono ?_
        rintro e w6 ⟨rfl, hb6⟩
        have hx6 := hx5.below hb6
        have hB6 := hB5.trans (hb6.mono hB5.size)
        go_wp2
        go_roundw
        case rel => exact ⟨k + 1, _, by omega, by go_num, rfl, hnx, hx6, hB6⟩
        case measure => simp [intOf]; omega
    · obtain rfl : ng = k := by omega
      have hq := hxr; obtain ⟨q0, q1, q2, q3, q4⟩ := hq
      go_wp2
      go_loopw [3, 59] (fun s i w5 => ∃ (j : Nat) (sc : ByteArray), j ≤ no ∧ i = .int .i64 j ∧ s = .string sc ∧ Hid (sc = bs (lineL [97, 114, 105, 116, 104] [p, x, y] ++ agatesT gs ++ [111, 117, 116, 115] ++ numsL (os.take j))) ∧ Below w.heap.size w w5) (fun _ i _ => no - (intOf i).toNat)
      case atStart => exact ⟨0, _, Nat.zero_le _, rfl, rfl, Lib.hid (by
        show sb ++ bs [111, 117, 116, 115] = _
        rw [hsb.out, bs_append, List.take_zero, numsL_nil, List.append_nil, List.take_of_length_le (by omega)]), hb⟩
      case round =>
        clear hxr hb q0 q1 q2 q3 q4
        obtain ⟨j, sc, hj, rfl, rfl, hsc, hb5⟩ := hrel
        have hsz2 : sc.size ≤ 80 + 60 * gs.length + 4 + 22 * j := by
          rw [hsc.out, bs_size, List.length_append, List.length_append, List.length_append]
          have h1 := agatesT_len hgsm gs.length (by omega)
          rw [List.take_length] at h1
          have h2 := numsL_len (smallN_take hosm j)
          have h3 : (os.take j).length ≤ j := by simp; omega
          simp only [List.length_cons, List.length_nil]
          omega
        by_cases hlj : j < no
        · obtain ⟨b6, o6, rfl, hb6, d1⟩ := (hr.2.below hb5 (Nat.le_refl _)).at_ hlj
          have hgi := hosm _ (gi_mem (xs := os) (j := j) (by omega))
          have hi := itoa_len hgi.1 hgi.2
          rw [← bs_size] at hi
          go_wp2_with fail
          refine (Num_any (gi os j) hgi.1 hgi.2 _).mono ?_
          rintro e w6 ⟨rfl, hb6'⟩
          have hnx : Hid (sc ++ (bs [32] ++ bs (Lib.itoa (gi os j))) = bs (lineL [97, 114, 105, 116, 104] [p, x, y] ++ agatesT gs ++ [111, 117, 116, 115] ++ numsL (os.take (j + 1)))) := Lib.hid (by
            rw [hsc.out, take_snoc_gi (by omega), numsL_snoc, bs_append, bs_append]; simp)
          have hB6 := hb5.trans (hb6'.mono hb5.size)
          go_wp2
          go_roundw
          case rel => exact ⟨j + 1, _, by omega, by go_num, rfl, hnx, hB6⟩
          case measure => simp [intOf]; omega
        · obtain rfl : no = j := by omega
          have hfin : Hid (sc ++ bs [10] = bs (arithT p x y gs os)) := Lib.hid (by
            rw [hsc.out, bs_append, List.take_of_length_le (by omega)]; simp [arithT, lineL])
          go_wp2
          go_ret
          exact ⟨by rw [← hfin.out]; rfl, hb5⟩

set_option maxRecDepth 100000 in
theorem spec_ArithText_any (p x y : Int) (Ag : Option Addr) (ng cg : Nat) (Ao : Option Addr) (no co : Nat) (gs : List G3) (os : List Int) (w : World) (hr : RG w Ag ng gs ∧ RI w Ao no os) (hng : ng ≤ 2097152) (hno : no ≤ 2097152) :
    Calls Tryd.prog 13 #[.agg #[.int .i64 p, .int .i64 x, .int .i64 y, .slice Ag ng cg, .slice Ao no co]] w fun e w' => e = .returned (.tuple #[.string (bs (atF p x y gs os)), .bool (arB p x y gs os)]) ∧ Below w.heap.size w w' := by
  have hB : Below w.heap.size w (w.alloc (.cells #[.int .i64 p, .int .i64 x, .int .i64 y, .slice Ag ng cg, .slice Ao no co] 40)) := (Below.refl _ _).alloc (Nat.le_refl _) _
  have hx0 : BxA (w.alloc (.cells #[.int .i64 p, .int .i64 x, .int .i64 y, .slice Ag ng cg, .slice Ao no co] 40)) w.heap.size p x y Ag ng cg Ao no co := BxA.new w _
  cases h1 : arB p x y gs os with
  | false =>
    have HR : Hid (atF p x y gs os = []) := Lib.hid (by simp [atF, h1])
    have H1 := Lib.hid h1; clear h1
    go_enter Tryd.func13, Tryd.ntmps13
    go_wp2_with fail
    refine (arGood_any p x y Ag ng cg Ao no co gs os _ (hr.1.below hB (Nat.le_refl _)) (hr.2.below hB (Nat.le_refl _)) hng hno).mono ?_
    rintro e v1 ⟨rfl, hb1⟩
    rw [H1.out]
    go_wp2
    go_ret2
    exact ⟨by rw [HR.out]; rfl, hB.trans (hb1.mono hB.size)⟩
  | true =>
    have HR : Hid (atF p x y gs os = arithT p x y gs os) := Lib.hid (by simp [atF, h1])
    have H1 := Lib.hid h1
    have hct := fun v1 hr1 => arText_any p x y Ag ng cg Ao no co gs os v1 hr1 h1
    clear h1
    go_enter Tryd.func13, Tryd.ntmps13
    go_wp2_with fail
    refine (arGood_any p x y Ag ng cg Ao no co gs os _ (hr.1.below hB (Nat.le_refl _)) (hr.2.below hB (Nat.le_refl _)) hng hno).mono ?_
    rintro e v1 ⟨rfl, hb1⟩
    rw [H1.out]
    have hB1 := hB.trans (hb1.mono hB.size)
    have hx1 := hx0.below hb1
    obtain ⟨q0, q1, q2, q3, q4⟩ := hx1
    go_wp2_with fail
    refine (hct _ ⟨hr.1.below hB1 (Nat.le_refl _), hr.2.below hB1 (Nat.le_refl _)⟩).mono ?_
    rintro e v2 ⟨rfl, hb2⟩
    go_wp2
    go_ret2
    exact ⟨by rw [HR.out]; rfl, hB1.trans (hb2.mono hB1.size)⟩

end Go.Proofs.YtgpfiefhhlejfaaDoor
