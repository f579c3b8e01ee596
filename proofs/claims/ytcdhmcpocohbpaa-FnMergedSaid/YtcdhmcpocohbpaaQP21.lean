/- Plain facts for the law of merged circuits, joined. No program in sight. Words of the law of merged circuits: qGates, qCircuit, qHas; WireValues and EvalCircuit where they succeed. Lengths below 2^21. -/
import Derived.Test.YtcdhmcpocohbpaaQP17
import Derived.Test.YtcdhmcpocohbpaaQP19
import Derived.Test.YtcdhmcpocohbpaaQP20
import Derived.Test.YtcdhmcpocohbpaaQP07
import Derived.Test.YtcdhmcpocohbpaaQP14
import Derived.Test.YtcdhmcpocohbpaaQP15
namespace Go.Proofs.Ytcdhmcpocohbpaa
open Go.RowKit
set_option linter.unusedVariables false
set_option linter.unusedSimpArgs false
theorem gateB_of {g : G3} {n : Int} (h : GateIs g n) : gateB g n = true := by
  unfold gateB
  cases h with
  | xor_ hk a0 a1 b0 b1 => rw [if_pos (.inl hk)]; simp only [Bool.and_eq_true, inB_iff]; omega
  | and_ hk a0 a1 b0 b1 => rw [if_pos (.inr hk)]; simp only [Bool.and_eq_true, inB_iff]; omega
  | not_ hk a0 a1 b0 => rw [if_neg (by omega), if_pos hk]; simp only [Bool.and_eq_true, inB_iff, decide_eq_true_eq]; omega
  | one_ hk a0 b0 => rw [if_neg (by omega), if_neg (by omega)]; simp only [Bool.and_eq_true, decide_eq_true_eq]; omega
theorem circB_of {x y : Int} {gs : List G3} {os : List Int} (hx : 0 ≤ x ∧ x ≤ 20) (hy : 0 ≤ y ∧ y ≤ 20) (hl : gs.length ≤ 300) (ho : os.length ≤ 40) (hg : ∀ k : Nat, k < gs.length → GateIs (gg gs k) (x + y + k)) (hO : ∀ z ∈ os, 0 ≤ z ∧ z < x + y + gs.length) : circB x y gs os = true := by
  unfold circB
  simp only [Bool.and_eq_true, inB_iff, decide_eq_true_eq]
  refine ⟨hx, hy, hl, ho, ?_, allB_iff.2 fun z hz => by have := hO z hz; omega⟩
  unfold gatesB
  exact List.all_eq_true.2 fun i hi => gateB_of (hg i (List.mem_range.1 hi))
theorem circB_is' {x y : Int} {gs : List G3} {os : List Int} (h : circB x y gs os = true) : (0 ≤ x ∧ x ≤ 20) ∧ (0 ≤ y ∧ y ≤ 20) ∧ gs.length ≤ 300 ∧ os.length ≤ 40 ∧ (∀ k : Nat, k < gs.length → GateIs (gg gs k) (x + y + k)) ∧ ∀ z ∈ os, 0 ≤ z ∧ z < x + y + gs.length := by
  have hb := circB_bd h
  refine ⟨hb.1, hb.2.1, hb.2.2.1, hb.2.2.2.1, fun k hk => gatesB_at hb.2.2.2.2.1 hk, fun z hz => ?_⟩
  have := allB_iff.1 hb.2.2.2.2.2 z hz
  omega
def Inp (X : Nat) (inp : List Int) : Prop := inp.length = X ∧ allB 0 1 inp = true
structure SameC (x y : Int) (gs : List G3) (os : List Int) (ms : List G3) (qs : List Int) : Prop where
  c : circB x y gs os = true
  m : circB x y ms qs = true
  no : qs.length = os.length
  vals : ∀ inp, Inp (x + y).toNat inp → pick (vals ms inp ms.length) qs = pick (vals gs inp gs.length) os
theorem circB_X {x y : Int} {gs : List G3} {os : List Int} (h : circB x y gs os = true) : ((x + y).toNat : Int) = x + y ∧ (∀ j : Nat, j < gs.length → GateIs (gg gs j) (((x + y).toNat : Int) + j)) ∧ ∀ z ∈ os, 0 ≤ z ∧ z < ((x + y).toNat : Int) + gs.length := by
  obtain ⟨hx, hy, _, _, hg, hO⟩ := circB_is' h
  have e : ((x + y).toNat : Int) = x + y := by omega
  refine ⟨e, fun j hj => ?_, fun z hz => ?_⟩
  · rw [e]; exact hg j hj
  · rw [e]; exact hO z hz
theorem pick_vals {V W os qs T : List Int} (hq : qs = pick T os) (h : ∀ z ∈ os, gi V (gi T z.toNat).toNat = gi W z.toNat) : pick V qs = pick W os := by
  subst hq
  unfold pick
  rw [List.map_map]
  exact List.map_congr_left fun z hz => h z hz
theorem merge_all {x y : Int} {gs : List G3} {os : List Int} {M : Ci} (h : mergeF x y gs os = some M) : M.i0 = x ∧ M.i1 = y ∧ M.gs.length = gs.length ∧ SameC x y gs os M.gs M.os := by
  unfold mergeF at h
  split at h
  · rename_i hc
    injection h with h
    subst h
    obtain ⟨hx, hy, hl, ho, _, _⟩ := circB_is' hc
    obtain ⟨e, hg, hO⟩ := circB_X hc
    have hml := mrg_len (x + y).toNat gs gs.length
    have hmg := mrg_gates hg gs.length (Nat.le_refl _)
    refine ⟨rfl, rfl, hml.1, hc, circB_of hx hy (by dsimp only; omega) (by dsimp only; rw [pick_len]; exact ho) (fun k hk => ?_) (fun z hz => ?_), pick_len _ _, fun inp ⟨hi1, hi2⟩ => pick_vals rfl fun z hz => ?_⟩
    · dsimp only at hk ⊢
      have := hmg k (by omega)
      rwa [e] at this
    · obtain ⟨o, hm, rfl⟩ := List.mem_map.1 hz
      have h1 := hO o hm
      have h2 := mrg_to (n := (x + y).toNat) (gs := gs) (k := gs.length) (z := o) h1.1 h1.2
      dsimp only
      omega
    · have h1 := hO z hz
      dsimp only
      rw [hml.1]
      exact mrg_vals hi1 hi2 hg gs.length (Nat.le_refl _) z.toNat (by omega)
  · cases h
theorem drop_all {x y : Int} {gs : List G3} {os : List Int} {M : Ci} (h : dropF x y gs os = some M) : M.i0 = x ∧ M.i1 = y ∧ M.gs.length ≤ gs.length ∧ SameC x y gs os M.gs M.os ∧ ∀ i : Nat, i < M.gs.length → x + y + i ∈ usedL (x + y).toNat M.gs M.os := by
  unfold dropF at h
  split at h
  · rename_i hc
    injection h with h
    subst h
    obtain ⟨hx, hy, hl, ho, _, _⟩ := circB_is' hc
    obtain ⟨e, hg, hO⟩ := circB_X hc
    have hml := drp_len (x + y).toNat gs (usedL (x + y).toNat gs os) gs.length
    have hcl : ∀ j : Nat, j < gs.length → ((x + y).toNat : Int) + j ∈ usedL (x + y).toNat gs os → ∀ z ∈ prt (gg gs j), z ∈ usedL (x + y).toNat gs os := fun j hj hu => usd_closed hg hj hu
    have hou : ∀ z ∈ os, z ∈ usedL (x + y).toNat gs os := fun z hz => usd_mono (puts_mem.2 (.inl hz))
    have hsrc := drp_src (X := (x + y).toNat) (gs := gs) (U := usedL (x + y).toNat gs os) gs.length
    have hdst := drp_dst hg hcl gs.length (Nat.le_refl _)
    refine ⟨rfl, rfl, hml.1, ⟨hc, circB_of hx hy (by dsimp only; omega) (by dsimp only; rw [pick_len]; exact ho) (fun k hk => ?_) (fun z hz => ?_), pick_len _ _, fun inp ⟨hi1, hi2⟩ => pick_vals rfl fun z hz => ?_⟩, fun i hi => ?_⟩
    · dsimp only at hk ⊢
      obtain ⟨j, j1, j2, j3⟩ := hsrc k hk
      obtain ⟨r, r1, r2, r3, r4⟩ := hdst j j1 j2
      have : r = k := by omega
      subst this
      rwa [e] at r4
    · obtain ⟨o, hm, rfl⟩ := List.mem_map.1 hz
      have h1 := hO o hm
      have h2 := drp_bd (X := (x + y).toNat) (gs := gs) (U := usedL (x + y).toNat gs os) gs.length o.toNat (by omega) (.inr (by rw [show ((o.toNat : Nat) : Int) = o by omega]; exact hou o hm))
      dsimp only
      omega
    · have h1 := hO z hz
      dsimp only
      exact drp_vals hi1 hg hcl gs.length (Nat.le_refl _) z.toNat (by omega) (.inr (by rw [show ((z.toNat : Nat) : Int) = z by omega]; exact hou z hz))
    · have := drp_used (X := (x + y).toNat) (os := os) hg i hi
      rwa [e] at this
  · cases h
theorem cst_all {x y : Int} {gs : List G3} {os K : List Int} (h : cstF x y gs os = some K) : K.length = (x + y).toNat + gs.length ∧ ∀ inp, Inp (x + y).toNat inp → ∀ i : Nat, i < K.length → 0 ≤ gi K i → gi (vals gs inp gs.length) i = gi K i := by
  unfold cstF at h
  split at h
  · rename_i hc
    injection h with h
    subst h
    obtain ⟨e, hg, hO⟩ := circB_X hc
    refine ⟨csts_len _ _ _, fun inp ⟨hi1, hi2⟩ i hi h0 => ?_⟩
    rw [csts_len] at hi
    exact csts_vals hi1 hi2 hg gs.length (Nat.le_refl _) i hi h0
  · cases h
theorem bitsN_cons' (n k : Nat) : bitsN n (k + 1) = ((n % 2 : Nat) : Int) :: bitsN (n / 2) k := by
  unfold bitsN tab
  rw [List.range_succ_eq_map, List.map_cons, List.map_map]
  congr 1
  · simp
  · refine List.map_congr_left fun i _ => ?_
    show ((n / 2 ^ (i + 1) % 2 : Nat) : Int) = ((n / 2 / 2 ^ i % 2 : Nat) : Int)
    rw [Nat.div_div_eq_div_mul, Nat.pow_succ, Nat.mul_comm]
theorem bitsN_numN' {xs : List Int} (h : allB 0 1 xs = true) : bitsN (numN xs).toNat xs.length = xs := by
  induction xs with
  | nil => rfl
  | cons b l ih =>
    have h1 := allB_iff.1 h
    have hb := h1 b (by simp)
    have hl : allB 0 1 l = true := allB_iff.2 fun z hz => h1 z (by simp [hz])
    have hn := (numN_bd hl).1
    rw [List.length_cons, bitsN_cons', numN]
    have e1 : (b + 2 * numN l).toNat / 2 = (numN l).toNat := by omega
    rw [e1, ih hl]
    congr 1
    omega
theorem eqo_all {x y : Int} {gs : List G3} {os E : List Int} (h : eqoF x y gs os = some E) : E.length = os.length ∧ (∀ i : Nat, i < os.length → 0 ≤ gi E i ∧ gi E i ≤ i) ∧ ∀ inp, Inp (x + y).toNat inp → ∀ i : Nat, i < os.length → gi (vals gs inp gs.length) (gi os i).toNat = gi (vals gs inp gs.length) (gi os (gi E i).toNat).toNat := by
  unfold eqoF at h
  split at h
  · injection h with h
    subst h
    refine ⟨tab_len _ _, fun i hi => ?_, fun inp ⟨hi1, hi2⟩ i hi => ?_⟩
    · rw [gi_tab hi]
      have := (firstEq_spec (colN gs os (x + y).toNat) i).1
      omega
    · rw [gi_tab hi]
      obtain ⟨f1, f2, _⟩ := firstEq_spec (colN gs os (x + y).toNat) i
      have hb := numN_bd hi2
      have hn : (numN inp).toNat < 2 ^ (x + y).toNat := by
        have : ((2 ^ (x + y).toNat : Nat) : Int) = 2 ^ inp.length := by rw [hi1]; exact_mod_cast rfl
        omega
      have key : ∀ k, k < os.length → gi (colN gs os (x + y).toNat k) (numN inp).toNat = gi (vals gs inp gs.length) (gi os k).toNat := fun k hk => by
        unfold colN
        rw [gi_tab hn, outsN, pick, gi_map hk, ← hi1, bitsN_numN' hi2]
      rw [← key i hi, ← f2, key _ (by omega)]
      rfl
  · cases h
attribute [local go_sem] sepAt sepUpon pureAt pureUpon
set_option maxHeartbeats 1000000 in
theorem qGates_any (Ag Bg : Option Addr) (ng cg dg : Nat) (gs : List G3) (w : World) (hr : RG w Ag ng gs) (hs : RG w Bg ng gs) (hng : ng ≤ 2097152) :
    Calls Try.prog 49 #[.slice Ag ng cg, .slice Bg ng dg] w fun e w' => e = .returned (.bool true) ∧ ∃ j, w' = w.drewN j := by
  have n3 : ((ng : Int) != ng) = false := by simp
  go_enter Try.func49, Try.ntmps49
  go_wp2
  go_loopw [13] (fun i wr => ∃ k j : Nat, k ≤ ng ∧ i = .int .i64 k ∧ wr = w.drewN j) (fun i _ => ng - (intOf i).toNat)
  case atStart => exact ⟨0, 0, Nat.zero_le _, rfl, rfl⟩
  case round =>
    obtain ⟨k, j, hk, rfl, rfl⟩ := hrel
    by_cases hlt : k < ng
    · obtain ⟨kb, ob, rfl, hkb, d1, d2, d3⟩ := hr.at_ hlt
      obtain ⟨kc, oc, rfl, hkc, f1, f2, f3⟩ := hs.at_ hlt
      generalize gg gs k = GG at *
      go_wp2_with fail
      go_quiet (fail)
      go_wp2
      go_roundw
      case rel => exact ⟨k + 1, _, by omega, by go_num, by first | rfl | exact World.drewN_drewN _ _ _⟩
      case measure => simp [intOf]; omega
    · obtain rfl : ng = k := Nat.le_antisymm (Nat.le_of_not_lt hlt) hk
      go_wp2
      go_ret
      exact ⟨rfl, _, rfl⟩
theorem sameB_refl2 (xs : List Int) : sameB xs xs = true := sameB_all rfl fun _ _ => rfl
set_option maxHeartbeats 1000000 in
theorem qCircuit_any (x y : Int) (Ag Bg : Option Addr) (ng cg dg : Nat) (Ao Bo : Option Addr) (no co do_ : Nat) (gs : List G3) (os : List Int) (w : World) (hr : RG w Ag ng gs ∧ RI w Ao no os) (hs : RG w Bg ng gs ∧ RI w Bo no os) (hng : ng ≤ 2097152) (hno : no ≤ 2097152) :
    Calls Try.prog 13 #[.agg #[.int .i64 x, .int .i64 y, .slice Ag ng cg, .slice Ao no co], .agg #[.int .i64 x, .int .i64 y, .slice Bg ng dg, .slice Bo no do_]] w fun e w' => e = .returned (.bool true) ∧ Below w.heap.size w w' := by
  have hB : Below w.heap.size w ((w.alloc (.cells #[.int .i64 x, .int .i64 y, .slice Ag ng cg, .slice Ao no co] 26)).alloc (.cells #[.int .i64 x, .int .i64 y, .slice Bg ng dg, .slice Bo no do_] 26)) := ((Below.refl _ _).alloc (Nat.le_refl _) _).alloc (by simp) _
  have al1 : Below (w.alloc (.cells #[.int .i64 x, .int .i64 y, .slice Ag ng cg, .slice Ao no co] 26)).heap.size (w.alloc (.cells #[.int .i64 x, .int .i64 y, .slice Ag ng cg, .slice Ao no co] 26)) ((w.alloc (.cells #[.int .i64 x, .int .i64 y, .slice Ag ng cg, .slice Ao no co] 26)).alloc (.cells #[.int .i64 x, .int .i64 y, .slice Bg ng dg, .slice Bo no do_] 26)) := (Below.refl _ _).alloc (Nat.le_refl _) _
  have p0 : BxC ((w.alloc (.cells #[.int .i64 x, .int .i64 y, .slice Ag ng cg, .slice Ao no co] 26)).alloc (.cells #[.int .i64 x, .int .i64 y, .slice Bg ng dg, .slice Bo no do_] 26)) w.heap.size x y Ag ng cg Ao no co := (BxC.new w _).below al1
  have p1 : BxC ((w.alloc (.cells #[.int .i64 x, .int .i64 y, .slice Ag ng cg, .slice Ao no co] 26)).alloc (.cells #[.int .i64 x, .int .i64 y, .slice Bg ng dg, .slice Bo no do_] 26)) (w.heap.size + 1) x y Bg ng dg Bo no do_ := by simpa using BxC.new (x := x) (y := y) (Ag := Bg) (ng := ng) (cg := dg) (Ao := Bo) (no := no) (co := do_) (w.alloc (.cells #[.int .i64 x, .int .i64 y, .slice Ag ng cg, .slice Ao no co] 26)) 26
  have n1 : (x == x) = true := by simp
  have n2 : (y == y) = true := by simp
  have hq := p0; obtain ⟨k0, k1, k2, k3⟩ := hq
  have hq := p1; obtain ⟨m0, m1, m2, m3⟩ := hq
  go_enter Try.func13, Try.ntmps13
  go_wp2_with fail
  refine (qGates_any Ag Bg ng cg dg gs _ (hr.1.below hB (Nat.le_refl _)) (hs.1.below hB (Nat.le_refl _)) hng).mono ?_
  rintro e a1 ⟨rfl, j, rfl⟩
  have hB1 := below_drewN hB j
  have q0 : BxC (((w.alloc (.cells #[.int .i64 x, .int .i64 y, .slice Ag ng cg, .slice Ao no co] 26)).alloc (.cells #[.int .i64 x, .int .i64 y, .slice Bg ng dg, .slice Bo no do_] 26)).drewN j) w.heap.size x y Ag ng cg Ao no co := p0
  have q1 : BxC (((w.alloc (.cells #[.int .i64 x, .int .i64 y, .slice Ag ng cg, .slice Ao no co] 26)).alloc (.cells #[.int .i64 x, .int .i64 y, .slice Bg ng dg, .slice Bo no do_] 26)).drewN j) (w.heap.size + 1) x y Bg ng dg Bo no do_ := p1
  clear k0 k1 k2 k3 m0 m1 m2 m3 p0 p1 al1 hB
  generalize ((w.alloc (.cells #[.int .i64 x, .int .i64 y, .slice Ag ng cg, .slice Ao no co] 26)).alloc (.cells #[.int .i64 x, .int .i64 y, .slice Bg ng dg, .slice Bo no do_] 26)).drewN j = a1 at *
  have hq := q0; obtain ⟨k0, k1, k2, k3⟩ := hq
  have hq := q1; obtain ⟨m0, m1, m2, m3⟩ := hq
  go_wp2_with fail
  refine (qInts_any Ao Bo no co no do_ os os _ (hr.2.below hB1 (Nat.le_refl _)) (hs.2.below hB1 (Nat.le_refl _)) hno hno).mono ?_
  rintro e a2 ⟨rfl, j2, rfl⟩
  rw [sameB_refl2]
  go_wp2
  go_ret
  exact ⟨by simp, below_drewN hB1 j2⟩
theorem qHas_any (A : Option Addr) (n c : Nat) (xs : List Int) (v : Int) (w : World) (ha : RI w A n xs) (hn : n ≤ 2097152) (hv : v ∈ xs) :
    Calls Try.prog 16 #[.slice A n c, .int .i64 v] w fun e w' => e = .returned (.bool true) ∧ w = w' := by
  have HV : Hid (∃ q, q < n ∧ gi xs q = v) := Lib.hid (by
    obtain ⟨q, hq, he⟩ := List.getElem_of_mem hv
    exact ⟨q, by have := ha.len; omega, by rw [gi_lt hq]; exact he⟩)
  clear hv
  go_enter Try.func16, Try.ntmps16
  go_wp2
  go_loopw [9] (fun i wr => ∃ k : Nat, k ≤ n ∧ i = .int .i64 k ∧ wr = w ∧ Hid (∀ q, q < k → gi xs q ≠ v)) (fun i _ => n - (intOf i).toNat)
  case atStart => exact ⟨0, Nat.zero_le _, rfl, rfl, Lib.hid fun q hq => absurd hq (by omega)⟩
  case round =>
    obtain ⟨k, hk, rfl, rfl, hq⟩ := hrel
    by_cases hlt : k < n
    · obtain ⟨b, o, rfl, hbB, e1⟩ := ha.at_ hlt
      by_cases h1 : gi xs k = v
      · rw [h1] at e1
        have h2 : (v == v) = true := by simp
        clear h1 hq
        go_wp2
        go_ret
        exact ⟨rfl, rfl⟩
      · have h2 : (gi xs k == v) = false := by simpa using h1
        have hq2 : Hid (∀ q, q < k + 1 → gi xs q ≠ v) := Lib.hid fun q hq' => by
          rcases Nat.lt_or_ge q k with h | h
          · exact hq.out q h
          · obtain rfl : q = k := by omega
            exact h1
        clear h1 hq
        generalize gi xs k = X at *
        go_wp2
        go_roundw
        case rel => exact ⟨k + 1, by omega, by go_num, by first | rfl | trivial, hq2⟩
        case measure => simp [intOf]; omega
    · obtain rfl : n = k := Nat.le_antisymm (Nat.le_of_not_lt hlt) hk
      exact absurd (hq.out) (fun h => by obtain ⟨q, h1, h2⟩ := HV.out; exact h q h1 h2)
set_option maxHeartbeats 1000000 in
theorem areInputs_ok (x y : Int) (Ag : Option Addr) (ng cg : Nat) (Ao : Option Addr) (no co : Nat) (A B : Option Addr) (n c m d : Nat) (gs : List G3) (os us ws : List Int) (w : World) (hr : RG w Ag ng gs ∧ RI w Ao no os) (hng : ng ≤ 2097152) (hno : no ≤ 2097152) (hc : circB x y gs os = true) (ha : RI w A n us) (hb : RI w B m ws) (hn : (n : Int) = x) (hm : (m : Int) = y) (h1 : allB 0 1 us = true) (h2 : allB 0 1 ws = true) :
    Calls Try.prog 51 #[.agg #[.int .i64 x, .int .i64 y, .slice Ag ng cg, .slice Ao no co], .slice A n c, .slice B m d] w fun e w' => e = .returned (.bool true) ∧ Below w.heap.size w w' := by
  have hB : Below w.heap.size w (w.alloc (.cells #[.int .i64 x, .int .i64 y, .slice Ag ng cg, .slice Ao no co] 26)) := (Below.refl _ _).alloc (Nat.le_refl _) _
  have hx0 : BxC (w.alloc (.cells #[.int .i64 x, .int .i64 y, .slice Ag ng cg, .slice Ao no co] 26)) w.heap.size x y Ag ng cg Ao no co := BxC.new w _
  obtain ⟨hx, hy, _, _, _, _⟩ := circB_bd hc
  have nb : n ≤ 20 := by omega
  have mb : m ≤ 20 := by omega
  have t1 : Hid (bitsB n 64 us = true) := Lib.hid (by unfold bitsB; rw [h1, decide_eq_true (show n ≤ 64 by omega)]; rfl)
  have t2 : Hid (bitsB m 64 ws = true) := Lib.hid (by unfold bitsB; rw [h2, decide_eq_true (show m ≤ 64 by omega)]; rfl)
  subst hn; subst hm
  have n1 : ((n : Int) == n) = true := by simp
  have n2 : ((m : Int) == m) = true := by simp
  have H0 := Lib.hid hc; clear hc
  have hq := hx0; obtain ⟨k0, k1, k2, k3⟩ := hq
  go_enter Try.func51, Try.ntmps51
  go_wp2_with fail
  refine (IsCircuit_any _ _ Ag ng cg Ao no co gs os _ (hr.1.below hB (Nat.le_refl _)) (hr.2.below hB (Nat.le_refl _)) hng hno).mono ?_
  rintro e v1 ⟨rfl, b1⟩
  rw [H0.out]
  have B1 := hB.trans (b1.mono hB.size)
  go_wp2_with fail
  refine (AreBits_any A n c us _ (ha.below B1 (Nat.le_refl _)) (by omega)).mono ?_
  rintro e v2 ⟨rfl, b2⟩
  rw [t1.out]
  have B2 := B1.trans (b2.mono B1.size)
  go_wp2_with fail
  refine (AreBits_any B m d ws _ (hb.below B2 (Nat.le_refl _)) (by omega)).mono ?_
  rintro e v3 ⟨rfl, b3⟩
  rw [t2.out]
  have B3 := B2.trans (b3.mono B2.size)
  have x3 := ((hx0.below b1).below b2).below b3
  clear k0 k1 k2 k3
  have hq := x3; obtain ⟨k0, k1, k2, k3⟩ := hq
  go_wp2
  go_ret
  exact ⟨by simp, B3⟩
set_option maxRecDepth 100000 in
set_option maxHeartbeats 2000000 in
theorem WireValues_ok (x y : Int) (Ag : Option Addr) (ng cg : Nat) (Ao : Option Addr) (no co : Nat) (A B : Option Addr) (n c m d : Nat) (gs : List G3) (os us ws : List Int) (w : World) (hr : RG w Ag ng gs ∧ RI w Ao no os) (hng : ng ≤ 2097152) (hno : no ≤ 2097152) (hc : circB x y gs os = true) (ha : RI w A n us) (hb : RI w B m ws) (hn : (n : Int) = x) (hm : (m : Int) = y) (h1 : allB 0 1 us = true) (h2 : allB 0 1 ws = true) :
    Calls Try.prog 17 #[.agg #[.int .i64 x, .int .i64 y, .slice Ag ng cg, .slice Ao no co], .slice A n c, .slice B m d] w (RetO w (some (vals gs (us ++ ws) ng))) := by
  have hB : Below w.heap.size w (w.alloc (.cells #[.int .i64 x, .int .i64 y, .slice Ag ng cg, .slice Ao no co] 26)) := (Below.refl _ _).alloc (Nat.le_refl _) _
  have hx0 : BxC (w.alloc (.cells #[.int .i64 x, .int .i64 y, .slice Ag ng cg, .slice Ao no co] 26)) w.heap.size x y Ag ng cg Ao no co := BxC.new w _
  have hs0 : (w.alloc (.cells #[.int .i64 x, .int .i64 y, .slice Ag ng cg, .slice Ao no co] 26)).heap.size = w.heap.size + 1 := by simp
  obtain ⟨hx, hy, hg3, _, hgat, _⟩ := circB_bd hc
  have hlg := hr.1.len
  have hla := ha.len
  have hlb := hb.len
  rw [hlg] at hg3 hgat
  have hgat' : gatesB ((n + m : Nat) : Int) gs ng = true := by rw [show ((n + m : Nat) : Int) = x + y by omega]; exact hgat
  have hab : allB 0 1 (us ++ ws) = true := allB_iff.2 fun z hz => (List.mem_append.1 hz).elim (allB_iff.1 h1 z) (allB_iff.1 h2 z)
  have hvl : Hid ((vals gs (us ++ ws) ng).length = n + m + ng) := Lib.hid (by rw [vals_len, List.length_append, hla, hlb])
  have hq := hx0; obtain ⟨k0, k1, k2, k3⟩ := hq
  go_enter Try.func17, Try.ntmps17
  go_wp2_with fail
  refine (areInputs_ok x y Ag ng cg Ao no co A B n c m d gs os us ws _ ⟨hr.1.below hB (Nat.le_refl _), hr.2.below hB (Nat.le_refl _)⟩ hng hno hc (ha.below hB (Nat.le_refl _)) (hb.below hB (Nat.le_refl _)) hn hm h1 h2).mono ?_
  rintro e v1 ⟨rfl, b1⟩
  have B1 := hB.trans (b1.mono hB.size)
  have x1 := hx0.below b1
  have hz1 := b1.size
  rw [hs0] at hz1
  clear k0 k1 k2 k3 hx0 b1 hB
  have hq := x1; obtain ⟨k0, k1, k2, k3⟩ := hq
  go_wp2_with fail
  refine wp_region_mem0 (7) [(⟨w.heap.size, 0, none⟩, .int .i64 x), (⟨w.heap.size, 1, none⟩, .int .i64 y), (⟨w.heap.size, 2, none⟩, .slice Ag ng cg), (⟨w.heap.size, 3, none⟩, .slice Ao no co)] [(3, [], []), (4, [3], [])] [4] [(3, Res.row v1.heap.size (n + m) (us ++ ws)), (4, Res.row v1.heap.size (n + m + ng) (vals gs (us ++ ws) ng))] (by kernel_rfl) (by kernel_rfl) (by kernel_rfl) (by simp only [CellsL, List.mem_cons, forall_eq_or_imp, List.not_mem_nil, false_implies, implies_true, and_true]; repeat (any_goals (apply And.intro)); all_goals (first | assumption | go_simp)) ?_
  simp only [List.take_succ_cons, List.take_zero, List.drop_succ_cons, List.drop_zero, List.take_nil, List.drop_nil, List.take, List.drop]
  repeat (first
    | ((with_reducible refine mem_pure0 ?_ ?_ ?_)
       · exact rfl
       · exact rfl
       intro K hK
       apply Exists.intro
       refine ⟨fun w3 hw3 => ?_, ?_⟩
       · have hcs := hw3
         simp only [CellsL, List.mem_cons, forall_eq_or_imp, List.not_mem_nil, false_implies, implies_true, and_true] at hcs
         clear hw3
         go_simp
         first | done | exact ⟨rfl, rfl⟩ | rfl
       refine hK _ ?_
       clear hK K
       try simp only [Act.put, List.setIfInBounds_toArray, List.set_cons_zero, List.set_cons_succ])
    | ((with_reducible refine mem_skip ?_ ?_ ?_)
       · exact rfl
       · exact wanted_not rfl rfl rfl rfl
       simp only [Act.put, List.setIfInBounds_toArray, List.set_cons_zero, List.set_cons_succ])
    | ((with_reducible refine mem_pure ?_ ?_ ?_)
       · exact rfl
       · exact wanted_some rfl rfl rfl rfl
       intro K hK
       apply Exists.intro
       refine ⟨fun w3 hw3 => ?_, ?_⟩
       · have hcs := hw3
         simp only [CellsL, List.mem_cons, forall_eq_or_imp, List.not_mem_nil, false_implies, implies_true, and_true] at hcs
         clear hw3
         go_simp
         first | done | exact ⟨rfl, rfl⟩ | rfl
       refine hK _ ?_
       clear hK K
       try simp only [Act.put, List.setIfInBounds_toArray, List.set_cons_zero, List.set_cons_succ]))
  focus
    (with_reducible refine mem_row v1.heap.size (n + m) (us ++ ws) ?_ ?_ ?_ ?_ ?_ (hw := ?_))
    · exact rfl
    · exact rfl
    · omega
    · intro w3 hw3 hc3 hp3
      have hcs := hc3
      simp only [CellsL, List.mem_cons, forall_eq_or_imp, List.not_mem_nil, false_implies, implies_true, and_true] at hcs
      (go_simp; have hb3 := B1.trans ((alt_below hw3).mono B1.size); refine (with_any A B n c m d us ws _ (ha.below hb3 (Nat.le_refl _)) (hb.below hb3 (Nat.le_refl _)) (by omega) (by omega)).mono ?_; rintro e w4 ⟨A4, c4, rfl, ho4, hb4⟩; exact retPost.mk_ (postRow.mk_ ho4 hb4))
    rotate_left
    · first | exact wanted_none rfl | exact wanted_some rfl rfl rfl rfl
    intro A3 c3
    try simp only [Act.put, List.setIfInBounds_toArray, List.set_cons_zero, List.set_cons_succ]
  repeat (first
    | ((with_reducible refine mem_pure0 ?_ ?_ ?_)
       · exact rfl
       · exact rfl
       intro K hK
       apply Exists.intro
       refine ⟨fun w3 hw3 => ?_, ?_⟩
       · have hcs := hw3
         simp only [CellsL, List.mem_cons, forall_eq_or_imp, List.not_mem_nil, false_implies, implies_true, and_true] at hcs
         clear hw3
         go_simp
         first | done | exact ⟨rfl, rfl⟩ | rfl
       refine hK _ ?_
       clear hK K
       try simp only [Act.put, List.setIfInBounds_toArray, List.set_cons_zero, List.set_cons_succ])
    | ((with_reducible refine mem_skip ?_ ?_ ?_)
       · exact rfl
       · exact wanted_not rfl rfl rfl rfl
       simp only [Act.put, List.setIfInBounds_toArray, List.set_cons_zero, List.set_cons_succ])
    | ((with_reducible refine mem_pure ?_ ?_ ?_)
       · exact rfl
       · exact wanted_some rfl rfl rfl rfl
       intro K hK
       apply Exists.intro
       refine ⟨fun w3 hw3 => ?_, ?_⟩
       · have hcs := hw3
         simp only [CellsL, List.mem_cons, forall_eq_or_imp, List.not_mem_nil, false_implies, implies_true, and_true] at hcs
         clear hw3
         go_simp
         first | done | exact ⟨rfl, rfl⟩ | rfl
       refine hK _ ?_
       clear hK K
       try simp only [Act.put, List.setIfInBounds_toArray, List.set_cons_zero, List.set_cons_succ]))
  focus
    (with_reducible refine mem_row v1.heap.size (n + m + ng) (vals gs (us ++ ws) ng) ?_ ?_ ?_ ?_ ?_ (hw := ?_))
    · exact rfl
    · exact rfl
    · omega
    · intro w3 hw3 hc3 hp3
      have hcs := hc3
      simp only [CellsL, List.mem_cons, forall_eq_or_imp, List.not_mem_nil, false_implies, implies_true, and_true] at hcs
      (have h9 : Own w3 v1.heap.size w3.heap.size (.slice A3 (n + m) c3) (n + m) (us ++ ws) := hp3.1.1.1; go_simp; have hb3 := B1.trans ((alt_below hw3).mono B1.size); refine (Circuit_values_any x y Ag ng cg Ao no co A3 (n + m) c3 gs (us ++ ws) _ (hr.1.below hb3 (Nat.le_refl _)) h9.reads hab hgat' hg3 (by omega)).mono ?_; rintro e w4 hT; obtain ⟨A4, c4, rfl, ho4, hb4⟩ := hT.open_ hvl.out; exact retPost.mk_ (postRow.mk_ ho4 hb4))
    rotate_left
    · first | exact wanted_none rfl | exact wanted_some rfl rfl rfl rfl
    intro A5 c5
    try simp only [Act.put, List.setIfInBounds_toArray, List.set_cons_zero, List.set_cons_succ]
  repeat (first
    | ((with_reducible refine mem_pure0 ?_ ?_ ?_)
       · exact rfl
       · exact rfl
       intro K hK
       apply Exists.intro
       refine ⟨fun w3 hw3 => ?_, ?_⟩
       · have hcs := hw3
         simp only [CellsL, List.mem_cons, forall_eq_or_imp, List.not_mem_nil, false_implies, implies_true, and_true] at hcs
         clear hw3
         go_simp
         first | done | exact ⟨rfl, rfl⟩ | rfl
       refine hK _ ?_
       clear hK K
       try simp only [Act.put, List.setIfInBounds_toArray, List.set_cons_zero, List.set_cons_succ])
    | ((with_reducible refine mem_skip ?_ ?_ ?_)
       · exact rfl
       · exact wanted_not rfl rfl rfl rfl
       simp only [Act.put, List.setIfInBounds_toArray, List.set_cons_zero, List.set_cons_succ])
    | ((with_reducible refine mem_pure ?_ ?_ ?_)
       · exact rfl
       · exact wanted_some rfl rfl rfl rfl
       intro K hK
       apply Exists.intro
       refine ⟨fun w3 hw3 => ?_, ?_⟩
       · have hcs := hw3
         simp only [CellsL, List.mem_cons, forall_eq_or_imp, List.not_mem_nil, false_implies, implies_true, and_true] at hcs
         clear hw3
         go_simp
         first | done | exact ⟨rfl, rfl⟩ | rfl
       refine hK _ ?_
       clear hK K
       try simp only [Act.put, List.setIfInBounds_toArray, List.set_cons_zero, List.set_cons_succ]))
  refine wpSep_end ?_
  intro wy hwy hcy hfin hap
  have h4 : Own wy v1.heap.size wy.heap.size (.slice A5 (n + m + ng) c5) (n + m + ng) (vals gs (us ++ ws) ng) := hfin.1.1
  have By := B1.trans ((alt_below hwy).mono B1.size)
  go_wp2
  go_ret2
  exact RetO.some_ By rfl hvl.out rfl (h4.lo_ (by omega))
set_option maxHeartbeats 1000000 in
theorem EvalCircuit_ok (x y : Int) (Ag : Option Addr) (ng cg : Nat) (Ao : Option Addr) (no co : Nat) (A B : Option Addr) (n c m d : Nat) (gs : List G3) (os us ws : List Int) (w : World) (hr : RG w Ag ng gs ∧ RI w Ao no os) (hng : ng ≤ 2097152) (hno : no ≤ 2097152) (hc : circB x y gs os = true) (ha : RI w A n us) (hb : RI w B m ws) (hn : (n : Int) = x) (hm : (m : Int) = y) (h1 : allB 0 1 us = true) (h2 : allB 0 1 ws = true) :
    Calls Try.prog 19 #[.agg #[.int .i64 x, .int .i64 y, .slice Ag ng cg, .slice Ao no co], .slice A n c, .slice B m d] w (RetO w (some (pick (vals gs (us ++ ws) ng) os))) := by
  have hB : Below w.heap.size w (w.alloc (.cells #[.int .i64 x, .int .i64 y, .slice Ag ng cg, .slice Ao no co] 26)) := (Below.refl _ _).alloc (Nat.le_refl _) _
  have hx0 : BxC (w.alloc (.cells #[.int .i64 x, .int .i64 y, .slice Ag ng cg, .slice Ao no co] 26)) w.heap.size x y Ag ng cg Ao no co := BxC.new w _
  obtain ⟨hx, hy, hg3, ho3, _, hao⟩ := circB_bd hc
  have hlg := hr.1.len
  have hlo := hr.2.len
  have hla := ha.len
  have hlb := hb.len
  rw [hlg] at hg3 hao
  have hvl : Hid ((vals gs (us ++ ws) ng).length = n + m + ng) := Lib.hid (by rw [vals_len, List.length_append, hla, hlb])
  have hpl : Hid ((pick (vals gs (us ++ ws) ng) os).length = no) := Lib.hid (by rw [pick_len]; exact hlo)
  have hao' : allB 0 (((n + m + ng : Nat) : Int) - 1) os = true := by rw [show ((n + m + ng : Nat) : Int) - 1 = x + y + ng - 1 by omega]; exact hao
  have hq := hx0; obtain ⟨k0, k1, k2, k3⟩ := hq
  go_enter Try.func19, Try.ntmps19
  go_wp2_with fail
  refine (WireValues_ok x y Ag ng cg Ao no co A B n c m d gs os us ws _ ⟨hr.1.below hB (Nat.le_refl _), hr.2.below hB (Nat.le_refl _)⟩ hng hno hc (ha.below hB (Nat.le_refl _)) (hb.below hB (Nat.le_refl _)) hn hm h1 h2).mono ?_
  rintro e v1 hT
  obtain ⟨A1, c1, rfl, o1, b1⟩ := (show ∃ A c, e = .returned (.tuple #[.slice A (vals gs (us ++ ws) ng).length c, .bool true]) ∧ Own v1 _ v1.heap.size (.slice A (vals gs (us ++ ws) ng).length c) (vals gs (us ++ ws) ng).length (vals gs (us ++ ws) ng) ∧ Below _ _ v1 from hT)
  rw [hvl.out] at o1 ⊢
  have B1 := hB.trans (b1.mono hB.size)
  have x1 := hx0.below b1
  clear k0 k1 k2 k3 hx0 b1 hB hT
  have hq := x1; obtain ⟨k0, k1, k2, k3⟩ := hq
  go_wp2_with fail
  refine (at_any A1 Ao (n + m + ng) c1 no co (vals gs (us ++ ws) ng) os _ o1.reads (hr.2.below B1 (Nat.le_refl _)) (by omega) (by omega) hao').mono ?_
  rintro e v2 hT
  obtain ⟨A2, c2, rfl, o2, b2⟩ := hT.open_ hpl.out
  go_wp2
  go_ret2
  exact RetO.some_ (B1.trans (b2.mono B1.size)) rfl hpl.out rfl (o2.lo_ B1.size)
end Go.Proofs.Ytcdhmcpocohbpaa
