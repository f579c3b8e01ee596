/- Contracts of the laws' own words for lines: sizes, comparison. Lengths below 2^21. -/
import Derived.Test.YtjjphaiomaiilaaGreatQB13
import Derived.Test.YtjjphaiomaiilaaGreatQB41
namespace Go.Proofs.YtjjphaiomaiilaaGreat
open Go.RowKit
set_option linter.unusedVariables false
set_option linter.unusedSimpArgs false
def bigL (x : Ln) : Prop := x.name.length ≤ maxLen ∧ x.op.length ≤ maxLen ∧ x.parts.length ≤ maxLen ∧ ∀ s ∈ x.parts, s.length ≤ maxLen
def szX1 (left : Int) : List Str → Int
  | [] => left
  | s :: ps => if left - s.length < 0 then -1 else szX1 (left - s.length) ps
def szX (left : Int) (ps : List Str) : Int := if left - ps.length < 0 then -1 else szX1 (left - ps.length) ps
def szLn (left : Int) (x : Ln) : Int := if left - x.name.length < 0 then -1 else if left - x.name.length - x.op.length < 0 then -1 else szX (left - x.name.length - x.op.length) x.parts
def szL1 (left : Int) : List Ln → Int
  | [] => left
  | x :: l => if szLn left x < 0 then -1 else szL1 (szLn left x) l
def szLs (left : Int) (l : List Ln) : Int := if left - l.length < 0 then -1 else szL1 (left - l.length) l
theorem szX1_bd {ps : List Str} : ∀ {left : Int}, 0 ≤ left → -1 ≤ szX1 left ps ∧ szX1 left ps ≤ left ∧ (0 ≤ szX1 left ps → ∀ s ∈ ps, (s.length : Int) ≤ left) := by
  induction ps with
  | nil => intro left h; exact ⟨by simp only [szX1]; omega, by simp only [szX1]; omega, fun _ => by simp⟩
  | cons s ps ih =>
    intro left h
    unfold szX1
    by_cases hc : left - s.length < 0
    · rw [if_pos hc]; exact ⟨by omega, by omega, fun h => by omega⟩
    · rw [if_neg hc]
      obtain ⟨a, b, c⟩ := ih (left := left - s.length) (by omega)
      refine ⟨a, by omega, fun h0 t ht => ?_⟩
      rcases List.mem_cons.1 ht with rfl | ht
      · omega
      · have := c h0 t ht; omega
theorem szX_bd {left : Int} {ps : List Str} (h : 0 ≤ left) : -1 ≤ szX left ps ∧ szX left ps ≤ left ∧ (0 ≤ szX left ps → (ps.length : Int) ≤ left ∧ ∀ s ∈ ps, (s.length : Int) ≤ left) := by
  unfold szX
  by_cases hc : left - ps.length < 0
  · rw [if_pos hc]; exact ⟨by omega, by omega, fun h => by omega⟩
  · rw [if_neg hc]
    obtain ⟨a, b, c⟩ := szX1_bd (ps := ps) (left := left - ps.length) (by omega)
    exact ⟨a, by omega, fun h0 => ⟨by omega, fun s hs => by have := c h0 s hs; omega⟩⟩
theorem szLn_bd {left : Int} {x : Ln} (h : 0 ≤ left) : -1 ≤ szLn left x ∧ szLn left x ≤ left ∧ (0 ≤ szLn left x → (x.name.length : Int) ≤ left ∧ (x.op.length : Int) ≤ left ∧ (x.parts.length : Int) ≤ left ∧ ∀ s ∈ x.parts, (s.length : Int) ≤ left) := by
  unfold szLn
  by_cases h1 : left - x.name.length < 0
  · rw [if_pos h1]; exact ⟨by omega, by omega, fun h => by omega⟩
  rw [if_neg h1]
  by_cases h2 : left - x.name.length - x.op.length < 0
  · rw [if_pos h2]; exact ⟨by omega, by omega, fun h => by omega⟩
  rw [if_neg h2]
  obtain ⟨a, b, c⟩ := szX_bd (ps := x.parts) (left := left - x.name.length - x.op.length) (by omega)
  refine ⟨a, by omega, fun h0 => ?_⟩
  obtain ⟨d, e⟩ := c h0
  exact ⟨by omega, by omega, by omega, fun s hs => by have := e s hs; omega⟩
theorem szL1_bd {l : List Ln} : ∀ {left : Int}, 0 ≤ left → left ≤ 2097152 → -1 ≤ szL1 left l ∧ szL1 left l ≤ left ∧ (0 ≤ szL1 left l → ∀ x ∈ l, shortL x) := by
  induction l with
  | nil => intro left h _; exact ⟨by simp only [szL1]; omega, by simp only [szL1]; omega, fun _ => by simp⟩
  | cons x l ih =>
    intro left h h2
    unfold szL1
    obtain ⟨p, q, r⟩ := szLn_bd (x := x) h
    by_cases hc : szLn left x < 0
    · rw [if_pos hc]; exact ⟨by omega, by omega, fun h => by omega⟩
    · rw [if_neg hc]
      obtain ⟨a, b, c⟩ := ih (left := szLn left x) (by omega) (by omega)
      refine ⟨a, by omega, fun h0 t ht => ?_⟩
      rcases List.mem_cons.1 ht with rfl | ht
      · obtain ⟨r1, r2, r3, r4⟩ := r (by omega)
        exact ⟨by unfold shortS; omega, by unfold shortS; omega, by omega, fun s hs => by have := r4 s hs; unfold shortS; omega⟩
      · exact c h0 t ht
theorem szLs_bd {left : Int} {l : List Ln} (h : 0 ≤ left) (h2 : left ≤ 2097152) : -1 ≤ szLs left l ∧ szLs left l ≤ left ∧ (0 ≤ szLs left l → (l.length : Int) ≤ left ∧ ∀ x ∈ l, shortL x) := by
  unfold szLs
  by_cases hc : left - l.length < 0
  · rw [if_pos hc]; exact ⟨by omega, by omega, fun h => by omega⟩
  · rw [if_neg hc]
    obtain ⟨a, b, c⟩ := szL1_bd (l := l) (left := left - l.length) (by omega) (by omega)
    exact ⟨a, by omega, fun h0 => ⟨by omega, c h0⟩⟩
theorem sx_mem {ps : List Str} {k : Nat} (h : k < ps.length) : sx ps k ∈ ps := by
  have : sx ps k = ps[k] := by simp [sx, h]
  rw [this]; exact List.getElem_mem h
theorem lx_mem {l : List Ln} {k : Nat} (h : k < l.length) : lx l k ∈ l := by rw [lx_lt h]; exact List.getElem_mem h
theorem drop_sx {ps : List Str} {k : Nat} (h : k < ps.length) : ps.drop k = sx ps k :: ps.drop (k + 1) := by
  rw [List.drop_eq_getElem_cons h]; simp [sx, h]
theorem drop_lx {l : List Ln} {k : Nat} (h : k < l.length) : l.drop k = lx l k :: l.drop (k + 1) := by
  rw [List.drop_eq_getElem_cons h, lx_lt h]
set_option maxHeartbeats 800000 in
theorem szStringS_any (A : Option Addr) (n c : Nat) (ps : List Str) (l : Int) (w : World) (ha : RX w A n ps) (hl : 0 ≤ l ∧ l ≤ 2097152) (hn : n ≤ maxLen) (hs : ∀ s ∈ ps, s.length ≤ maxLen) :
    Calls Tryz.prog 88 #[.slice A n c, .int .i64 l] w fun e w' => e = .returned (.int .i64 (szX l ps)) ∧ w = w' := by
  have hlen := ha.len
  obtain ⟨hl0, hl1⟩ := hl
  have hn' : (n : Int) ≤ 9223372036854775807 := by unfold maxLen at hn; omega
  clear hn
  by_cases h : l - n < 0
  · have HR : Hid (szX l ps = -1) := Lib.hid (by rw [szX, hlen, if_pos h])
    go_enter Tryz.func88, Tryz.ntmps88
    go_wp2
    go_ret
    exact ⟨by rw [HR.out]; rfl, rfl⟩
  have HR : Hid (szX l ps = szX1 (l - n) ps) := Lib.hid (by rw [szX, hlen, if_neg h])
  obtain ⟨L, hL⟩ : ∃ L, Hid (l - n = L) := ⟨_, Lib.hid rfl⟩
  have hLb : 0 ≤ L ∧ L ≤ 2097152 := by have := hL.out; omega
  rw [hL.out] at HR
  go_enter Tryz.func88, Tryz.ntmps88
  go_wp2
  try rw [hL.out]
  go_loopw [1, 5] (fun v i wr => ∃ (k : Nat) (u : Int), k ≤ n ∧ i = .int .i64 k ∧ v = .int .i64 u ∧ (0 ≤ u ∧ u ≤ 2097152) ∧ Hid (szX1 L ps = szX1 u (ps.drop k)) ∧ w = wr) (fun _ i _ => n - (intOf i).toNat)
  case atStart => exact ⟨0, L, Nat.zero_le _, rfl, rfl, hLb, Lib.hid (by simp), rfl⟩
  case round =>
    obtain ⟨k, u, hk, rfl, rfl, hu, hS, rfl⟩ := hrel
    by_cases hlt : k < n
    · obtain ⟨b, o, rfl, hbB, hc⟩ := ha.at_ hlt
      have hm := hs _ (sx_mem (ps := ps) (k := k) (by omega))
      have hD : Hid (ps.drop k = sx ps k :: ps.drop (k + 1)) := Lib.hid (drop_sx (by omega))
      have hz : (bs (sx ps k)).size = (sx ps k).length := bs_size _
      obtain ⟨s, hs0⟩ : ∃ s, Hid (sx ps k = s) := ⟨_, Lib.hid rfl⟩
      rw [hs0.out] at hc hm hD hz
      have hmb : (s.length : Int) ≤ 9223372036854775807 := by unfold maxLen at hm; omega
      have hD2 : Hid (szX1 u (ps.drop k) = if u - s.length < 0 then -1 else szX1 (u - s.length) (ps.drop (k + 1))) := Lib.hid (by rw [hD.out]; rfl)
      by_cases h2 : u - s.length < 0
      · have HQ : Hid (szX l ps = -1) := Lib.hid (by rw [HR.out, hS.out, hD2.out, if_pos h2])
        clear hs ha hm
        go_wp2
        go_ret
        exact ⟨by rw [HQ.out]; rfl, rfl⟩
      · have HQ : Hid (szX1 L ps = szX1 (u - s.length) (ps.drop (k + 1))) := Lib.hid (by rw [hS.out, hD2.out, if_neg h2])
        clear hs ha hm
        go_wp2
        go_roundw
        case rel => exact ⟨k + 1, u - s.length, by omega, by go_num, by go_num, by omega, HQ, by trivial⟩
        case measure => simp [intOf]; omega
    · obtain rfl : k = n := by omega
      have HQ : Hid (szX l ps = u) := Lib.hid (by rw [HR.out, hS.out, List.drop_of_length_le (by omega)]; rfl)
      go_wp2
      go_ret
      exact ⟨by rw [HQ.out]; rfl, rfl⟩
set_option maxHeartbeats 800000 in
theorem szLine_any (x : Ln) (P : Option Addr) (q : Nat) (l : Int) (w : World) (hp : RX w P x.parts.length x.parts) (hl : 0 ≤ l ∧ l ≤ 2097152) (hx : bigL x) :
    Calls Tryz.prog 41 #[.agg #[.int .i64 x.kind, .string (bs x.name), .string (bs x.op), .slice P x.parts.length q, .int .i64 x.party, .int .i64 x.width, .int .i64 x.value], .int .i64 l] w fun e w' => e = .returned (.int .i64 (szLn l x)) ∧ Below w.heap.size w w' := by
  obtain ⟨hx1, hx2, hx3, hx4⟩ := hx
  have hz1 : (bs x.name).size = x.name.length := bs_size _
  have hz2 : (bs x.op).size = x.op.length := bs_size _
  have hx1' : (x.name.length : Int) ≤ 9223372036854775807 := by unfold maxLen at hx1; omega
  have hx2' : (x.op.length : Int) ≤ 9223372036854775807 := by unfold maxLen at hx2; omega
  have hB : Below w.heap.size w (w.alloc (.cells #[.int .i64 x.kind, .string (bs x.name), .string (bs x.op), .slice P x.parts.length q, .int .i64 x.party, .int .i64 x.width, .int .i64 x.value] 59)) := (Below.refl _ _).alloc (Nat.le_refl _) _
  have hp1 := hp.below hB (Nat.le_refl _)
  clear hx1 hx2
  by_cases h1 : l - x.name.length < 0
  · have HR : Hid (szLn l x = -1) := Lib.hid (by rw [szLn, if_pos h1])
    go_enter Tryz.func41, Tryz.ntmps41
    go_wp2
    go_ret
    exact ⟨by rw [HR.out]; rfl, hB⟩
  by_cases h2 : l - x.name.length - x.op.length < 0
  · have HR : Hid (szLn l x = -1) := Lib.hid (by rw [szLn, if_neg h1, if_pos h2])
    go_enter Tryz.func41, Tryz.ntmps41
    go_wp2
    go_ret
    exact ⟨by rw [HR.out]; rfl, hB⟩
  have HR : Hid (szLn l x = szX (l - x.name.length - x.op.length) x.parts) := Lib.hid (by rw [szLn, if_neg h1, if_neg h2])
  have hbd := szX_bd (ps := x.parts) (left := l - x.name.length - x.op.length) (by omega)
  go_enter Tryz.func41, Tryz.ntmps41
  go_wp2_with fail
  refine (szStringS_any P x.parts.length q x.parts (l - x.name.length - x.op.length) _ hp1 (by omega) hx3 hx4).mono ?_
  rintro e w1 ⟨rfl, rfl⟩
  obtain ⟨u, hu⟩ : ∃ u, Hid (szX (l - x.name.length - x.op.length) x.parts = u) := ⟨_, Lib.hid rfl⟩
  rw [hu.out] at HR hbd ⊢
  by_cases h3 : u < 0
  · have HQ : Hid (u = -1) := Lib.hid (by omega)
    go_wp2
    go_ret
    exact ⟨by rw [HR.out, HQ.out]; rfl, hB⟩
  · go_wp2
    go_ret
    exact ⟨by rw [HR.out]; rfl, hB⟩
set_option maxHeartbeats 800000 in
theorem szLineS_any (A : Option Addr) (n c : Nat) (ls : List Ln) (l : Int) (w : World) (ha : RLn w A n ls) (hl : 0 ≤ l ∧ l ≤ 2097152) (hn : n ≤ maxLen) (hs : ∀ s ∈ ls, bigL s) :
    Calls Tryz.prog 12 #[.slice A n c, .int .i64 l] w fun e w' => e = .returned (.int .i64 (szLs l ls)) ∧ Below w.heap.size w w' := by
  have hlen := ha.len
  obtain ⟨hl0, hl1⟩ := hl
  have hn' : (n : Int) ≤ 9223372036854775807 := by unfold maxLen at hn; omega
  clear hn
  by_cases h : l - n < 0
  · have HR : Hid (szLs l ls = -1) := Lib.hid (by rw [szLs, hlen, if_pos h])
    go_enter Tryz.func12, Tryz.ntmps12
    go_wp2
    go_ret
    exact ⟨by rw [HR.out]; rfl, Below.refl _ _⟩
  have HR : Hid (szLs l ls = szL1 (l - n) ls) := Lib.hid (by rw [szLs, hlen, if_neg h])
  obtain ⟨L, hL⟩ : ∃ L, Hid (l - n = L) := ⟨_, Lib.hid rfl⟩
  have hLb : 0 ≤ L ∧ L ≤ 2097152 := by have := hL.out; omega
  rw [hL.out] at HR
  go_enter Tryz.func12, Tryz.ntmps12
  go_wp2
  try rw [hL.out]
  go_loopw [1, 5] (fun v i wr => ∃ (k : Nat) (u : Int), k ≤ n ∧ i = .int .i64 k ∧ v = .int .i64 u ∧ (0 ≤ u ∧ u ≤ 2097152) ∧ Hid (szL1 L ls = szL1 u (ls.drop k)) ∧ Below w.heap.size w wr) (fun _ i _ => n - (intOf i).toNat)
  case atStart => exact ⟨0, L, Nat.zero_le _, rfl, rfl, hLb, Lib.hid (by simp), Below.refl _ _⟩
  case round =>
    obtain ⟨k, u, hk, rfl, rfl, hu, hS, hb⟩ := hrel
    by_cases hlt : k < n
    · obtain ⟨b, o, P, q, rfl, hbB, ⟨c0, c1, c2, c3, c4, c5, c6⟩, hx⟩ := (ha.below hb (Nat.le_refl _)).at_ hlt
      have hm := hs _ (lx_mem (l := ls) (k := k) (by omega))
      have hD2 : Hid (szL1 u (ls.drop k) = if szLn u (lx ls k) < 0 then -1 else szL1 (szLn u (lx ls k)) (ls.drop (k + 1))) := Lib.hid (by rw [drop_lx (by omega)]; rfl)
      have hbd := szLn_bd (x := lx ls k) hu.1
      clear hs ha
      go_wp2_with fail
      refine (szLine_any (lx ls k) P q u _ hx hu hm).mono ?_
      rintro e w4 ⟨rfl, hb4⟩
      obtain ⟨t, ht⟩ : ∃ t, Hid (szLn u (lx ls k) = t) := ⟨_, Lib.hid rfl⟩
      rw [ht.out] at hD2 hbd ⊢
      by_cases h2 : t < 0
      · have HQ : Hid (szLs l ls = -1) := Lib.hid (by rw [HR.out, hS.out, hD2.out, if_pos h2])
        go_wp2
        go_ret
        exact ⟨by rw [HQ.out]; rfl, hb.trans (hb4.mono hb.size)⟩
      · have HQ : Hid (szL1 L ls = szL1 t (ls.drop (k + 1))) := Lib.hid (by rw [hS.out, hD2.out, if_neg h2])
        go_wp2
        go_roundw
        case rel => exact ⟨k + 1, t, by omega, by go_num, rfl, by omega, HQ, hb.trans (hb4.mono hb.size)⟩
        case measure => simp [intOf]; omega
    · obtain rfl : k = n := by omega
      have HQ : Hid (szLs l ls = u) := Lib.hid (by rw [HR.out, hS.out, List.drop_of_length_le (by omega)]; rfl)
      go_wp2
      go_ret
      exact ⟨by rw [HQ.out]; rfl, hb⟩
theorem eqStringS_any (A B : Option Addr) (n c d : Nat) (ps : List Str) (w : World) (ha : RX w A n ps) (hb : RX w B n ps) (hn : n ≤ 2097152) :
    Calls Tryz.prog 101 #[.slice A n c, .slice B n d] w fun e w' => e = .returned (.bool true) ∧ Below w.heap.size w w' := by
  have hne : ((n : Int) != n) = false := by simp
  go_enter Tryz.func101, Tryz.ntmps101
  go_wp2
  go_loopw [5] (fun i wr => ∃ k : Nat, k ≤ n ∧ i = .int .i64 k ∧ Below w.heap.size w wr) (fun i _ => n - (intOf i).toNat)
  case atStart => exact ⟨0, Nat.zero_le _, rfl, Below.refl _ _⟩
  case round =>
    obtain ⟨k, hk, rfl, hw⟩ := hrel
    by_cases hlt : k < n
    · obtain ⟨b, o, rfl, hbB, c1⟩ := (ha.below hw (Nat.le_refl _)).at_ hlt
      obtain ⟨b2, o2, rfl, hbB2, d1⟩ := (hb.below hw (Nat.le_refl _)).at_ hlt
      have hss : ((bs (sx ps k)).toList != (bs (sx ps k)).toList) = false := by simp
      go_wp2_with fail
      go_quiet (fail)
      go_wp2
      go_roundw
      case rel => exact ⟨k + 1, by omega, by go_num, below_drewN hw _⟩
      case measure => simp [intOf]; omega
    · obtain rfl : n = k := by omega
      go_wp2
      go_ret
      exact ⟨rfl, hw⟩
set_option maxHeartbeats 800000 in
theorem eqLine_any (x : Ln) (P Q : Option Addr) (q r : Nat) (w : World) (hp : RX w P x.parts.length x.parts) (hq : RX w Q x.parts.length x.parts) (hn : x.parts.length ≤ 2097152) :
    Calls Tryz.prog 51 #[.agg #[.int .i64 x.kind, .string (bs x.name), .string (bs x.op), .slice P x.parts.length q, .int .i64 x.party, .int .i64 x.width, .int .i64 x.value], .agg #[.int .i64 x.kind, .string (bs x.name), .string (bs x.op), .slice Q x.parts.length r, .int .i64 x.party, .int .i64 x.width, .int .i64 x.value]] w fun e w' => e = .returned (.bool true) ∧ Below w.heap.size w w' := by
  have e0 : (x.kind != x.kind) = false := by simp
  have e1 : ((bs x.name).toList != (bs x.name).toList) = false := by simp
  have e2 : ((bs x.op).toList != (bs x.op).toList) = false := by simp
  have e4 : (x.party != x.party) = false := by simp
  have e5 : (x.width != x.width) = false := by simp
  have e6 : (x.value != x.value) = false := by simp
  have hB1 : Below w.heap.size w (w.alloc (.cells #[.int .i64 x.kind, .string (bs x.name), .string (bs x.op), .slice P x.parts.length q, .int .i64 x.party, .int .i64 x.width, .int .i64 x.value] 68)) := (Below.refl _ _).alloc (Nat.le_refl _) _
  have hB : Below w.heap.size w ((w.alloc (.cells #[.int .i64 x.kind, .string (bs x.name), .string (bs x.op), .slice P x.parts.length q, .int .i64 x.party, .int .i64 x.width, .int .i64 x.value] 68)).alloc (.cells #[.int .i64 x.kind, .string (bs x.name), .string (bs x.op), .slice Q x.parts.length r, .int .i64 x.party, .int .i64 x.width, .int .i64 x.value] 68)) := hB1.alloc (by simp) _
  have hp1 := hp.below hB (Nat.le_refl _)
  have hq1 := hq.below hB (Nat.le_refl _)
  have k1 := (LnAt.new w x P q 68)
  have k2 := (LnAt.new (w.alloc (.cells #[.int .i64 x.kind, .string (bs x.name), .string (bs x.op), .slice P x.parts.length q, .int .i64 x.party, .int .i64 x.width, .int .i64 x.value] 68)) x Q r 68)
  have k1' := k1.below (B := (w.alloc (.cells #[.int .i64 x.kind, .string (bs x.name), .string (bs x.op), .slice P x.parts.length q, .int .i64 x.party, .int .i64 x.width, .int .i64 x.value] 68)).heap.size) ((Below.refl _ _).alloc (Nat.le_refl _) (.cells #[.int .i64 x.kind, .string (bs x.name), .string (bs x.op), .slice Q x.parts.length r, .int .i64 x.party, .int .i64 x.width, .int .i64 x.value] 68)) (by simp)
  clear hp hq k1 hB1
  have hz : (w.alloc (.cells #[.int .i64 x.kind, .string (bs x.name), .string (bs x.op), .slice P x.parts.length q, .int .i64 x.party, .int .i64 x.width, .int .i64 x.value] 68)).heap.size = w.heap.size + 1 := by simp
  rw [hz] at k2
  go_enter Tryz.func51, Tryz.ntmps51
  go_wp2_with fail
  refine (eqStringS_any P Q x.parts.length q r x.parts _ hp1 hq1 hn).mono ?_
  rintro e w4 ⟨rfl, hb4⟩
  have hB4 := hB.trans (hb4.mono hB.size)
  obtain ⟨c0, c1, c2, c3, c4, c5, c6⟩ := k1'.below hb4 (by simp; omega)
  obtain ⟨d0, d1, d2, d3, d4, d5, d6⟩ := k2.below hb4 (by simp)
  simp only [Nat.zero_add] at c1 c2 c3 c4 c5 c6 d1 d2 d3 d4 d5 d6
  clear k1' k2 hB hb4
  go_wp2
  go_ret
  exact ⟨rfl, hB4⟩
set_option maxHeartbeats 800000 in
theorem eqLineS_b (A B : Option Addr) (n c d : Nat) (l : List Ln) (w : World) (ha : RLn w A n l) (hb : RLn w B n l) (hn : n ≤ 2097152) (hsh : ∀ x ∈ l, shortL x) :
    Calls Tryz.prog 16 #[.slice A n c, .slice B n d] w fun e w' => e = .returned (.bool true) ∧ Below w.heap.size w w' := by
  have hne : ((n : Int) != n) = false := by simp
  have hll := ha.len
  go_enter Tryz.func16, Tryz.ntmps16
  go_wp2
  go_loopw [5] (fun i wr => ∃ k : Nat, k ≤ n ∧ i = .int .i64 k ∧ Below w.heap.size w wr) (fun i _ => n - (intOf i).toNat)
  case atStart => exact ⟨0, Nat.zero_le _, rfl, Below.refl _ _⟩
  case round =>
    obtain ⟨k, hk, rfl, hw⟩ := hrel
    by_cases hlt : k < n
    · obtain ⟨b, o, P, q, rfl, hbB, ⟨c0, c1, c2, c3, c4, c5, c6⟩, hx⟩ := (ha.below hw (Nat.le_refl _)).at_ hlt
      obtain ⟨b2, o2, P2, q2, rfl, hbB2, ⟨d0, d1, d2, d3, d4, d5, d6⟩, hx2⟩ := (hb.below hw (Nat.le_refl _)).at_ hlt
      have hk3 := (hsh _ (lx_mem (l := l) (k := k) (by omega))).2.2.1
      go_wp2_with fail
      refine wp_region_keep (wr.heap.size) (wr) [(⟨b, o + k * 7, none⟩, .int .i64 (lx l k).kind), (⟨b, o + k * 7 + 1, none⟩, .string (bs (lx l k).name)), (⟨b, o + k * 7 + 2, none⟩, .string (bs (lx l k).op)), (⟨b, o + k * 7 + 3, none⟩, .slice P (lx l k).parts.length q), (⟨b, o + k * 7 + 4, none⟩, .int .i64 (lx l k).party), (⟨b, o + k * 7 + 5, none⟩, .int .i64 (lx l k).width), (⟨b, o + k * 7 + 6, none⟩, .int .i64 (lx l k).value), (⟨b2, o2 + k * 7, none⟩, .int .i64 (lx l k).kind), (⟨b2, o2 + k * 7 + 1, none⟩, .string (bs (lx l k).name)), (⟨b2, o2 + k * 7 + 2, none⟩, .string (bs (lx l k).op)), (⟨b2, o2 + k * 7 + 3, none⟩, .slice P2 (lx l k).parts.length q2), (⟨b2, o2 + k * 7 + 4, none⟩, .int .i64 (lx l k).party), (⟨b2, o2 + k * 7 + 5, none⟩, .int .i64 (lx l k).width), (⟨b2, o2 + k * 7 + 6, none⟩, .int .i64 (lx l k).value)] (by kernel_rfl) (by kernel_rfl) (by simp only [List.mem_cons, forall_eq_or_imp, List.not_mem_nil, false_implies, implies_true, and_true]; repeat (any_goals (apply And.intro)); all_goals (first | assumption | go_simp)) ?_
      repeat (first
        | go_big_quiet_skip
        | (go_big_quiet_want
           apply Exists.intro
           refine ⟨fun w3 hw3 => ?_, ?_⟩
           · have hcs := hw3.2
             simp only [List.mem_cons, forall_eq_or_imp, List.not_mem_nil, false_implies, implies_true, and_true] at hcs
             simp only [Oper.quietAt]
             go_simp
             first | done | exact ⟨rfl, rfl⟩ | rfl | (refine (eqLine_any (lx l k) P P2 q q2 _ (hx.below hw3.1 (Nat.le_refl _)) (hx2.below hw3.1 (Nat.le_refl _)) hk3).mono ?_; rintro e w4 ⟨rfl, hb4⟩; exact ⟨rfl, hw3.next hb4 (Nat.le_refl _)⟩)
           go_big_quiet_on
           try simp only [Act.put, List.setIfInBounds_toArray, List.set_cons_zero, List.set_cons_succ]))
      refine wpQuiet_nil ?_
      intro wq hwq
      go_wp2
      go_roundw
      case rel => exact ⟨k + 1, by omega, by go_num, hw.trans (hwq.1.mono hw.size)⟩
      case measure => simp [intOf]; omega
    · obtain rfl : n = k := by omega
      go_wp2
      go_ret
      exact ⟨rfl, hw⟩
end Go.Proofs.YtjjphaiomaiilaaGreat
