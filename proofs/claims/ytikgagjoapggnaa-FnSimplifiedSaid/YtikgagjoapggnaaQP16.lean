/- MergeGates: what it returns, in plain words; the tests whether two gates are the same; the search among gates. Lengths below 2^21. BesideCircuit: what it returns, in plain words; the program's own. Lengths below 2^21. Contracts of putting a number into a list in order, and of DependsOn. DropDead: what it returns, in plain words. No program. -/
import Derived.Test.YtikgagjoapggnaaQP06
import Derived.Test.YtikgagjoapggnaaQP15
import Derived.Test.YtikgagjoapggnaaQP07
namespace Go.Proofs.Ytikgagjoapggnaa
open Go.RowKit
set_option linter.unusedVariables false
set_option linter.unusedSimpArgs false
def sameG (o g : G3) : Bool := (o.k == g.k) && (((o.a == g.a) && (o.b == g.b)) || (((o.k == 0) || (o.k == 1)) && ((o.a == g.b) && (o.b == g.a))))
def siSameB (o g : G3) : Bool := (o.k == g.k) && (((o.a == g.a) && (o.b == g.b)) || ((!(o.k == 2)) && ((o.a == g.b) && (o.b == g.a))))
theorem siSame_eq {o g : G3} {n m : Int} (ho : GateIs o m) (hg : GateIs g n) : siSameB o g = sameG o g := by
  obtain ⟨ok, oa, ob⟩ := o
  obtain ⟨gk, ga, gb⟩ := g
  unfold siSameB sameG
  cases ho with
  | xor_ hk => dsimp only at hk; subst hk; simp
  | and_ hk => dsimp only at hk; subst hk; simp
  | not_ hk => dsimp only at hk; subst hk; simp
  | one_ hk h1 h2 =>
    dsimp only at hk h1 h2; subst hk; subst h1; subst h2
    cases hg with
    | xor_ hk => dsimp only at hk; subst hk; simp
    | and_ hk => dsimp only at hk; subst hk; simp
    | not_ hk => dsimp only at hk; subst hk; simp
    | one_ hk h1 h2 => dsimp only at hk h1 h2; subst hk; subst h1; subst h2; simp
def same1 (hs : List G3) (g : G3) : Nat := hs.findIdx fun o => sameG o g
theorem same1_le (hs : List G3) (g : G3) : same1 hs g ≤ hs.length := List.findIdx_le_length
theorem gi_spn {n j : Nat} (h : j < n) : gi (spn 0 n) j = j := by
  unfold spn gi
  simp [h]
theorem gi_append_l {xs ys : List Int} {j : Nat} (h : j < xs.length) : gi (xs ++ ys) j = gi xs j := by
  unfold gi; rw [List.getD_eq_getElem?_getD, List.getD_eq_getElem?_getD, List.getElem?_append_left h]
theorem gi_append_r (xs : List Int) (v : Int) : gi (xs ++ [v]) xs.length = v := by
  unfold gi; simp
theorem GateIs.moved {g : G3} {n : Int} {to : Int → Int} (h : GateIs g n) (ht : ∀ z, 0 ≤ z → z < n → 0 ≤ to z ∧ to z < n) : GateIs (mvG to g) n := by
  obtain ⟨gk, ga, gb⟩ := g
  cases h with
  | xor_ hk a0 a1 b0 b1 => dsimp only at *; subst hk; have h1 := ht _ a0 a1; have h2 := ht _ b0 b1; exact .xor_ (by simp [mvG]) (by simpa [mvG] using h1.1) (by simpa [mvG] using h1.2) (by simpa [mvG] using h2.1) (by simpa [mvG] using h2.2)
  | and_ hk a0 a1 b0 b1 => dsimp only at *; subst hk; have h1 := ht _ a0 a1; have h2 := ht _ b0 b1; exact .and_ (by simp [mvG]) (by simpa [mvG] using h1.1) (by simpa [mvG] using h1.2) (by simpa [mvG] using h2.1) (by simpa [mvG] using h2.2)
  | not_ hk a0 a1 b0 => dsimp only at *; subst hk; subst b0; have h1 := ht _ a0 a1; exact .not_ (by simp [mvG]) (by simpa [mvG] using h1.1) (by simpa [mvG] using h1.2) (by simp [mvG])
  | one_ hk a0 b0 => dsimp only at *; subst hk; subst a0; subst b0; exact .one_ (by simp [mvG]) (by simp [mvG]) (by simp [mvG])
theorem gg_append_l {xs ys : List G3} {j : Nat} (h : j < xs.length) : gg (xs ++ ys) j = gg xs j := by
  unfold gg; rw [List.getD_eq_getElem?_getD, List.getD_eq_getElem?_getD, List.getElem?_append_left h]
theorem gg_append_r (xs : List G3) (v : G3) : gg (xs ++ [v]) xs.length = v := by
  unfold gg; simp
def fidx (q : G3 → Bool) (gs : List G3) : Int := if gs.findIdx q < gs.length then (gs.findIdx q : Int) else -1
theorem fidx_found {q : G3 → Bool} {gs : List G3} {i : Nat} (hi : i < gs.length) (hq : q (gg gs i) = true) (hno : ∀ j, j < i → q (gg gs j) = false) : fidx q gs = i := by
  have h : gs.findIdx q = i := (List.findIdx_eq hi).2 ⟨by rwa [gg_lt hi] at hq, fun j hj => by have := hno j hj; rwa [gg_lt (by omega)] at this⟩
  unfold fidx; rw [h, if_pos hi]
theorem no_snoc {q : G3 → Bool} {gs : List G3} {k : Nat} (h : ∀ j, j < k → q (gg gs j) = false) (hk : q (gg gs k) = false) : ∀ j, j < k + 1 → q (gg gs j) = false := fun j hj => by
  rcases Nat.lt_or_ge j k with h1 | h1
  · exact h j h1
  · obtain rfl : j = k := by omega
    exact hk
theorem fidx_none {q : G3 → Bool} {gs : List G3} (hno : ∀ j, j < gs.length → q (gg gs j) = false) : fidx q gs = -1 := by
  have h : gs.findIdx q = gs.length := List.findIdx_eq_length.2 fun x hx => by
    obtain ⟨j, hj, rfl⟩ := List.getElem_of_mem hx
    have := hno j hj
    rwa [gg_lt hj] at this
  unfold fidx; rw [h, if_neg (by omega)]
theorem fidx_same {hs : List G3} {g : G3} {k : Nat} (hl : hs.length = k) : (0 ≤ fidx (fun o => sameG o g) hs → fidx (fun o => sameG o g) hs = same1 hs g ∧ same1 hs g < k) ∧ (¬ 0 ≤ fidx (fun o => sameG o g) hs → same1 hs g = k) := by
  subst hl
  have hle := same1_le hs g
  unfold fidx
  change (0 ≤ (if same1 hs g < hs.length then (same1 hs g : Int) else -1) → (if same1 hs g < hs.length then (same1 hs g : Int) else -1) = same1 hs g ∧ same1 hs g < hs.length) ∧ (¬ 0 ≤ (if same1 hs g < hs.length then (same1 hs g : Int) else -1) → same1 hs g = hs.length)
  split
  · exact ⟨fun _ => ⟨rfl, by assumption⟩, fun h => absurd (by omega) h⟩
  · exact ⟨fun h => absurd h (by omega), fun _ => by omega⟩
set_option maxRecDepth 100000 in
set_option maxHeartbeats 4000000 in
theorem sameGate_any (o g : G3) (w : World) :
    Calls Try.prog 73 #[.agg #[.int .i64 o.k, .int .i64 o.a, .int .i64 o.b], .agg #[.int .i64 g.k, .int .i64 g.a, .int .i64 g.b]] w fun e w' => e = .returned (.bool (sameG o g)) ∧ Below w.heap.size w w' := by
  obtain ⟨ok, oa, ob⟩ := o
  obtain ⟨gk, ga, gb⟩ := g
  by_cases h1 : ok = gk
  · subst h1
    by_cases h2 : oa = ga
    · subst h2
      by_cases h3 : ob = gb
      · subst h3
        have HR : Hid (sameG ⟨ok, oa, ob⟩ ⟨ok, oa, ob⟩ = true) := Lib.hid (by simp [sameG])
        go_enter Try.func73, Try.ntmps73
        go_wp2
        go_ret
        exact ⟨by rw [HR.out]; rfl, ((Below.refl _ _).alloc (Nat.le_refl _) _).alloc (by simp) _⟩
      · have z3 : (ob == gb) = false := by simpa using h3
        by_cases h4 : oa = gb
        · subst h4
          by_cases h5 : ob = oa
          · subst h5
            exact absurd rfl h3
          · have z5 : (ob == oa) = false := by simpa using h5
            have HR : Hid (sameG ⟨ok, oa, ob⟩ ⟨ok, oa, oa⟩ = false) := Lib.hid (by simp [sameG, h3, h5])
            go_enter Try.func73, Try.ntmps73
            go_wp2
            go_ret
            exact ⟨by rw [HR.out]; rfl, ((Below.refl _ _).alloc (Nat.le_refl _) _).alloc (by simp) _⟩
        · have z4 : (oa == gb) = false := by simpa using h4
          have HR : Hid (sameG ⟨ok, oa, ob⟩ ⟨ok, oa, gb⟩ = false) := Lib.hid (by simp [sameG, h3, h4])
          go_enter Try.func73, Try.ntmps73
          go_wp2
          go_ret
          exact ⟨by rw [HR.out]; rfl, ((Below.refl _ _).alloc (Nat.le_refl _) _).alloc (by simp) _⟩
    · have z2 : (oa == ga) = false := by simpa using h2
      by_cases h7 : oa = gb
      · subst h7
        by_cases h8 : ob = ga
        · subst h8
          by_cases h9 : ok = 0
          · subst h9
            have HR : Hid (sameG ⟨0, oa, ob⟩ ⟨0, ob, oa⟩ = true) := Lib.hid (by simp [sameG, h2])
            go_enter Try.func73, Try.ntmps73
            go_wp2
            go_ret
            exact ⟨by rw [HR.out]; rfl, ((Below.refl _ _).alloc (Nat.le_refl _) _).alloc (by simp) _⟩
          · have z9 : (ok == 0) = false := by simpa using h9
            have y9 : (ok != 0) = true := by simpa using h9
            by_cases h10 : ok = 1
            · subst h10
              have HR : Hid (sameG ⟨1, oa, ob⟩ ⟨1, ob, oa⟩ = true) := Lib.hid (by simp [sameG, h2, h9])
              go_enter Try.func73, Try.ntmps73
              go_wp2
              go_ret
              exact ⟨by rw [HR.out]; rfl, ((Below.refl _ _).alloc (Nat.le_refl _) _).alloc (by simp) _⟩
            · have z10 : (ok == 1) = false := by simpa using h10
              have y10 : (ok != 1) = true := by simpa using h10
              have HR : Hid (sameG ⟨ok, oa, ob⟩ ⟨ok, ob, oa⟩ = false) := Lib.hid (by simp [sameG, h2, h9, h10])
              go_enter Try.func73, Try.ntmps73
              go_wp2
              go_ret
              exact ⟨by rw [HR.out]; rfl, ((Below.refl _ _).alloc (Nat.le_refl _) _).alloc (by simp) _⟩
        · have z8 : (ob == ga) = false := by simpa using h8
          have HR : Hid (sameG ⟨ok, oa, ob⟩ ⟨ok, ga, oa⟩ = false) := Lib.hid (by simp [sameG, h2, h8])
          go_enter Try.func73, Try.ntmps73
          go_wp2
          go_ret
          exact ⟨by rw [HR.out]; rfl, ((Below.refl _ _).alloc (Nat.le_refl _) _).alloc (by simp) _⟩
      · have z7 : (oa == gb) = false := by simpa using h7
        have HR : Hid (sameG ⟨ok, oa, ob⟩ ⟨ok, ga, gb⟩ = false) := Lib.hid (by simp [sameG, h2, h7])
        go_enter Try.func73, Try.ntmps73
        go_wp2
        go_ret
        exact ⟨by rw [HR.out]; rfl, ((Below.refl _ _).alloc (Nat.le_refl _) _).alloc (by simp) _⟩
  · have z1 : (ok == gk) = false := by simpa using h1
    have HR : Hid (sameG ⟨ok, oa, ob⟩ ⟨gk, ga, gb⟩ = false) := Lib.hid (by simp [sameG, h1])
    go_enter Try.func73, Try.ntmps73
    go_wp2
    go_ret
    exact ⟨by rw [HR.out]; rfl, ((Below.refl _ _).alloc (Nat.le_refl _) _).alloc (by simp) _⟩
set_option maxRecDepth 100000 in
set_option maxHeartbeats 4000000 in
theorem siSame_any (o g : G3) (w : World) :
    Calls Try.prog 86 #[.agg #[.int .i64 o.k, .int .i64 o.a, .int .i64 o.b], .agg #[.int .i64 g.k, .int .i64 g.a, .int .i64 g.b]] w fun e w' => e = .returned (.bool (siSameB o g)) ∧ Below w.heap.size w w' := by
  obtain ⟨ok, oa, ob⟩ := o
  obtain ⟨gk, ga, gb⟩ := g
  by_cases h11 : ok = gk
  · subst h11
    by_cases h12 : oa = ga
    · subst h12
      by_cases h13 : ob = gb
      · subst h13
        have HR : Hid (siSameB ⟨ok, oa, ob⟩ ⟨ok, oa, ob⟩ = true) := Lib.hid (by simp [siSameB])
        go_enter Try.func86, Try.ntmps86
        go_wp2
        go_ret
        exact ⟨by rw [HR.out]; rfl, ((Below.refl _ _).alloc (Nat.le_refl _) _).alloc (by simp) _⟩
      · have z13 : (ob == gb) = false := by simpa using h13
        by_cases h14 : ok = 2
        · subst h14
          have HR : Hid (siSameB ⟨2, oa, ob⟩ ⟨2, oa, gb⟩ = false) := Lib.hid (by simp [siSameB, h13])
          go_enter Try.func86, Try.ntmps86
          go_wp2
          go_ret
          exact ⟨by rw [HR.out]; rfl, ((Below.refl _ _).alloc (Nat.le_refl _) _).alloc (by simp) _⟩
        · have z14 : (ok == 2) = false := by simpa using h14
          have y14 : (ok != 2) = true := by simpa using h14
          by_cases h15 : oa = gb
          · subst h15
            by_cases h16 : ob = oa
            · subst h16
              exact absurd rfl h13
            · have z16 : (ob == oa) = false := by simpa using h16
              have HR : Hid (siSameB ⟨ok, oa, ob⟩ ⟨ok, oa, oa⟩ = false) := Lib.hid (by simp [siSameB, h13, h14, h16])
              go_enter Try.func86, Try.ntmps86
              go_wp2
              go_ret
              exact ⟨by rw [HR.out]; rfl, ((Below.refl _ _).alloc (Nat.le_refl _) _).alloc (by simp) _⟩
          · have z15 : (oa == gb) = false := by simpa using h15
            have HR : Hid (siSameB ⟨ok, oa, ob⟩ ⟨ok, oa, gb⟩ = false) := Lib.hid (by simp [siSameB, h13, h14, h15])
            go_enter Try.func86, Try.ntmps86
            go_wp2
            go_ret
            exact ⟨by rw [HR.out]; rfl, ((Below.refl _ _).alloc (Nat.le_refl _) _).alloc (by simp) _⟩
    · have z12 : (oa == ga) = false := by simpa using h12
      by_cases h17 : ok = 2
      · subst h17
        have HR : Hid (siSameB ⟨2, oa, ob⟩ ⟨2, ga, gb⟩ = false) := Lib.hid (by simp [siSameB, h12])
        go_enter Try.func86, Try.ntmps86
        go_wp2
        go_ret
        exact ⟨by rw [HR.out]; rfl, ((Below.refl _ _).alloc (Nat.le_refl _) _).alloc (by simp) _⟩
      · have z17 : (ok == 2) = false := by simpa using h17
        have y17 : (ok != 2) = true := by simpa using h17
        by_cases h18 : oa = gb
        · subst h18
          by_cases h19 : ob = ga
          · subst h19
            have HR : Hid (siSameB ⟨ok, oa, ob⟩ ⟨ok, ob, oa⟩ = true) := Lib.hid (by simp [siSameB, h12, h17])
            go_enter Try.func86, Try.ntmps86
            go_wp2
            go_ret
            exact ⟨by rw [HR.out]; rfl, ((Below.refl _ _).alloc (Nat.le_refl _) _).alloc (by simp) _⟩
          · have z19 : (ob == ga) = false := by simpa using h19
            have HR : Hid (siSameB ⟨ok, oa, ob⟩ ⟨ok, ga, oa⟩ = false) := Lib.hid (by simp [siSameB, h12, h17, h19])
            go_enter Try.func86, Try.ntmps86
            go_wp2
            go_ret
            exact ⟨by rw [HR.out]; rfl, ((Below.refl _ _).alloc (Nat.le_refl _) _).alloc (by simp) _⟩
        · have z18 : (oa == gb) = false := by simpa using h18
          have HR : Hid (siSameB ⟨ok, oa, ob⟩ ⟨ok, ga, gb⟩ = false) := Lib.hid (by simp [siSameB, h12, h17, h18])
          go_enter Try.func86, Try.ntmps86
          go_wp2
          go_ret
          exact ⟨by rw [HR.out]; rfl, ((Below.refl _ _).alloc (Nat.le_refl _) _).alloc (by simp) _⟩
  · have z11 : (ok == gk) = false := by simpa using h11
    have HR : Hid (siSameB ⟨ok, oa, ob⟩ ⟨gk, ga, gb⟩ = false) := Lib.hid (by simp [siSameB, h11])
    go_enter Try.func86, Try.ntmps86
    go_wp2
    go_ret
    exact ⟨by rw [HR.out]; rfl, ((Below.refl _ _).alloc (Nat.le_refl _) _).alloc (by simp) _⟩
set_option maxHeartbeats 800000 in
theorem IndexFuncG_any (f : FuncId) (hcf : ∀ args w, Sem.run Try.prog (callFunc f args) w = .ok (.enter f args) w) (cap : Array Value) (q : G3 → Bool) (A : Option Addr) (n c : Nat) (gs : List G3) (w : World) (ha : RG w A n gs) (hn : n ≤ 2097152)
    (hf : Hid (∀ g w1, Below w.heap.size w w1 → Calls Try.prog f (#[.agg #[.int .i64 g.k, .int .i64 g.a, .int .i64 g.b]] ++ cap) w1 fun e w' => e = .returned (.bool (q g)) ∧ Below w1.heap.size w1 w')) :
    Calls Try.prog 71 #[.slice A n c, .func (.func f) #[] cap] w fun e w' => e = .returned (.int .i64 (fidx q gs)) ∧ Below w.heap.size w w' := by
  have hl := ha.len
  go_enter Try.func71, Try.ntmps71
  go_wp2
  go_loopw [8] (fun v wr => ∃ k : Nat, k ≤ n ∧ v = .int .i64 k ∧ Hid (∀ j, j < k → q (gg gs j) = false) ∧ Below w.heap.size w wr) (fun v _ => n - (intOf v).toNat)
  case atStart => exact ⟨0, Nat.zero_le _, rfl, Lib.hid (fun j hj => by omega), Below.refl _ _⟩
  case round =>
    obtain ⟨k, hk, rfl, hno, hb⟩ := hrel
    by_cases hlt : k < n
    · obtain ⟨b, o, rfl, hbB, c1, c2, c3⟩ := (ha.below hb (Nat.le_refl _)).at_ hlt
      clear ha
      cases hd : q (gg gs k) with
      | true =>
        have HQ := Lib.hid hd; clear hd
        go_wp2_with fail
        refine (hf.out (gg gs k) _ hb).mono ?_
        rintro e w1 ⟨rfl, hb1⟩
        rw [HQ.out]
        go_wp2
        go_ret
        exact ⟨by rw [fidx_found (by omega) HQ.out hno.out]; rfl, hb.trans (hb1.mono hb.size)⟩
      | false =>
        have HQ := Lib.hid hd; clear hd
        go_wp2_with fail
        refine (hf.out (gg gs k) _ hb).mono ?_
        rintro e w1 ⟨rfl, hb1⟩
        rw [HQ.out]
        go_wp2
        go_roundw
        case rel => exact ⟨k + 1, by omega, by go_num, Lib.hid (no_snoc hno.out HQ.out), hb.trans (hb1.mono hb.size)⟩
        case measure => simp [intOf]; omega
    · obtain rfl : n = k := Nat.le_antisymm (Nat.le_of_not_lt hlt) hk
      have HR : Hid (fidx q gs = -1) := Lib.hid (fidx_none (fun j hj => hno.out j (by omega)))
      go_wp2
      go_ret
      exact ⟨by rw [HR.out]; rfl, hb⟩
theorem GateIs.mono {g : G3} {n m : Int} (h : GateIs g n) (hm : n ≤ m) : GateIs g m := by
  cases h with
  | xor_ hk a0 a1 b0 b1 => exact .xor_ hk a0 (by omega) b0 (by omega)
  | and_ hk a0 a1 b0 b1 => exact .and_ hk a0 (by omega) b0 (by omega)
  | not_ hk a0 a1 b0 => exact .not_ hk a0 (by omega) b0
  | one_ hk a0 b0 => exact .one_ hk a0 b0
theorem circB_gate_at {x y : Int} {gs : List G3} {os : List Int} {ng : Nat} (h : circB x y gs os = true) (hl : gs.length = ng) : ∀ k : Nat, k < ng → GateIs (gg gs k) (x + y + k) := fun k hk => by
  subst hl
  exact gatesB_at (circB_bd h).2.2.2.2.1 hk
def lessN (l : List Int) (x : Int) : Nat := (l.takeWhile fun z => decide (z < x)).length
def putL (l : List Int) (x : Int) : List Int := if gi l (lessN l x) = x ∧ lessN l x < l.length then l else l.take (lessN l x) ++ x :: l.drop (lessN l x)
theorem ownsRow_cap {w : World} {lo : Nat} {t : TypeId} {s n c : Nat} {A : Option Addr} {xs : List Value} (h : w.ownsRow lo t s (.slice A n c) n xs) : n ≤ c := by
  rcases h.2 with ⟨hv, hn⟩ | ⟨g, cap, cur, hv, _, _, hnc, _⟩
  · simp only [Value.slice.injEq] at hv; omega
  · simp only [Value.slice.injEq] at hv; omega
theorem lessN_le (l : List Int) (x : Int) : lessN l x ≤ l.length := by
  induction l with
  | nil => simp [lessN]
  | cons a l ih =>
    unfold lessN at *
    by_cases h : a < x
    · simp [h]; exact ih
    · simp [h]
theorem lessN_lt {l : List Int} {x : Int} : ∀ j, j < lessN l x → gi l j < x := by
  induction l with
  | nil => intro j hj; simp [lessN] at hj
  | cons a l ih =>
    intro j hj
    unfold lessN at hj
    by_cases h : a < x
    · simp [h] at hj
      cases j with
      | zero => exact h
      | succ j => exact ih j (by unfold lessN; omega)
    · simp [h] at hj
theorem lessN_not {l : List Int} {x : Int} (h : lessN l x < l.length) : ¬ gi l (lessN l x) < x := by
  induction l with
  | nil => simp at h
  | cons a l ih =>
    by_cases ha : a < x
    · have e : lessN (a :: l) x = lessN l x + 1 := by simp [lessN, ha]
      rw [e] at h ⊢
      exact ih (by simpa using h)
    · have e : lessN (a :: l) x = 0 := by simp [lessN, ha]
      rw [e]; exact ha
theorem putL_len (l : List Int) (x : Int) : (putL l x).length = if gi l (lessN l x) = x ∧ lessN l x < l.length then l.length else l.length + 1 := by
  have := lessN_le l x
  unfold putL
  split
  · rfl
  · simp; omega
theorem putL_mem {l : List Int} {x z : Int} : z ∈ putL l x ↔ z = x ∨ z ∈ l := by
  unfold putL
  split
  · rename_i h
    constructor
    · exact .inr
    · rintro (rfl | h')
      · have := gi_mem h.2
        rw [h.1] at this; exact this
      · exact h'
  · have : z ∈ l ↔ z ∈ l.take (lessN l x) ∨ z ∈ l.drop (lessN l x) := by
      rw [← List.mem_append, List.take_append_drop]
    rw [this]
    simp only [List.mem_append, List.mem_cons]
    constructor
    · rintro (h | h | h)
      · exact .inr (.inl h)
      · exact .inl h
      · exact .inr (.inr h)
    · rintro (h | h | h)
      · exact .inr (.inl h)
      · exact .inl h
      · exact .inr (.inr h)
theorem RI.take_ {w : World} {A : Option Addr} {n : Nat} {xs : List Int} (h : RI w A n xs) (k : Nat) (hk : k ≤ n) : RI w A k (xs.take k) := by
  have hl := h.len
  refine ⟨by simp; omega, fun hn => ?_⟩
  obtain ⟨b, o, hA, hlt, hc⟩ := h.2 (by omega)
  refine ⟨b, o, hA, hlt, fun j hj => ?_⟩
  rw [hc j (by omega)]
  congr 2
  unfold gi; rw [List.getD_eq_getElem?_getD, List.getD_eq_getElem?_getD, List.getElem?_take_of_lt hj]
theorem RI.drop_ {w : World} {b o n : Nat} {xs : List Int} (h : RI w (some ⟨b, o, none⟩) n xs) (k : Nat) (hk : k ≤ n) : RI w (some ⟨b, o + k, none⟩) (n - k) (xs.drop k) := by
  have hl := h.len
  refine ⟨by simp; omega, fun hn => ?_⟩
  obtain ⟨b', o', hA, hlt, hc⟩ := h.2 (by omega)
  injection hA with hA
  injection hA with h1 h2
  subst h1; subst h2
  refine ⟨b, o + k, rfl, hlt, fun j hj => ?_⟩
  rw [show o + k + j = o + (k + j) from by omega, hc (k + j) (by omega)]
  congr 2
  unfold gi; rw [List.getD_eq_getElem?_getD, List.getD_eq_getElem?_getD, List.getElem?_drop]
theorem RI_nil (w : World) (A : Option Addr) : RI w A 0 [] := ⟨rfl, fun h => absurd h (by omega)⟩
set_option maxRecDepth 100000 in
set_option maxHeartbeats 800000 in
theorem l1Put_any (A : Option Addr) (n c lo hi : Nat) (l : List Int) (x : Int) (w : World) (h : Own w lo hi (.slice A n c) n l) (hlo : lo ≤ w.heap.size) (hn : n ≤ 2097152) :
    Calls Try.prog 87 #[.slice A n c, .int .i64 x] w fun e w' => ∃ A' c', e = .returned (.slice A' (putL l x).length c') ∧ Own w' lo w'.heap.size (.slice A' (putL l x).length c') (putL l x).length (putL l x) ∧ Below w.heap.size w w' := by
  have ha := h.reads
  have hl := ha.len
  have hle := lessN_le l x
  have hnc : n ≤ c := ownsRow_cap h.1
  go_enter Try.func87, Try.ntmps87
  go_wp2
  go_loop [5] (fun i => ∃ k : Nat, k ≤ lessN l x ∧ i = .int .i64 k) (fun i => n - (intOf i).toNat)
  case atStart => exact ⟨0, Nat.zero_le _, rfl⟩
  case round =>
    obtain ⟨k, hk, rfl⟩ := hrel
    by_cases hlt : k < lessN l x
    · have h1 := lessN_lt k hlt
      obtain ⟨b, o, rfl, hbB, c1⟩ := ha.at_ (k := k) (by omega)
      clear ha h
      generalize gi l k = X at *
      have hkn : (k : Int) < n := by omega
      go_wp2
      go_round
      case rel => exact ⟨k + 1, by omega, by go_num⟩
      case measure => simp [intOf]; omega
    · obtain rfl : k = lessN l x := by omega
      by_cases hlt2 : lessN l x < n
      · have h2 := lessN_not (l := l) (x := x) (by omega)
        obtain ⟨b, o, rfl, hbB, c1⟩ := ha.at_ hlt2
        have hkn : ((lessN l x : Nat) : Int) < n := by omega
        by_cases he : gi l (lessN l x) = x
        · have hp : Hid (putL l x = l) := Lib.hid (by unfold putL; rw [if_pos ⟨he, by omega⟩])
          have heq : (gi l (lessN l x) == x) = true := by simpa using he
          clear he ha
          generalize gi l (lessN l x) = X at *
          generalize lessN l x = k at *
          go_wp2
          go_ret
          exact ⟨_, c, by rw [hp.out, hl]; rfl, by rw [hp.out, hl]; exact h.now, Below.refl _ _⟩
        · have hp : Hid (putL l x = (l.take (lessN l x) ++ [x]) ++ l.drop (lessN l x)) := Lib.hid (by unfold putL; rw [if_neg (fun hc => he hc.1)]; simp)
          have heq : (gi l (lessN l x) == x) = false := by simpa using he
          have hkc : ((lessN l x : Nat) : Int) ≤ c := by omega
          have hck : ¬ (c = lessN l x) := by omega
          have r1 := ha.take_ (lessN l x) (by omega)
          have r2 := ha.drop_ (lessN l x) (by omega)
          clear he ha
          generalize gi l (lessN l x) = X at *
          generalize lessN l x = k at *
          have hown0 := Own_new0 w w.heap.size (Nat.le_refl _)
          have hb0 := (Below.refl w.heap.size w).alloc (Nat.le_refl _) (.cells #[] 3)
          go_wp2_with (at_builtin; first | (refine wpList_app _ rfl _ _ rfl rfl hown0 rfl (r1.below hb0 (Nat.le_refl _)) (by omega) (by first | omega | (simp; done) | (simp; omega)) ?_; intro A5 c5 w5 hown5 hg5 hat5; have hb5 := below_app hb0 hown0 hg5 (by simp) (Nat.le_refl _); have hz5 := hb5.size; simp only [Nat.zero_add, List.nil_append] at hown5; have hownA := hown5.alloc (.cells #[.int .i64 x] 3)) | (refine wpList_app _ rfl _ _ rfl rfl hownA rfl (RI_one _ _ _ _ (by simp)) (by omega) (by first | omega | (simp; done) | (simp; omega)) ?_; intro A6 c6 w6 hown6 hg6 hat6; have hb6 := below_app (hb5.alloc hz5 (.cells #[.int .i64 x] 3)) hownA hg6 (by simp; omega) (Nat.le_refl _); have hz6 := hb6.size) | (refine wpList_app _ rfl _ _ rfl rfl hown6 rfl (r2.below hb6 (Nat.le_refl _)) (by omega) (by first | omega | (simp; done) | (simp; omega)) ?_; intro A7 c7 w7 hown7 hg7 hat7; have hb7 := below_app hb6 hown6 hg7 hz6 (Nat.le_refl _)))
          have hlen : (putL l x).length = k + 1 + (n - k) := by rw [hp.out]; simp; omega
          rw [← hp.out] at hown7
          go_ret
          refine ⟨A7, c7, ?_, ?_, hb7⟩
          · rw [hlen]; simp
          · rw [hlen]; simpa using hown7.lo_ hlo
      · have hkn : lessN l x = n := by omega
        have hp : Hid (putL l x = (l.take n ++ [x]) ++ ([] : List Int)) := Lib.hid (by unfold putL; rw [hkn, if_neg (fun hc => by omega), List.drop_of_length_le (Nat.le_of_eq hl)]; simp)
        rw [hkn]
        have r1 := ha.take_ n (Nat.le_refl _)
        clear ha
        rcases h.1.2 with ⟨hv, hn0⟩ | ⟨g, cap, cur, hv, _, _, _, _⟩
        · simp only [Value.slice.injEq, true_and] at hv
          obtain ⟨rfl, rfl, rfl⟩ := hv
          clear h
          have hown0 := Own_new0 w w.heap.size (Nat.le_refl _)
          have hb0 := (Below.refl w.heap.size w).alloc (Nat.le_refl _) (.cells #[] 3)
          go_wp2_with (at_builtin; first | (refine wpList_app _ rfl _ _ rfl rfl hown0 rfl (r1.below hb0 (Nat.le_refl _)) (by omega) (by first | omega | (simp; done) | (simp; omega)) ?_; intro A5 c5 w5 hown5 hg5 hat5; have hb5 := below_app hb0 hown0 hg5 (by simp) (Nat.le_refl _); have hz5 := hb5.size; simp only [Nat.zero_add, List.nil_append] at hown5; have hownA := hown5.alloc (.cells #[.int .i64 x] 3)) | (refine wpList_app _ rfl _ _ rfl rfl hownA rfl (RI_one _ _ _ _ (by simp)) (by omega) (by first | omega | (simp; done) | (simp; omega)) ?_; intro A6 c6 w6 hown6 hg6 hat6; have hb6 := below_app (hb5.alloc hz5 (.cells #[.int .i64 x] 3)) hownA hg6 (by simp; omega) (Nat.le_refl _); have hz6 := hb6.size) | (refine wpList_app _ rfl _ _ rfl rfl hown6 rfl (RI_nil _ _) (by omega) (by first | omega | (simp; done) | (simp; omega)) ?_; intro A7 c7 w7 hown7 hg7 hat7; have hb7 := below_app hb6 hown6 hg7 hz6 (Nat.le_refl _)))
          have hlen : (putL l x).length = 0 + 1 := by rw [hp.out]; simp <;> omega
          rw [← hp.out] at hown7
          go_ret
          refine ⟨A7, c7, ?_, ?_, hb7⟩
          · rw [hlen]; simp
          · rw [hlen]; simpa using hown7.lo_ hlo
        · simp only [Value.slice.injEq, true_and] at hv
          obtain ⟨rfl, rfl⟩ := hv
          have hnc' : (n : Int) ≤ c := by omega
          clear h
          by_cases hcn : c = n
          · subst hcn
            have hown0 := Own_new0 w w.heap.size (Nat.le_refl _)
            have hb0 := (Below.refl w.heap.size w).alloc (Nat.le_refl _) (.cells #[] 3)
            go_wp2_with (at_builtin; first | (refine wpList_app _ rfl _ _ rfl rfl hown0 rfl (r1.below hb0 (Nat.le_refl _)) (by omega) (by first | omega | (simp; done) | (simp; omega)) ?_; intro A5 c5 w5 hown5 hg5 hat5; have hb5 := below_app hb0 hown0 hg5 (by simp) (Nat.le_refl _); have hz5 := hb5.size; simp only [Nat.zero_add, List.nil_append] at hown5; have hownA := hown5.alloc (.cells #[.int .i64 x] 3)) | (refine wpList_app _ rfl _ _ rfl rfl hownA rfl (RI_one _ _ _ _ (by simp)) (by omega) (by first | omega | (simp; done) | (simp; omega)) ?_; intro A6 c6 w6 hown6 hg6 hat6; have hb6 := below_app (hb5.alloc hz5 (.cells #[.int .i64 x] 3)) hownA hg6 (by simp; omega) (Nat.le_refl _); have hz6 := hb6.size) | (refine wpList_app _ rfl _ _ rfl rfl hown6 rfl (RI_nil _ _) (by omega) (by first | omega | (simp; done) | (simp; omega)) ?_; intro A7 c7 w7 hown7 hg7 hat7; have hb7 := below_app hb6 hown6 hg7 hz6 (Nat.le_refl _)))
            have hlen : (putL l x).length = c + 1 := by rw [hp.out]; simp <;> omega
            rw [← hp.out] at hown7
            go_ret
            refine ⟨A7, c7, ?_, ?_, hb7⟩
            · rw [hlen]; simp
            · rw [hlen]; simpa using hown7.lo_ hlo
          · skip
            have hown0 := Own_new0 w w.heap.size (Nat.le_refl _)
            have hb0 := (Below.refl w.heap.size w).alloc (Nat.le_refl _) (.cells #[] 3)
            go_wp2_with (at_builtin; first | (refine wpList_app _ rfl _ _ rfl rfl hown0 rfl (r1.below hb0 (Nat.le_refl _)) (by omega) (by first | omega | (simp; done) | (simp; omega)) ?_; intro A5 c5 w5 hown5 hg5 hat5; have hb5 := below_app hb0 hown0 hg5 (by simp) (Nat.le_refl _); have hz5 := hb5.size; simp only [Nat.zero_add, List.nil_append] at hown5; have hownA := hown5.alloc (.cells #[.int .i64 x] 3)) | (refine wpList_app _ rfl _ _ rfl rfl hownA rfl (RI_one _ _ _ _ (by simp)) (by omega) (by first | omega | (simp; done) | (simp; omega)) ?_; intro A6 c6 w6 hown6 hg6 hat6; have hb6 := below_app (hb5.alloc hz5 (.cells #[.int .i64 x] 3)) hownA hg6 (by simp; omega) (Nat.le_refl _); have hz6 := hb6.size) | (refine wpList_app _ rfl _ _ rfl rfl hown6 rfl (RI_nil _ _) (by omega) (by first | omega | (simp; done) | (simp; omega)) ?_; intro A7 c7 w7 hown7 hg7 hat7; have hb7 := below_app hb6 hown6 hg7 hz6 (Nat.le_refl _)))
            have hlen : (putL l x).length = n + 1 := by rw [hp.out]; simp <;> omega
            rw [← hp.out] at hown7
            go_ret
            refine ⟨A7, c7, ?_, ?_, hb7⟩
            · rw [hlen]; simp
            · rw [hlen]; simpa using hown7.lo_ hlo
def prt (g : G3) : List Int := if g.k = 0 ∨ g.k = 1 then [g.a, g.b] else if g.k = 2 then [g.a] else []
def puts (l xs : List Int) : List Int := xs.foldl putL l
def inL (l : List Int) (z : Int) : Bool := decide (z ∈ l)
def stp (X : Nat) (gs : List G3) (k : Nat) (L : List Int) : List Int := if inL L ((X : Int) + k) then puts L (prt (gg gs k)) else L
def usd (X : Nat) (gs : List G3) : Nat → List Int → List Int
  | 0, L => L
  | k + 1, L => usd X gs k (stp X gs k L)
def usedL (X : Nat) (gs : List G3) (os : List Int) : List Int := usd X gs gs.length (puts [] os)
theorem puts_snoc (l xs : List Int) (v : Int) : puts l (xs ++ [v]) = putL (puts l xs) v := by simp [puts]
theorem puts_mem {l xs : List Int} {z : Int} : z ∈ puts l xs ↔ z ∈ xs ∨ z ∈ l := by
  induction xs generalizing l with
  | nil => simp [puts]
  | cons a xs ih =>
    have h : puts l (a :: xs) = puts (putL l a) xs := rfl
    rw [h, ih, putL_mem, List.mem_cons]
    constructor
    · rintro (h | h | h)
      · exact .inl (.inr h)
      · exact .inl (.inl h)
      · exact .inr h
    · rintro ((h | h) | h)
      · exact .inr (.inl h)
      · exact .inl h
      · exact .inr (.inr h)
theorem putL_le (l : List Int) (x : Int) : (putL l x).length ≤ l.length + 1 := by
  rw [putL_len]; split <;> omega
theorem puts_le (l xs : List Int) : (puts l xs).length ≤ l.length + xs.length := by
  induction xs generalizing l with
  | nil => simp [puts]
  | cons a xs ih =>
    have h : puts l (a :: xs) = puts (putL l a) xs := rfl
    have h1 := ih (putL l a)
    have h2 := putL_le l a
    rw [h, List.length_cons]; omega
theorem prt_le (g : G3) : (prt g).length ≤ 2 := by
  unfold prt; split
  · simp
  · split <;> simp
theorem prt_lt {g : G3} {n : Int} (h : GateIs g n) : ∀ z ∈ prt g, 0 ≤ z ∧ z < n := by
  obtain ⟨gk, ga, gb⟩ := g
  cases h with
  | xor_ hk a0 a1 b0 b1 => dsimp only at *; subst hk; intro z hz; simp [prt] at hz; rcases hz with rfl | rfl <;> constructor <;> assumption
  | and_ hk a0 a1 b0 b1 => dsimp only at *; subst hk; intro z hz; simp [prt] at hz; rcases hz with rfl | rfl <;> constructor <;> assumption
  | not_ hk a0 a1 b0 => dsimp only at *; subst hk; intro z hz; simp [prt] at hz; subst hz; exact ⟨a0, a1⟩
  | one_ hk a0 b0 => dsimp only at *; subst hk; intro z hz; simp [prt] at hz
theorem stp_mono {X : Nat} {gs : List G3} {k : Nat} {L : List Int} {z : Int} (h : z ∈ L) : z ∈ stp X gs k L := by
  unfold stp; split
  · exact puts_mem.2 (.inr h)
  · exact h
theorem usd_mono {X : Nat} {gs : List G3} {k : Nat} {L : List Int} {z : Int} (h : z ∈ L) : z ∈ usd X gs k L := by
  induction k generalizing L with
  | zero => exact h
  | succ k ih => exact ih (stp_mono h)
theorem stp_high {X : Nat} {gs : List G3} {k : Nat} {L : List Int} {z : Int} (hg : GateIs (gg gs k) ((X : Int) + k)) (hz : (X : Int) + k ≤ z) (h : z ∈ stp X gs k L) : z ∈ L := by
  unfold stp at h; split at h
  · rcases puts_mem.1 h with h | h
    · have := (prt_lt hg z h).2; omega
    · exact h
  · exact h
theorem usd_high {X : Nat} {gs : List G3} {k : Nat} {L : List Int} {z : Int} (hg : ∀ j, j < k → GateIs (gg gs j) ((X : Int) + j)) (hz : (X : Int) + k ≤ z) (h : z ∈ usd X gs k L) : z ∈ L := by
  induction k generalizing L with
  | zero => exact h
  | succ k ih =>
    exact stp_high (hg k (by omega)) (by omega) (ih (fun j hj => hg j (by omega)) (by omega) h)
theorem usd_closed {X : Nat} {gs : List G3} {m : Nat} {L : List Int} (hg : ∀ j, j < m → GateIs (gg gs j) ((X : Int) + j)) {k : Nat} (hk : k < m) (h : (X : Int) + k ∈ usd X gs m L) : ∀ z ∈ prt (gg gs k), z ∈ usd X gs m L := by
  induction m generalizing L with
  | zero => omega
  | succ m ih =>
    rcases Nat.lt_or_ge k m with h1 | h1
    · exact ih (fun j hj => hg j (by omega)) h1 h
    · obtain rfl : k = m := by omega
      have h2 : (X : Int) + k ∈ stp X gs k L := usd_high (fun j hj => hg j (by omega)) (Int.le_refl _) h
      have h3 := stp_high (hg k (by omega)) (Int.le_refl _) h2
      intro z hz
      refine usd_mono (k := k) ?_
      unfold stp
      rw [if_pos (by simpa [inL] using h3)]
      exact puts_mem.2 (.inl hz)
def drp (X : Nat) (gs : List G3) (U : List Int) : Nat → List G3 × List Int
  | 0 => ([], spn 0 X)
  | k + 1 => (if inL U ((X : Int) + k) then (drp X gs U k).1 ++ [mvG (fun w => gi (drp X gs U k).2 w.toNat) (gg gs k)] else (drp X gs U k).1, (drp X gs U k).2 ++ [(X : Int) + (drp X gs U k).1.length])
def drs (X : Nat) (gs : List G3) (U : List Int) : Nat → List G3 × List Int
  | 0 => ([], spn 0 X)
  | k + 1 => (if inL U ((X : Int) + k) then (drs X gs U k).1 ++ [mvG (fun w => gi (drs X gs U k).2 w.toNat) (gg gs k)] else (drs X gs U k).1, (drs X gs U k).2 ++ [if inL U ((X : Int) + k) then (X : Int) + (drs X gs U k).1.length else -1])
theorem drp_len (X : Nat) (gs : List G3) (U : List Int) (k : Nat) : (drp X gs U k).1.length ≤ k ∧ (drp X gs U k).2.length = X + k := by
  induction k with
  | zero => exact ⟨Nat.le_refl _, spn_len 0 X⟩
  | succ k ih =>
    obtain ⟨h1, h2⟩ := ih
    refine ⟨?_, by simp [drp, h2]; omega⟩
    simp only [drp]
    split
    · simp; omega
    · omega
theorem drs_len (X : Nat) (gs : List G3) (U : List Int) (k : Nat) : (drs X gs U k).1.length ≤ k ∧ (drs X gs U k).2.length = X + k := by
  induction k with
  | zero => exact ⟨Nat.le_refl _, spn_len 0 X⟩
  | succ k ih =>
    obtain ⟨h1, h2⟩ := ih
    refine ⟨?_, by simp [drs, h2]; omega⟩
    simp only [drs]
    split
    · simp; omega
    · omega
theorem mvG_parts {f h : Int → Int} {g : G3} {n : Int} (hg : GateIs g n) (hz : ∀ z ∈ prt g, f z = h z) : mvG f g = mvG h g := by
  obtain ⟨gk, ga, gb⟩ := g
  cases hg with
  | xor_ hk a0 a1 b0 b1 => dsimp only at *; subst hk; have h1 := hz ga (by simp [prt]); have h2 := hz gb (by simp [prt]); simp [mvG, h1, h2]
  | and_ hk a0 a1 b0 b1 => dsimp only at *; subst hk; have h1 := hz ga (by simp [prt]); have h2 := hz gb (by simp [prt]); simp [mvG, h1, h2]
  | not_ hk a0 a1 b0 => dsimp only at *; subst hk; have h1 := hz ga (by simp [prt]); simp [mvG, h1]
  | one_ hk a0 b0 => dsimp only at *; subst hk; simp [mvG]
theorem drp_drs {X : Nat} {gs : List G3} {U : List Int} {m : Nat} (hg : ∀ j, j < m → GateIs (gg gs j) ((X : Int) + j)) (hc : ∀ j, j < m → (X : Int) + j ∈ U → ∀ z ∈ prt (gg gs j), z ∈ U) :
    ∀ k, k ≤ m → (drs X gs U k).1 = (drp X gs U k).1 ∧ ∀ z : Nat, z < X + k → (z < X ∨ (z : Int) ∈ U) → gi (drs X gs U k).2 z = gi (drp X gs U k).2 z := by
  intro k
  induction k with
  | zero => intro _; exact ⟨rfl, fun _ _ _ => rfl⟩
  | succ k ih =>
    intro hk
    obtain ⟨h1, h2⟩ := ih (by omega)
    have l1 := (drp_len X gs U k).2
    have l2 := (drs_len X gs U k).2
    constructor
    · simp only [drp, drs]
      by_cases hu : inL U ((X : Int) + k) = true
      · rw [if_pos hu, if_pos hu, h1]
        congr 2
        refine mvG_parts (hg k (by omega)) (fun z hz => ?_)
        have hb := prt_lt (hg k (by omega)) z hz
        have hu' : (X : Int) + k ∈ U := by simpa [inL] using hu
        refine h2 z.toNat (by omega) (.inr ?_)
        rw [Int.toNat_of_nonneg hb.1]
        exact hc k (by omega) hu' z hz
      · rw [if_neg hu, if_neg hu, h1]
    · intro z hz hu
      simp only [drp, drs]
      rcases Nat.lt_or_ge z (X + k) with h | h
      · rw [gi_append_l (by omega), gi_append_l (by omega)]; exact h2 z h hu
      · obtain rfl : z = X + k := by omega
        have hu' : inL U ((X : Int) + k) = true := by
          rcases hu with hu | hu
          · omega
          · simpa [inL] using hu
        rw [if_pos hu', h1]
        have e1 := gi_append_r (drs X gs U k).2 ((X : Int) + ((drp X gs U k).1.length : Nat))
        have e2 := gi_append_r (drp X gs U k).2 ((X : Int) + ((drp X gs U k).1.length : Nat))
        rw [l2] at e1; rw [l1] at e2
        rw [e1, e2]
theorem pick_same {xs ys os : List Int} (h : ∀ z ∈ os, gi xs z.toNat = gi ys z.toNat) : pick xs os = pick ys os := by
  unfold pick
  exact List.map_congr_left fun z hz => h z hz
theorem drop_ref {X : Nat} {gs : List G3} {os : List Int} (hg : ∀ j, j < gs.length → GateIs (gg gs j) ((X : Int) + j)) (ho : ∀ z ∈ os, 0 ≤ z ∧ z < (X : Int) + gs.length) :
    (drs X gs (usedL X gs os) gs.length).1 = (drp X gs (usedL X gs os) gs.length).1 ∧ pick (drs X gs (usedL X gs os) gs.length).2 os = pick (drp X gs (usedL X gs os) gs.length).2 os := by
  have h := drp_drs (U := usedL X gs os) hg (fun j hj hu => usd_closed hg hj hu) gs.length (Nat.le_refl _)
  refine ⟨h.1, pick_same fun z hz => h.2 z.toNat (by have := ho z hz; omega) (.inr ?_)⟩
  rw [Int.toNat_of_nonneg (ho z hz).1]
  exact usd_mono (puts_mem.2 (.inl hz))
end Go.Proofs.Ytikgagjoapggnaa
