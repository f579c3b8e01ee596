/- Contracts: a circuit that is valid or not; gates moved by a closure. -/
import Derived.Test.YtnhmfedegfcflaaGreatDoorQR16
import Derived.Deep.RegionLaw
namespace Go.Proofs.YtnhmfedegfcflaaGreatDoor
open Go.RowKit
set_option linter.unusedVariables false
set_option linter.unusedSimpArgs false
attribute [local go_sem] sepAt sepUpon pureAt pureUpon
def okE (x y : Int) (gs : List G3) (os us ws : List Int) : Bool := circB x y gs os && (allB 0 1 us && (allB 0 1 ws && (decide ((us.length : Int) = x) && decide ((ws.length : Int) = y))))
theorem okE_parts {x y : Int} {gs : List G3} {os us ws : List Int} (h : okE x y gs os us ws = true) : circB x y gs os = true ∧ allB 0 1 us = true ∧ allB 0 1 ws = true ∧ (us.length : Int) = x ∧ (ws.length : Int) = y := by
 unfold okE at h
 simpa only [Bool.and_eq_true, decide_eq_true_eq] using h
theorem okE_not {x y : Int} {gs : List G3} {os us ws : List Int} (h : okE x y gs os us ws = false) (h1 : circB x y gs os = true) (h2 : allB 0 1 us = true) (h3 : allB 0 1 ws = true) (h4 : (us.length : Int) = x) (h5 : (ws.length : Int) = y) : False := by
 unfold okE at h
 rw [h1, h2, h3, decide_eq_true h4, decide_eq_true h5] at h
 cases h
set_option maxHeartbeats 1000000 in
theorem areInputs_no (x y : Int) (Ag : Option Addr) (ng cg : Nat) (Ao : Option Addr) (no co : Nat) (A B : Option Addr) (n c m d : Nat) (gs : List G3) (os us ws : List Int) (w : World) (hr : RG w Ag ng gs ∧ RI w Ao no os) (hng : ng ≤ 2097152) (hno : no ≤ 2097152) (ha : RI w A n us) (hb : RI w B m ws) (hn : n ≤ 2097152) (hm : m ≤ 2097152) (he : okE x y gs os us ws = false) :
 Calls Tryz.prog 35 #[.agg #[.int .i64 x, .int .i64 y, .slice Ag ng cg, .slice Ao no co], .slice A n c, .slice B m d] w fun e w' => e = .returned (.bool false) ∧ Below w.heap.size w w' := by
 have hB : Below w.heap.size w (w.alloc (.cells #[.int .i64 x, .int .i64 y, .slice Ag ng cg, .slice Ao no co] 27)) := bA
 have hx0 : BxC (w.alloc (.cells #[.int .i64 x, .int .i64 y, .slice Ag ng cg, .slice Ao no co] 27)) w.heap.size x y Ag ng cg Ao no co := BxC.new w _
 have hl1 := ha.len
 have hl2 := hb.len
 have HE := zH he; clear he
 have hq := hx0; obtain ⟨k0, k1, k2, k3⟩ := hq
 cases hc : circB x y gs os with
 | false =>
  have H0 := zH hc; clear hc
  go_enter Tryz.func35, Tryz.ntmps35
  go_wp2_with fail
  refine (Zah _ _ Ag ng cg Ao no co gs os _ (hr.1.below hB lR) (hr.2.below hB lR) hng hno).mono ?_
  rintro e v1 ⟨rfl, b1⟩
  rw [H0.out]
  have B1 := hB.trans (b1.mono hB.size)
  go_wp2
  go_ret
  exact ⟨rfl, B1⟩
 | true =>
  have H0 := zH hc
  obtain ⟨hx, hy, _, _, _, _⟩ := Zao hc
  clear hc
  cases h1 : bitsB n 64 us with
  | false =>
   have H1 := zH h1; clear h1
   go_enter Tryz.func35, Tryz.ntmps35
   go_wp2_with fail
   refine (Zah _ _ Ag ng cg Ao no co gs os _ (hr.1.below hB lR) (hr.2.below hB lR) hng hno).mono ?_
   rintro e v1 ⟨rfl, b1⟩
   rw [H0.out]
   have B1 := hB.trans (b1.mono hB.size)
   go_wp2_with fail
   refine (Zbf A n c us _ (ha.below B1 lR) (by omega)).mono ?_
   rintro e v2 ⟨rfl, b2⟩
   rw [H1.out]
   have B2 := B1.trans (b2.mono B1.size)
   go_wp2
   go_ret
   exact ⟨rfl, B2⟩
  | true =>
   have H1 := zH h1; clear h1
   cases h2 : bitsB m 64 ws with
   | false =>
    have H2 := zH h2; clear h2
    go_enter Tryz.func35, Tryz.ntmps35
    go_wp2_with fail
    refine (Zah _ _ Ag ng cg Ao no co gs os _ (hr.1.below hB lR) (hr.2.below hB lR) hng hno).mono ?_
    rintro e v1 ⟨rfl, b1⟩
    rw [H0.out]
    have B1 := hB.trans (b1.mono hB.size)
    go_wp2_with fail
    refine (Zbf A n c us _ (ha.below B1 lR) (by omega)).mono ?_
    rintro e v2 ⟨rfl, b2⟩
    rw [H1.out]
    have B2 := B1.trans (b2.mono B1.size)
    go_wp2_with fail
    refine (Zbf B m d ws _ (hb.below B2 lR) (by omega)).mono ?_
    rintro e v3 ⟨rfl, b3⟩
    rw [H2.out]
    have B3 := B2.trans (b3.mono B2.size)
    go_wp2
    go_ret
    exact ⟨rfl, B3⟩
   | true =>
    have H2 := zH h2; clear h2
    have x3 := fun v2 (b : Below (w.alloc (.cells #[.int .i64 x, .int .i64 y, .slice Ag ng cg, .slice Ao no co] 27)).heap.size (w.alloc (.cells #[.int .i64 x, .int .i64 y, .slice Ag ng cg, .slice Ao no co] 27)) v2) => hx0.below b
    by_cases hnx : (n : Int) = x
    ·by_cases hmy : (m : Int) = y
     ·exfalso
      refine okE_not HE.out H0.out ?_ ?_ (by omega) (by omega)
      ·have h := H1.out; unfold bitsB at h; exact (Bool.and_eq_true _ _ ▸ h).2
      ·have h := H2.out; unfold bitsB at h; exact (Bool.and_eq_true _ _ ▸ h).2
     ·have n2 : ((m : Int) == y) = false := by simp [hmy]
      subst hnx
      have n1 : ((n : Int) == n) = true := by simp
      go_enter Tryz.func35, Tryz.ntmps35
      go_wp2_with fail
      refine (Zah _ _ Ag ng cg Ao no co gs os _ (hr.1.below hB lR) (hr.2.below hB lR) hng hno).mono ?_
      rintro e v1 ⟨rfl, b1⟩
      rw [H0.out]
      have B1 := hB.trans (b1.mono hB.size)
      go_wp2_with fail
      refine (Zbf A n c us _ (ha.below B1 lR) (by omega)).mono ?_
      rintro e v2 ⟨rfl, b2⟩
      rw [H1.out]
      have B2 := B1.trans (b2.mono B1.size)
      go_wp2_with fail
      refine (Zbf B m d ws _ (hb.below B2 lR) (by omega)).mono ?_
      rintro e v3 ⟨rfl, b3⟩
      rw [H2.out]
      have B3 := B2.trans (b3.mono B2.size)
      have xx := ((hx0.below b1).below b2).below b3
      clear k0 k1 k2 k3
      have hq := xx; obtain ⟨k0, k1, k2, k3⟩ := hq
      go_wp2
      go_ret
      exact ⟨rfl, B3⟩
    ·have n1 : ((n : Int) == x) = false := by simp [hnx]
     go_enter Tryz.func35, Tryz.ntmps35
     go_wp2_with fail
     refine (Zah _ _ Ag ng cg Ao no co gs os _ (hr.1.below hB lR) (hr.2.below hB lR) hng hno).mono ?_
     rintro e v1 ⟨rfl, b1⟩
     rw [H0.out]
     have B1 := hB.trans (b1.mono hB.size)
     go_wp2_with fail
     refine (Zbf A n c us _ (ha.below B1 lR) (by omega)).mono ?_
     rintro e v2 ⟨rfl, b2⟩
     rw [H1.out]
     have B2 := B1.trans (b2.mono B1.size)
     go_wp2_with fail
     refine (Zbf B m d ws _ (hb.below B2 lR) (by omega)).mono ?_
     rintro e v3 ⟨rfl, b3⟩
     rw [H2.out]
     have B3 := B2.trans (b3.mono B2.size)
     have xx := ((hx0.below b1).below b2).below b3
     clear k0 k1 k2 k3
     have hq := xx; obtain ⟨k0, k1, k2, k3⟩ := hq
     go_wp2
     go_ret
     exact ⟨rfl, B3⟩
set_option maxHeartbeats 1000000 in
theorem ciAsked_no (x y : Int) (Ag : Option Addr) (ng cg : Nat) (Ao : Option Addr) (no co : Nat) (A B : Option Addr) (n c m d : Nat) (gs : List G3) (os us ws : List Int) (w : World) (hr : RG w Ag ng gs ∧ RI w Ao no os) (hng : ng ≤ 2097152) (hno : no ≤ 2097152) (ha : RI w A n us) (hb : RI w B m ws) (hn : n ≤ 2097152) (hm : m ≤ 2097152) (he : okE x y gs os us ws = false) :
 Calls Tryz.prog 25 #[.agg #[.int .i64 x, .int .i64 y, .slice Ag ng cg, .slice Ao no co], .slice A n c, .slice B m d] w fun e w' => e = .returned (.bool false) ∧ Below w.heap.size w w' := by
 have hB : Below w.heap.size w (w.alloc (.cells #[.int .i64 x, .int .i64 y, .slice Ag ng cg, .slice Ao no co] 27)) := bA
 have hx0 : BxC (w.alloc (.cells #[.int .i64 x, .int .i64 y, .slice Ag ng cg, .slice Ao no co] 27)) w.heap.size x y Ag ng cg Ao no co := BxC.new w _
 have hl1 := ha.len
 have hl2 := hb.len
 have HE := zH he; clear he
 have hq := hx0; obtain ⟨k0, k1, k2, k3⟩ := hq
 cases hc : circB x y gs os with
 | false =>
  have H0 := zH hc; clear hc
  go_enter Tryz.func25, Tryz.ntmps25
  go_wp2_with fail
  refine (Zap _ _ Ag ng cg Ao no co gs os _ (hr.1.below hB lR) (hr.2.below hB lR) hng hno).mono ?_
  rintro e v1 ⟨rfl, b1⟩
  rw [H0.out]
  have B1 := hB.trans (b1.mono hB.size)
  go_wp2
  go_ret
  exact ⟨rfl, B1⟩
 | true =>
  have H0 := zH hc
  obtain ⟨hx, hy, _, _, _, _⟩ := Zao hc
  clear hc
  cases h1 : bitsB n 20 us with
  | false =>
   have H1 := zH h1; clear h1
   go_enter Tryz.func25, Tryz.ntmps25
   go_wp2_with fail
   refine (Zap _ _ Ag ng cg Ao no co gs os _ (hr.1.below hB lR) (hr.2.below hB lR) hng hno).mono ?_
   rintro e v1 ⟨rfl, b1⟩
   rw [H0.out]
   have B1 := hB.trans (b1.mono hB.size)
   go_wp2_with fail
   refine (Zbk A n c 20 us _ (ha.below B1 lR) (by omega)).mono ?_
   rintro e v2 ⟨rfl, rfl⟩
   rw [H1.out]
   go_wp2
   go_ret
   exact ⟨rfl, B1⟩
  | true =>
   have H1 := zH h1; clear h1
   cases h2 : bitsB m 20 ws with
   | false =>
    have H2 := zH h2; clear h2
    go_enter Tryz.func25, Tryz.ntmps25
    go_wp2_with fail
    refine (Zap _ _ Ag ng cg Ao no co gs os _ (hr.1.below hB lR) (hr.2.below hB lR) hng hno).mono ?_
    rintro e v1 ⟨rfl, b1⟩
    rw [H0.out]
    have B1 := hB.trans (b1.mono hB.size)
    go_wp2_with fail
    refine (Zbk A n c 20 us _ (ha.below B1 lR) (by omega)).mono ?_
    rintro e v2 ⟨rfl, rfl⟩
    rw [H1.out]
    go_wp2_with fail
    refine (Zbk B m d 20 ws _ (hb.below B1 lR) (by omega)).mono ?_
    rintro e v3 ⟨rfl, rfl⟩
    rw [H2.out]
    go_wp2
    go_ret
    exact ⟨rfl, B1⟩
   | true =>
    have H2 := zH h2; clear h2
    have x3 := fun v2 (b : Below (w.alloc (.cells #[.int .i64 x, .int .i64 y, .slice Ag ng cg, .slice Ao no co] 27)).heap.size (w.alloc (.cells #[.int .i64 x, .int .i64 y, .slice Ag ng cg, .slice Ao no co] 27)) v2) => hx0.below b
    by_cases hnx : (n : Int) = x
    ·by_cases hmy : (m : Int) = y
     ·exfalso
      refine okE_not HE.out H0.out ?_ ?_ (by omega) (by omega)
      ·have h := H1.out; unfold bitsB at h; exact (Bool.and_eq_true _ _ ▸ h).2
      ·have h := H2.out; unfold bitsB at h; exact (Bool.and_eq_true _ _ ▸ h).2
     ·have n2 : ((m : Int) == y) = false := by simp [hmy]
      subst hnx
      have n1 : ((n : Int) == n) = true := by simp
      go_enter Tryz.func25, Tryz.ntmps25
      go_wp2_with fail
      refine (Zap _ _ Ag ng cg Ao no co gs os _ (hr.1.below hB lR) (hr.2.below hB lR) hng hno).mono ?_
      rintro e v1 ⟨rfl, b1⟩
      rw [H0.out]
      have B1 := hB.trans (b1.mono hB.size)
      go_wp2_with fail
      refine (Zbk A n c 20 us _ (ha.below B1 lR) (by omega)).mono ?_
      rintro e v2 ⟨rfl, rfl⟩
      rw [H1.out]
      go_wp2_with fail
      refine (Zbk B m d 20 ws _ (hb.below B1 lR) (by omega)).mono ?_
      rintro e v3 ⟨rfl, rfl⟩
      rw [H2.out]
      have xx := hx0.below b1
      clear k0 k1 k2 k3
      have hq := xx; obtain ⟨k0, k1, k2, k3⟩ := hq
      go_wp2
      go_ret
      exact ⟨rfl, B1⟩
    ·have n1 : ((n : Int) == x) = false := by simp [hnx]
     go_enter Tryz.func25, Tryz.ntmps25
     go_wp2_with fail
     refine (Zap _ _ Ag ng cg Ao no co gs os _ (hr.1.below hB lR) (hr.2.below hB lR) hng hno).mono ?_
     rintro e v1 ⟨rfl, b1⟩
     rw [H0.out]
     have B1 := hB.trans (b1.mono hB.size)
     go_wp2_with fail
     refine (Zbk A n c 20 us _ (ha.below B1 lR) (by omega)).mono ?_
     rintro e v2 ⟨rfl, rfl⟩
     rw [H1.out]
     go_wp2_with fail
     refine (Zbk B m d 20 ws _ (hb.below B1 lR) (by omega)).mono ?_
     rintro e v3 ⟨rfl, rfl⟩
     rw [H2.out]
     have xx := hx0.below b1
     clear k0 k1 k2 k3
     have hq := xx; obtain ⟨k0, k1, k2, k3⟩ := hq
     go_wp2
     go_ret
     exact ⟨rfl, B1⟩
theorem WireValues_no (x y : Int) (Ag : Option Addr) (ng cg : Nat) (Ao : Option Addr) (no co : Nat) (A B : Option Addr) (n c m d : Nat) (gs : List G3) (os us ws : List Int) (w : World) (hr : RG w Ag ng gs ∧ RI w Ao no os) (hng : ng ≤ 2097152) (hno : no ≤ 2097152) (ha : RI w A n us) (hb : RI w B m ws) (hn : n ≤ 2097152) (hm : m ≤ 2097152) (he : okE x y gs os us ws = false) :
 Calls Tryz.prog 11 #[.agg #[.int .i64 x, .int .i64 y, .slice Ag ng cg, .slice Ao no co], .slice A n c, .slice B m d] w fun e w' => e = .returned (.tuple #[.slice none 0 0, .bool false]) ∧ Below w.heap.size w w' := by
 have hB : Below w.heap.size w (w.alloc (.cells #[.int .i64 x, .int .i64 y, .slice Ag ng cg, .slice Ao no co] 27)) := bA
 have hx0 : BxC (w.alloc (.cells #[.int .i64 x, .int .i64 y, .slice Ag ng cg, .slice Ao no co] 27)) w.heap.size x y Ag ng cg Ao no co := BxC.new w _
 have HE := zH he; clear he
 have hq := hx0; obtain ⟨k0, k1, k2, k3⟩ := hq
 go_enter Tryz.func11, Tryz.ntmps11
 go_wp2_with fail
 refine (areInputs_no x y Ag ng cg Ao no co A B n c m d gs os us ws _ ⟨hr.1.below hB lR, hr.2.below hB lR⟩ hng hno (ha.below hB lR) (hb.below hB lR) hn hm HE.out).mono ?_
 rintro e v1 ⟨rfl, b1⟩
 go_wp2
 go_ret2
 exact ⟨rfl, hB.trans (b1.mono hB.size)⟩
theorem EvalCircuit_no (x y : Int) (Ag : Option Addr) (ng cg : Nat) (Ao : Option Addr) (no co : Nat) (A B : Option Addr) (n c m d : Nat) (gs : List G3) (os us ws : List Int) (w : World) (hr : RG w Ag ng gs ∧ RI w Ao no os) (hng : ng ≤ 2097152) (hno : no ≤ 2097152) (ha : RI w A n us) (hb : RI w B m ws) (hn : n ≤ 2097152) (hm : m ≤ 2097152) (he : okE x y gs os us ws = false) :
 Calls Tryz.prog 6 #[.agg #[.int .i64 x, .int .i64 y, .slice Ag ng cg, .slice Ao no co], .slice A n c, .slice B m d] w fun e w' => e = .returned (.tuple #[.slice none 0 0, .bool false]) ∧ Below w.heap.size w w' := by
 have hB : Below w.heap.size w (w.alloc (.cells #[.int .i64 x, .int .i64 y, .slice Ag ng cg, .slice Ao no co] 27)) := bA
 have hx0 : BxC (w.alloc (.cells #[.int .i64 x, .int .i64 y, .slice Ag ng cg, .slice Ao no co] 27)) w.heap.size x y Ag ng cg Ao no co := BxC.new w _
 have HE := zH he; clear he
 have hq := hx0; obtain ⟨k0, k1, k2, k3⟩ := hq
 go_enter Tryz.func6, Tryz.ntmps6
 go_wp2_with fail
 refine (WireValues_no x y Ag ng cg Ao no co A B n c m d gs os us ws _ ⟨hr.1.below hB lR, hr.2.below hB lR⟩ hng hno (ha.below hB lR) (hb.below hB lR) hn hm HE.out).mono ?_
 rintro e v1 ⟨rfl, b1⟩
 go_wp2
 go_ret2
 exact ⟨rfl, hB.trans (b1.mono hB.size)⟩
theorem spec_EvalCircuit_no (x y : Int) (Ag : Option Addr) (ng cg : Nat) (Ao : Option Addr) (no co : Nat) (A B : Option Addr) (n c m d : Nat) (gs : List G3) (os us ws : List Int) (w : World) (hr : RG w Ag ng gs ∧ RI w Ao no os) (hng : ng ≤ 2097152) (hno : no ≤ 2097152) (ha : RI w A n us) (hb : RI w B m ws) (hn : n ≤ 2097152) (hm : m ≤ 2097152) (he : okE x y gs os us ws = false) :
 Calls Tryz.prog 7 #[.agg #[.int .i64 x, .int .i64 y, .slice Ag ng cg, .slice Ao no co], .slice A n c, .slice B m d] w fun e w' => e = .returned (.tuple #[.slice none 0 0, .bool false]) ∧ Below w.heap.size w w' := by
 have hB : Below w.heap.size w (w.alloc (.cells #[.int .i64 x, .int .i64 y, .slice Ag ng cg, .slice Ao no co] 27)) := bA
 have hx0 : BxC (w.alloc (.cells #[.int .i64 x, .int .i64 y, .slice Ag ng cg, .slice Ao no co] 27)) w.heap.size x y Ag ng cg Ao no co := BxC.new w _
 have HE := zH he; clear he
 have hq := hx0; obtain ⟨k0, k1, k2, k3⟩ := hq
 go_enter Tryz.func7, Tryz.ntmps7
 go_wp2_with fail
 refine (ciAsked_no x y Ag ng cg Ao no co A B n c m d gs os us ws _ ⟨hr.1.below hB lR, hr.2.below hB lR⟩ hng hno (ha.below hB lR) (hb.below hB lR) hn hm HE.out).mono ?_
 rintro e v1 ⟨rfl, b1⟩
 go_wp2
 go_ret2
 exact ⟨rfl, hB.trans (b1.mono hB.size)⟩
set_option maxRecDepth 100000 in
set_option maxHeartbeats 2000000 in
theorem spec_EvalCircuit_ok (x y : Int) (Ag : Option Addr) (ng cg : Nat) (Ao : Option Addr) (no co : Nat) (A B : Option Addr) (n c m d : Nat) (gs : List G3) (os us ws : List Int) (w : World) (hr : RG w Ag ng gs ∧ RI w Ao no os) (hng : ng ≤ 2097152) (hno : no ≤ 2097152) (hc : circB x y gs os = true) (ha : RI w A n us) (hb : RI w B m ws) (hn : (n : Int) = x) (hm : (m : Int) = y) (h1 : allB 0 1 us = true) (h2 : allB 0 1 ws = true) :
 Calls Tryz.prog 7 #[.agg #[.int .i64 x, .int .i64 y, .slice Ag ng cg, .slice Ao no co], .slice A n c, .slice B m d] w (RetO w (some (pick (vals gs (us ++ ws) ng) os))) := by
 have hB : Below w.heap.size w (w.alloc (.cells #[.int .i64 x, .int .i64 y, .slice Ag ng cg, .slice Ao no co] 27)) := bA
 have hx0 : BxC (w.alloc (.cells #[.int .i64 x, .int .i64 y, .slice Ag ng cg, .slice Ao no co] 27)) w.heap.size x y Ag ng cg Ao no co := BxC.new w _
 have hs0 : (w.alloc (.cells #[.int .i64 x, .int .i64 y, .slice Ag ng cg, .slice Ao no co] 27)).heap.size = w.heap.size + 1 := by simp
 obtain ⟨hx, hy, hg3, ho3, hgat, hao⟩ := Zao hc
 have hlg := hr.1.len
 have hlo := hr.2.len
 have hla := ha.len
 have hlb := hb.len
 rw [hlg] at hg3 hgat hao
 rw [hlo] at ho3
 have hgat' : gatesB ((n + m : Nat) : Int) gs ng = true := by rw [show ((n + m : Nat) : Int) = x + y by omega]; exact hgat
 have hao' : allB 0 (((n + m + ng : Nat) : Int) - 1) os = true := by rw [show ((n + m + ng : Nat) : Int) - 1 = x + y + ng - 1 by omega]; exact hao
 have hab : allB 0 1 (us ++ ws) = true := allB_iff.2 fun z hz => (List.mem_append.1 hz).elim (allB_iff.1 h1 z) (allB_iff.1 h2 z)
 have hvl : Hid ((pick (vals gs (us ++ ws) ng) os).length = no) := zH (by rw [Zbs]; exact hlo)
 have hq := hx0; obtain ⟨k0, k1, k2, k3⟩ := hq
 go_enter Tryz.func7, Tryz.ntmps7
 go_wp2_with fail
 refine (ciAsked_ok x y Ag ng cg Ao no co A B n c m d gs os us ws _ ⟨hr.1.below hB lR, hr.2.below hB lR⟩ hng hno hc (ha.below hB lR) (hb.below hB lR) hn hm h1 h2).mono ?_
 rintro e v1 ⟨rfl, b1⟩
 have B1 := hB.trans (b1.mono hB.size)
 have x1 := hx0.below b1
 have hz1 := b1.size
 rw [hs0] at hz1
 clear k0 k1 k2 k3 hx0 b1 hB
 have hq := x1; obtain ⟨k0, k1, k2, k3⟩ := hq
 go_wp2_with fail
 refine Zav (7) [(⟨w.heap.size, 0, none⟩, .int .i64 x), (⟨w.heap.size, 1, none⟩, .int .i64 y), (⟨w.heap.size, 2, none⟩, .slice Ag ng cg), (⟨w.heap.size, 3, none⟩, .slice Ao no co)] [(3, [], []), (4, [3], [])] [4] [(3, Res.row v1.heap.size (n + m) (us ++ ws)), (4, Res.row v1.heap.size no (pick (vals gs (us ++ ws) ng) os))] (by kernel_rfl) (by kernel_rfl) (by kernel_rfl) (by simp only [cD, cC, and_true]; repeat (any_goals (apply And.intro)); all_goals (first | assumption | go_simp)) ?_
 simp only [List.take_succ_cons, List.take_zero, List.drop_succ_cons, List.drop_zero, List.take_nil, List.drop_nil, List.take, List.drop]
 repeat (first
  | ((first
   | ((with_reducible refine Zad ?_ ?_ ?_)
      ·exact rfl
      ·exact rfl)
   | ((with_reducible refine Zag ?_ ?_ ?_)
      ·exact rfl
      ·exact Zaa rfl rfl rfl rfl))
     intro K hK
     apply Exists.intro
     refine ⟨fun w3 hw3 => ?_, ?_⟩
     ·have hcs := hw3
      simp only [cD, cC, and_true] at hcs
      clear hw3
      go_simp
      first | done | exact ⟨rfl, rfl⟩ | rfl
     refine hK _ ?_
     clear hK K
     try simp only [pA, pB, sA, sB, sC])
  | ((with_reducible refine Zaf ?_ ?_ ?_)
     ·exact rfl
     ·exact Zab rfl rfl rfl rfl
     simp only [pA, pB, sA, sB, sC]))
 focus
  (with_reducible refine Zbt v1.heap.size (n + m) (us ++ ws) ?_ ?_ ?_ ?_ ?_ (hw := ?_))
  ·exact rfl
  ·exact rfl
  ·omega
  ·intro w3 hw3 hc3 hp3
   have hcs := hc3
   simp only [cD, cC, and_true] at hcs
   (go_simp; have hb3 := B1.trans ((Zam hw3).mono B1.size); refine (ciJoin_any A B n c m d us ws _ (ha.below hb3 lR) (hb.below hb3 lR) (by omega) (by omega)).mono ?_; rintro e w4 ⟨A4, c4, rfl, ho4, hb4⟩; exact retPost.mk_ (postRow.mk_ ho4 hb4))
  rotate_left
  ·first | exact Zac rfl | exact Zaa rfl rfl rfl rfl
  intro A3 c3
  try simp only [pA, pB, sA, sB, sC]
 repeat (first
  | ((first
   | ((with_reducible refine Zad ?_ ?_ ?_)
      ·exact rfl
      ·exact rfl)
   | ((with_reducible refine Zag ?_ ?_ ?_)
      ·exact rfl
      ·exact Zaa rfl rfl rfl rfl))
     intro K hK
     apply Exists.intro
     refine ⟨fun w3 hw3 => ?_, ?_⟩
     ·have hcs := hw3
      simp only [cD, cC, and_true] at hcs
      clear hw3
      go_simp
      first | done | exact ⟨rfl, rfl⟩ | rfl
     refine hK _ ?_
     clear hK K
     try simp only [pA, pB, sA, sB, sC])
  | ((with_reducible refine Zaf ?_ ?_ ?_)
     ·exact rfl
     ·exact Zab rfl rfl rfl rfl
     simp only [pA, pB, sA, sB, sC]))
 focus
  (with_reducible refine Zbt v1.heap.size no (pick (vals gs (us ++ ws) ng) os) ?_ ?_ ?_ ?_ ?_ (hw := ?_))
  ·exact rfl
  ·exact rfl
  ·omega
  ·intro w3 hw3 hc3 hp3
   have hcs := hc3
   simp only [cD, cC, and_true] at hcs
   (have h9 : Own w3 v1.heap.size w3.heap.size (.slice A3 (n + m) c3) (n + m) (us ++ ws) := hp3.1.1.1; go_simp; have hb3 := B1.trans ((Zam hw3).mono B1.size); refine (ciOuts_any x y Ag ng cg Ao no co A3 (n + m) c3 gs os (us ++ ws) _ ⟨hr.1.below hb3 lR, hr.2.below hb3 lR⟩ h9.reads hab hgat' hao' hg3 ho3 (by omega)).mono ?_; rintro e w4 hT; obtain ⟨A4, c4, rfl, ho4, hb4⟩ := hT.open_ hvl.out; exact retPost.mk_ (postRow.mk_ ho4 hb4))
  rotate_left
  ·first | exact Zac rfl | exact Zaa rfl rfl rfl rfl
  intro A5 c5
  try simp only [pA, pB, sA, sB, sC]
 repeat (first
  | ((first
   | ((with_reducible refine Zad ?_ ?_ ?_)
      ·exact rfl
      ·exact rfl)
   | ((with_reducible refine Zag ?_ ?_ ?_)
      ·exact rfl
      ·exact Zaa rfl rfl rfl rfl))
     intro K hK
     apply Exists.intro
     refine ⟨fun w3 hw3 => ?_, ?_⟩
     ·have hcs := hw3
      simp only [cD, cC, and_true] at hcs
      clear hw3
      go_simp
      first | done | exact ⟨rfl, rfl⟩ | rfl
     refine hK _ ?_
     clear hK K
     try simp only [pA, pB, sA, sB, sC])
  | ((with_reducible refine Zaf ?_ ?_ ?_)
     ·exact rfl
     ·exact Zab rfl rfl rfl rfl
     simp only [pA, pB, sA, sB, sC]))
 refine Zat ?_
 intro wy hwy hcy hfin hap
 have h4 : Own wy v1.heap.size wy.heap.size (.slice A5 no c5) no (pick (vals gs (us ++ ws) ng) os) := hfin.1.1
 have By := B1.trans ((Zam hwy).mono B1.size)
 go_wp2
 go_ret2
 exact RetO.some_ By rfl hvl.out rfl (h4.lo_ (by omega))
theorem spec_IsCircuit_any (x y : Int) (Ag : Option Addr) (ng cg : Nat) (Ao : Option Addr) (no co : Nat) (gs : List G3) (os : List Int) (w : World) (hr : RG w Ag ng gs) (hr2 : RI w Ao no os) (hng : ng ≤ 2097152) (hno : no ≤ 2097152) :
 Calls Tryz.prog 10 #[.agg #[.int .i64 x, .int .i64 y, .slice Ag ng cg, .slice Ao no co]] w fun e w' => e = .returned (.bool (circB x y gs os)) ∧ Below w.heap.size w w' := by
 have hB : Below w.heap.size w (w.alloc (.cells #[.int .i64 x, .int .i64 y, .slice Ag ng cg, .slice Ao no co] 27)) := bA
 have hx0 : BxC (w.alloc (.cells #[.int .i64 x, .int .i64 y, .slice Ag ng cg, .slice Ao no co] 27)) w.heap.size x y Ag ng cg Ao no co := BxC.new w _
 have hq := hx0; obtain ⟨k0, k1, k2, k3⟩ := hq
 go_enter Tryz.func10, Tryz.ntmps10
 go_wp2_with fail
 refine (Zap _ _ Ag ng cg Ao no co gs os _ (hr.below hB lR) (hr2.below hB lR) hng hno).mono ?_
 rintro e v1 ⟨rfl, b1⟩
 go_wp2
 go_ret
 exact ⟨rfl, hB.trans (b1.mono hB.size)⟩
end Go.Proofs.YtnhmfedegfcflaaGreatDoor
namespace Go.Proofs.YtnhmfedegfcflaaGreatDoor
open Go.RowKit
set_option linter.unusedVariables false
set_option linter.unusedSimpArgs false
def mvG (f : Int → Int) (g : G3) : G3 := if g.k = 0 ∨ g.k = 1 then ⟨g.k, f g.a, f g.b⟩ else if g.k = 2 then ⟨g.k, f g.a, g.b⟩ else g
def wmap (ws : List Int) (next : Int) (w : Int) : Int := if w < ws.length then gi ws w.toNat else next + (w - ws.length)
theorem gi_tabs {ws : List Int} {next : Int} {k : Nat} {w : Int} (h0 : 0 ≤ w) (h : w < ws.length + k) : gi (ws ++ tab k fun i => next + i) w.toNat = wmap ws next w := by
 unfold wmap
 split
 ·exact gi_append_lt (by omega)
 ·unfold gi
  rw [List.getD_eq_getElem?_getD, List.getElem?_append_right (by omega)]
  have := gi_tab (f := fun i : Nat => next + (i : Int)) (n := k) (j := w.toNat - ws.length) (by omega)
  unfold gi at this
  rw [List.getD_eq_getElem?_getD] at this
  rw [this]; omega
theorem valid_f (x y : Int) (Ag : Option Addr) (ng cg : Nat) (Ao : Option Addr) (no co : Nat) (gs : List G3) (os : List Int) (w : World) (hg : RG w Ag ng gs) (ho : RI w Ao no os) (hng : ng ≤ 2097152) (hno : no ≤ 2097152) (hv : circB x y gs os = false) :
 Calls Tryz.prog 49 #[.agg #[.int .i64 x, .int .i64 y, .slice Ag ng cg, .slice Ao no co]] w fun e w' => e = .returned (.tuple #[.agg #[.int .i64 0, .int .i64 0, .slice none 0 0, .slice none 0 0], .bool false]) ∧ Below w.heap.size w w' := by
 have H0 := zH hv; clear hv
 have hB1 : Below w.heap.size w (w.alloc (.cells #[.int .i64 x, .int .i64 y, .slice Ag ng cg, .slice Ao no co] 27)) := bA
 have hB : Below w.heap.size w ((w.alloc (.cells #[.int .i64 x, .int .i64 y, .slice Ag ng cg, .slice Ao no co] 27)).alloc (.cells #[.int .i64 0, .int .i64 0, .slice none 0 0, .slice none 0 0] 27)) := hB1.alloc (by simp) _
 have hx0 : BxC ((w.alloc (.cells #[.int .i64 x, .int .i64 y, .slice Ag ng cg, .slice Ao no co] 27)).alloc (.cells #[.int .i64 0, .int .i64 0, .slice none 0 0, .slice none 0 0] 27)) w.heap.size x y Ag ng cg Ao no co := (BxC.new w _).below (bA)
 have hr0 : BxC ((w.alloc (.cells #[.int .i64 x, .int .i64 y, .slice Ag ng cg, .slice Ao no co] 27)).alloc (.cells #[.int .i64 0, .int .i64 0, .slice none 0 0, .slice none 0 0] 27)) (w.heap.size + 1) 0 0 none 0 0 none 0 0 := by simpa using BxC.new (x := 0) (y := 0) (Ag := none) (ng := 0) (cg := 0) (Ao := none) (no := 0) (co := 0) (w.alloc (.cells #[.int .i64 x, .int .i64 y, .slice Ag ng cg, .slice Ao no co] 27)) 27
 have f0 : Fz ((w.alloc (.cells #[.int .i64 x, .int .i64 y, .slice Ag ng cg, .slice Ao no co] 27)).alloc (.cells #[.int .i64 0, .int .i64 0, .slice none 0 0, .slice none 0 0] 27)) (w.heap.size + 1) := by simpa using Fz.new (w.alloc (.cells #[.int .i64 x, .int .i64 y, .slice Ag ng cg, .slice Ao no co] 27)) #[.int .i64 0, .int .i64 0, .slice none 0 0, .slice none 0 0] 27
 go_enter Tryz.func49, Tryz.ntmps49
 have hq := hx0; obtain ⟨k0, k1, k2, k3⟩ := hq
 go_wp2_with fail
 refine (Zah x y Ag ng cg Ao no co gs os _ (hg.below hB lR) (ho.below hB lR) hng hno).mono ?_
 rintro e v1 ⟨rfl, hb1⟩
 rw [H0.out]
 have hx1 := hx0.below hb1
 clear k0 k1 k2 k3
 obtain ⟨k0, k1, k2, k3⟩ := hx1
 have hr1 := hr0.below hb1
 have f1 := f0.below hb1 (by simp)
 have hq := hr1; obtain ⟨r0, r1, r2, r3⟩ := hq
 have g0 := f1 0; have g1 := f1 1; have g2 := f1 2; have g3 := f1 3
 have hB2 := hB.trans (hb1.mono hB.size)
 go_wp2
 have hq9 := BxC.set4 (hr1) 0 0 none 0 0 none 0 0
 obtain ⟨q0, q1, q2, q3⟩ := hq9
 refine bodyPost_ret (v := .tuple #[.agg #[.int .i64 0, .int .i64 0, .slice none 0 0, .slice none 0 0], .bool false]) (by simp [results, Tryz.results49, go_sem, q0, q1, q2, q3]) rfl ?_
 exact ⟨rfl, Zan hB2 (by omega) _ _ _ _ _ _ _ _⟩
theorem ciIf_f (x y : Int) (Ag : Option Addr) (ng cg : Nat) (Ao : Option Addr) (no co : Nat) (gs : List G3) (os : List Int) (w : World) (hg : RG w Ag ng gs) (ho : RI w Ao no os) (hng : ng ≤ 2097152) (hno : no ≤ 2097152) (hv : circB x y gs os = false) :
 Calls Tryz.prog 51 #[.agg #[.int .i64 x, .int .i64 y, .slice Ag ng cg, .slice Ao no co]] w fun e w' => e = .returned (.tuple #[.agg #[.int .i64 0, .int .i64 0, .slice none 0 0, .slice none 0 0], .bool false]) ∧ Below w.heap.size w w' := by
 have H0 := zH hv; clear hv
 have hB1 : Below w.heap.size w (w.alloc (.cells #[.int .i64 x, .int .i64 y, .slice Ag ng cg, .slice Ao no co] 27)) := bA
 have hB : Below w.heap.size w ((w.alloc (.cells #[.int .i64 x, .int .i64 y, .slice Ag ng cg, .slice Ao no co] 27)).alloc (.cells #[.int .i64 0, .int .i64 0, .slice none 0 0, .slice none 0 0] 27)) := hB1.alloc (by simp) _
 have hx0 : BxC ((w.alloc (.cells #[.int .i64 x, .int .i64 y, .slice Ag ng cg, .slice Ao no co] 27)).alloc (.cells #[.int .i64 0, .int .i64 0, .slice none 0 0, .slice none 0 0] 27)) w.heap.size x y Ag ng cg Ao no co := (BxC.new w _).below (bA)
 have hr0 : BxC ((w.alloc (.cells #[.int .i64 x, .int .i64 y, .slice Ag ng cg, .slice Ao no co] 27)).alloc (.cells #[.int .i64 0, .int .i64 0, .slice none 0 0, .slice none 0 0] 27)) (w.heap.size + 1) 0 0 none 0 0 none 0 0 := by simpa using BxC.new (x := 0) (y := 0) (Ag := none) (ng := 0) (cg := 0) (Ao := none) (no := 0) (co := 0) (w.alloc (.cells #[.int .i64 x, .int .i64 y, .slice Ag ng cg, .slice Ao no co] 27)) 27
 have f0 : Fz ((w.alloc (.cells #[.int .i64 x, .int .i64 y, .slice Ag ng cg, .slice Ao no co] 27)).alloc (.cells #[.int .i64 0, .int .i64 0, .slice none 0 0, .slice none 0 0] 27)) (w.heap.size + 1) := by simpa using Fz.new (w.alloc (.cells #[.int .i64 x, .int .i64 y, .slice Ag ng cg, .slice Ao no co] 27)) #[.int .i64 0, .int .i64 0, .slice none 0 0, .slice none 0 0] 27
 go_enter Tryz.func51, Tryz.ntmps51
 have hq := hx0; obtain ⟨k0, k1, k2, k3⟩ := hq
 go_wp2_with fail
 refine (Zap x y Ag ng cg Ao no co gs os _ (hg.below hB lR) (ho.below hB lR) hng hno).mono ?_
 rintro e v1 ⟨rfl, hb1⟩
 rw [H0.out]
 have hx1 := hx0.below hb1
 clear k0 k1 k2 k3
 obtain ⟨k0, k1, k2, k3⟩ := hx1
 have hr1 := hr0.below hb1
 have f1 := f0.below hb1 (by simp)
 have hq := hr1; obtain ⟨r0, r1, r2, r3⟩ := hq
 have g0 := f1 0; have g1 := f1 1; have g2 := f1 2; have g3 := f1 3
 have hB2 := hB.trans (hb1.mono hB.size)
 go_wp2
 have hq9 := BxC.set4 (hr1) 0 0 none 0 0 none 0 0
 obtain ⟨q0, q1, q2, q3⟩ := hq9
 refine bodyPost_ret (v := .tuple #[.agg #[.int .i64 0, .int .i64 0, .slice none 0 0, .slice none 0 0], .bool false]) (by simp [results, Tryz.results51, go_sem, q0, q1, q2, q3]) rfl ?_
 exact ⟨rfl, Zan hB2 (by omega) _ _ _ _ _ _ _ _⟩
theorem ciIf_t (x y : Int) (Ag : Option Addr) (ng cg : Nat) (Ao : Option Addr) (no co : Nat) (gs : List G3) (os : List Int) (w : World) (hg : RG w Ag ng gs) (ho : RI w Ao no os) (hng : ng ≤ 2097152) (hno : no ≤ 2097152) (hv : circB x y gs os = true) :
 Calls Tryz.prog 51 #[.agg #[.int .i64 x, .int .i64 y, .slice Ag ng cg, .slice Ao no co]] w fun e w' => e = .returned (.tuple #[.agg #[.int .i64 x, .int .i64 y, .slice Ag ng cg, .slice Ao no co], .bool true]) ∧ Below w.heap.size w w' := by
 have H0 := zH hv; clear hv
 have hB1 : Below w.heap.size w (w.alloc (.cells #[.int .i64 x, .int .i64 y, .slice Ag ng cg, .slice Ao no co] 27)) := bA
 have hB : Below w.heap.size w ((w.alloc (.cells #[.int .i64 x, .int .i64 y, .slice Ag ng cg, .slice Ao no co] 27)).alloc (.cells #[.int .i64 0, .int .i64 0, .slice none 0 0, .slice none 0 0] 27)) := hB1.alloc (by simp) _
 have hx0 : BxC ((w.alloc (.cells #[.int .i64 x, .int .i64 y, .slice Ag ng cg, .slice Ao no co] 27)).alloc (.cells #[.int .i64 0, .int .i64 0, .slice none 0 0, .slice none 0 0] 27)) w.heap.size x y Ag ng cg Ao no co := (BxC.new w _).below (bA)
 have hr0 : BxC ((w.alloc (.cells #[.int .i64 x, .int .i64 y, .slice Ag ng cg, .slice Ao no co] 27)).alloc (.cells #[.int .i64 0, .int .i64 0, .slice none 0 0, .slice none 0 0] 27)) (w.heap.size + 1) 0 0 none 0 0 none 0 0 := by simpa using BxC.new (x := 0) (y := 0) (Ag := none) (ng := 0) (cg := 0) (Ao := none) (no := 0) (co := 0) (w.alloc (.cells #[.int .i64 x, .int .i64 y, .slice Ag ng cg, .slice Ao no co] 27)) 27
 have f0 : Fz ((w.alloc (.cells #[.int .i64 x, .int .i64 y, .slice Ag ng cg, .slice Ao no co] 27)).alloc (.cells #[.int .i64 0, .int .i64 0, .slice none 0 0, .slice none 0 0] 27)) (w.heap.size + 1) := by simpa using Fz.new (w.alloc (.cells #[.int .i64 x, .int .i64 y, .slice Ag ng cg, .slice Ao no co] 27)) #[.int .i64 0, .int .i64 0, .slice none 0 0, .slice none 0 0] 27
 go_enter Tryz.func51, Tryz.ntmps51
 have hq := hx0; obtain ⟨k0, k1, k2, k3⟩ := hq
 go_wp2_with fail
 refine (Zap x y Ag ng cg Ao no co gs os _ (hg.below hB lR) (ho.below hB lR) hng hno).mono ?_
 rintro e v1 ⟨rfl, hb1⟩
 rw [H0.out]
 have hx1 := hx0.below hb1
 clear k0 k1 k2 k3
 obtain ⟨k0, k1, k2, k3⟩ := hx1
 have hr1 := hr0.below hb1
 have f1 := f0.below hb1 (by simp)
 have hq := hr1; obtain ⟨r0, r1, r2, r3⟩ := hq
 have g0 := f1 0; have g1 := f1 1; have g2 := f1 2; have g3 := f1 3
 have hB2 := hB.trans (hb1.mono hB.size)
 go_wp2
 have hq9 := BxC.set4 (hr1) x y Ag ng cg Ao no co
 obtain ⟨q0, q1, q2, q3⟩ := hq9
 refine bodyPost_ret (v := .tuple #[.agg #[.int .i64 x, .int .i64 y, .slice Ag ng cg, .slice Ao no co], .bool true]) (by simp [results, Tryz.results51, go_sem, q0, q1, q2, q3]) rfl ?_
 exact ⟨rfl, Zan hB2 (by omega) _ _ _ _ _ _ _ _⟩
def BxG (w : World) (b : Nat) (k a c : Int) : Prop := w.cell? ⟨b, 0, none⟩ = some (.int .i64 k) ∧ w.cell? ⟨b, 1, none⟩ = some (.int .i64 a) ∧ w.cell? ⟨b, 2, none⟩ = some (.int .i64 c)
section
variable {w w' : World} {b : Nat} {k a c : Int}
theorem BxG.new (w : World) (T : TypeId) : BxG (w.alloc (.cells #[.int .i64 k, .int .i64 a, .int .i64 c] T)) w.heap.size k a c := ⟨Zal w _ 0 _ rfl, Zal w _ 1 _ rfl, Zal w _ 2 _ rfl⟩
theorem BxG.below (h : BxG w b k a c) (hb : Below w.heap.size w w') : BxG w' b k a c := ⟨Zct h.1 hb, Zct h.2.1 hb, Zct h.2.2 hb⟩
theorem BxG.setA (h : BxG w b k a c) (v : Int) : BxG (w.setCell ⟨b, 1, none⟩ (.int .i64 v)) b k v c := ⟨(World.cell?_setCell_other _ _ _ _ (by simp)).trans h.1, World.cell?_setCell_same _ _ _ h.2.1, (World.cell?_setCell_other _ _ _ _ (by simp)).trans h.2.2⟩
theorem BxG.setB (h : BxG w b k a c) (v : Int) : BxG (w.setCell ⟨b, 2, none⟩ (.int .i64 v)) b k a v := ⟨(World.cell?_setCell_other _ _ _ _ (by simp)).trans h.1, (World.cell?_setCell_other _ _ _ _ (by simp)).trans h.2.1, World.cell?_setCell_same _ _ _ h.2.2⟩
theorem BxG.far (h : BxG w b k a c) (q : Addr) (v : Value) (hq : q.block ≠ b) : BxG (w.setCell q v) b k a c := by
 have hc : ∀ {r : Nat} {u : Value}, w.cell? ⟨b, r, none⟩ = some u → (w.setCell q v).cell? ⟨b, r, none⟩ = some u := fun {r u} hu => (World.cell?_setCell_other _ _ _ _ (fun he => hq (by rw [he]))).trans hu
 exact ⟨hc h.1, hc h.2.1, hc h.2.2⟩
theorem BxG.set3 {k0 a0 c0 : Int} (h : BxG w b k0 a0 c0) (k a c : Int) : BxG (((w.setCell ⟨b, 0, none⟩ (.int .i64 k)).setCell ⟨b, 1, none⟩ (.int .i64 a)).setCell ⟨b, 2, none⟩ (.int .i64 c)) b k a c := by
 have h1 : BxG (w.setCell ⟨b, 0, none⟩ (.int .i64 k)) b k a0 c0 := ⟨World.cell?_setCell_same _ _ _ h.1, (World.cell?_setCell_other _ _ _ _ (by simp)).trans h.2.1, (World.cell?_setCell_other _ _ _ _ (by simp)).trans h.2.2⟩
 exact (h1.setA a).setB c
theorem below_set3 {B : Nat} {a' : World} (h : Below B a' w) (hB : B ≤ b) (k a c : Int) : Below B a' (((w.setCell ⟨b, 0, none⟩ (.int .i64 k)).setCell ⟨b, 1, none⟩ (.int .i64 a)).setCell ⟨b, 2, none⟩ (.int .i64 c)) :=
 ((h.setCell (p := ⟨b, 0, none⟩) hB _).setCell (p := ⟨b, 1, none⟩) hB _).setCell (p := ⟨b, 2, none⟩) hB _
end
set_option maxRecDepth 100000 in
set_option maxHeartbeats 1600000 in
theorem moved_any (f : FuncId) (hcf : ∀ args w, Sem.run Tryz.prog (callFunc f args) w = .ok (.enter f args) w) (cap : Array Value) (tq : Int → Int) (g : G3) (n : Int) (w : World) (hg : GateIs g n)
 (hf : Hid (∀ z, 0 ≤ z → z < n → ∀ w1, Below w.heap.size w w1 → Calls Tryz.prog f (#[.int .i64 z] ++ cap) w1 fun e w' => e = .returned (.int .i64 (tq z)) ∧ Below w1.heap.size w1 w')) :
 Calls Tryz.prog 78 #[.agg #[.int .i64 g.k, .int .i64 g.a, .int .i64 g.b], .func (.func f) #[] cap] w fun e w' => e = .returned (.agg #[.int .i64 (mvG tq g).k, .int .i64 (mvG tq g).a, .int .i64 (mvG tq g).b]) ∧ Below w.heap.size w w' := by
 obtain ⟨gk, ga, gb⟩ := g
 have hB1 : Below w.heap.size w (w.alloc (.cells #[.int .i64 gk, .int .i64 ga, .int .i64 gb] 49)) := bA
 have hB : Below w.heap.size w ((w.alloc (.cells #[.int .i64 gk, .int .i64 ga, .int .i64 gb] 49)).alloc (.cells #[.int .i64 0, .int .i64 0, .int .i64 0] 49)) := hB1.alloc (by simp) _
 have hx0 : BxG ((w.alloc (.cells #[.int .i64 gk, .int .i64 ga, .int .i64 gb] 49)).alloc (.cells #[.int .i64 0, .int .i64 0, .int .i64 0] 49)) w.heap.size gk ga gb := (BxG.new w _).below (bA)
 have hr0 : BxG ((w.alloc (.cells #[.int .i64 gk, .int .i64 ga, .int .i64 gb] 49)).alloc (.cells #[.int .i64 0, .int .i64 0, .int .i64 0] 49)) (w.heap.size + 1) 0 0 0 := by simpa using BxG.new (k := 0) (a := 0) (c := 0) (w.alloc (.cells #[.int .i64 gk, .int .i64 ga, .int .i64 gb] 49)) 49
 have f0 : Fz ((w.alloc (.cells #[.int .i64 gk, .int .i64 ga, .int .i64 gb] 49)).alloc (.cells #[.int .i64 0, .int .i64 0, .int .i64 0] 49)) (w.heap.size + 1) := by simpa using Fz.new (w.alloc (.cells #[.int .i64 gk, .int .i64 ga, .int .i64 gb] 49)) #[.int .i64 0, .int .i64 0, .int .i64 0] 49
 have e0 : Fz ((w.alloc (.cells #[.int .i64 gk, .int .i64 ga, .int .i64 gb] 49)).alloc (.cells #[.int .i64 0, .int .i64 0, .int .i64 0] 49)) w.heap.size := (Fz.new w _ _).below (bA) (by simp)
 cases hg with
 | not_ hk a0 a1 b0 =>
  dsimp only at hk a0 a1 b0
  subst hk
  subst b0
  have hR : Hid (mvG tq ⟨2, ga, 0⟩ = ⟨2, tq ga, 0⟩) := zH (by simp [mvG])
  have hfa := zH (hf.out ga a0 a1)
  go_enter Tryz.func78, Tryz.ntmps78
  have hq := hx0; obtain ⟨k0, k1, k2⟩ := hq
  go_wp2_with fail
  refine (hfa.out _ hB).mono ?_
  rintro e v1 ⟨rfl, hb1⟩
  have hx1 := hx0.below hb1
  have hr1 := hr0.below hb1
  have f1 := f0.below hb1 (by simp)
  have e1 := e0.below hb1 (by simp; omega)
  have hB2 := hB.trans (hb1.mono hB.size)
  have hz1 := hb1.size
  simp only [World.size_alloc] at hz1
  have hB3 := hB2.setCell (p := ⟨w.heap.size, 1, none⟩) (by show w.heap.size ≤ w.heap.size; omega) (.int .i64 (tq ga))
  have hx2 := hx1.setA (tq ga)
  have hr2 := hr1.far ⟨w.heap.size, 1, none⟩ (.int .i64 (tq ga)) (by simp)
  clear k0 k1 k2
  obtain ⟨k0, k1, k2⟩ := hx1
  obtain ⟨m0, m1, m2⟩ := hx2
  have hq := hr1; obtain ⟨r0, r1, r2⟩ := hq
  have hq := hr2; obtain ⟨s0, s1, s2⟩ := hq
  have g0 := f1 0; have g1 := f1 1; have g2 := f1 2; have g3 := e1 1
  go_wp2
  have hq9 := hr2.set3 2 (tq ga) 0
  obtain ⟨q0, q1, q2⟩ := hq9
  refine bodyPost_ret (v := .agg #[.int .i64 2, .int .i64 (tq ga), .int .i64 0]) (by simp [results, Tryz.results78, go_sem, q0, q1, q2]) rfl ?_
  exact ⟨by rw [hR.out], below_set3 hB3 (by omega) _ _ _⟩
 | one_ hk a0 b0 =>
  dsimp only at hk a0 b0
  subst hk
  subst a0
  subst b0
  have hR : Hid (mvG tq ⟨3, 0, 0⟩ = ⟨3, 0, 0⟩) := zH (by simp [mvG])
  go_enter Tryz.func78, Tryz.ntmps78
  have hq := hx0; obtain ⟨k0, k1, k2⟩ := hq
  have hq := hr0; obtain ⟨r0, r1, r2⟩ := hq
  have g0 := f0 0; have g1 := f0 1; have g2 := f0 2
  go_wp2
  refine bodyPost_ret (v := .agg #[.int .i64 3, .int .i64 0, .int .i64 0]) (by simp [results, Tryz.results78, go_sem]) rfl ?_
  exact ⟨by rw [hR.out], hB1.alloc (by simp) _⟩
 | xor_ hk a0 a1 b0 b1 =>
  dsimp only at hk a0 a1 b0 b1
  subst hk
  have hR : Hid (mvG tq ⟨0, ga, gb⟩ = ⟨0, tq ga, tq gb⟩) := zH (by simp [mvG])
  have hfa := zH (hf.out ga a0 a1)
  have hfb := zH (hf.out gb b0 b1)
  have hbd := Zas hB 1
  have hbw := Zas (Below.refl ((w.alloc (.cells #[.int .i64 0, .int .i64 ga, .int .i64 gb] 49)).alloc (.cells #[.int .i64 0, .int .i64 0, .int .i64 0] 49)).heap.size ((w.alloc (.cells #[.int .i64 0, .int .i64 ga, .int .i64 gb] 49)).alloc (.cells #[.int .i64 0, .int .i64 0, .int .i64 0] 49))) 1
  go_enter Tryz.func78, Tryz.ntmps78
  have hq := hx0; obtain ⟨k0, k1, k2⟩ := hq
  go_wp2_with fail
  go_region_law (first | (go_simp; refine (hfa.out _ hbd).mono ?_; rintro e v1 ⟨rfl, hb1⟩; have hx1 := hx0.below (hbw.trans (hb1.mono lR)); have hq1 := hx1; obtain ⟨m0, m1, m2⟩ := hq1) | (go_simp; refine (hfb.out _ (hbd.trans (hb1.mono hbd.size))).mono ?_; rintro e v2 ⟨rfl, hb2⟩; have hB2 := (hbd.trans (hb1.mono hbd.size)).trans (hb2.mono (Nat.le_trans hbd.size hb1.size)); have hbv := (hbw.trans (hb1.mono lR)).trans (hb2.mono hb1.size); have hx2 := hx0.below hbv; have hq2 := hx2; obtain ⟨n0, n1, n2⟩ := hq2; have e2 := e0.below hbv (by simp; omega); have e21 := e2 1; have e22 := e2 2))
  all_goals
   have hz2 := hB2.size
   have hB3 := (hB2.setCell (p := ⟨w.heap.size, 1, none⟩) (by show w.heap.size ≤ w.heap.size; omega) (.int .i64 (tq ga))).setCell (p := ⟨w.heap.size, 2, none⟩) (by show w.heap.size ≤ w.heap.size; omega) (.int .i64 (tq gb))
   have hx3 := (hx2.setA (tq ga)).setB (tq gb)
   have hr2 := ((hr0.below hbv).far ⟨w.heap.size, 1, none⟩ (.int .i64 (tq ga)) (by simp)).far ⟨w.heap.size, 2, none⟩ (.int .i64 (tq gb)) (by simp)
   have f2 := f0.below hbv (by simp)
   obtain ⟨p0, p1, p2⟩ := hx3
   have hq := hr2; obtain ⟨s0, s1, s2⟩ := hq
   have g0 := f2 0; have g1 := f2 1; have g2 := f2 2
   go_wp2
   have hq9 := hr2.set3 0 (tq ga) (tq gb)
   obtain ⟨q0, q1, q2⟩ := hq9
   refine bodyPost_ret (v := .agg #[.int .i64 0, .int .i64 (tq ga), .int .i64 (tq gb)]) (by simp [results, Tryz.results78, go_sem, q0, q1, q2]) rfl ?_
   exact ⟨by rw [hR.out], below_set3 hB3 (by omega) _ _ _⟩
 | and_ hk a0 a1 b0 b1 =>
  dsimp only at hk a0 a1 b0 b1
  subst hk
  have hR : Hid (mvG tq ⟨1, ga, gb⟩ = ⟨1, tq ga, tq gb⟩) := zH (by simp [mvG])
  have hfa := zH (hf.out ga a0 a1)
  have hfb := zH (hf.out gb b0 b1)
  have hbd := Zas hB 1
  have hbw := Zas (Below.refl ((w.alloc (.cells #[.int .i64 1, .int .i64 ga, .int .i64 gb] 49)).alloc (.cells #[.int .i64 0, .int .i64 0, .int .i64 0] 49)).heap.size ((w.alloc (.cells #[.int .i64 1, .int .i64 ga, .int .i64 gb] 49)).alloc (.cells #[.int .i64 0, .int .i64 0, .int .i64 0] 49))) 1
  go_enter Tryz.func78, Tryz.ntmps78
  have hq := hx0; obtain ⟨k0, k1, k2⟩ := hq
  go_wp2_with fail
  go_region_law (first | (go_simp; refine (hfa.out _ hbd).mono ?_; rintro e v1 ⟨rfl, hb1⟩; have hx1 := hx0.below (hbw.trans (hb1.mono lR)); have hq1 := hx1; obtain ⟨m0, m1, m2⟩ := hq1) | (go_simp; refine (hfb.out _ (hbd.trans (hb1.mono hbd.size))).mono ?_; rintro e v2 ⟨rfl, hb2⟩; have hB2 := (hbd.trans (hb1.mono hbd.size)).trans (hb2.mono (Nat.le_trans hbd.size hb1.size)); have hbv := (hbw.trans (hb1.mono lR)).trans (hb2.mono hb1.size); have hx2 := hx0.below hbv; have hq2 := hx2; obtain ⟨n0, n1, n2⟩ := hq2; have e2 := e0.below hbv (by simp; omega); have e21 := e2 1; have e22 := e2 2))
  all_goals
   have hz2 := hB2.size
   have hB3 := (hB2.setCell (p := ⟨w.heap.size, 1, none⟩) (by show w.heap.size ≤ w.heap.size; omega) (.int .i64 (tq ga))).setCell (p := ⟨w.heap.size, 2, none⟩) (by show w.heap.size ≤ w.heap.size; omega) (.int .i64 (tq gb))
   have hx3 := (hx2.setA (tq ga)).setB (tq gb)
   have hr2 := ((hr0.below hbv).far ⟨w.heap.size, 1, none⟩ (.int .i64 (tq ga)) (by simp)).far ⟨w.heap.size, 2, none⟩ (.int .i64 (tq gb)) (by simp)
   have f2 := f0.below hbv (by simp)
   obtain ⟨p0, p1, p2⟩ := hx3
   have hq := hr2; obtain ⟨s0, s1, s2⟩ := hq
   have g0 := f2 0; have g1 := f2 1; have g2 := f2 2
   go_wp2
   have hq9 := hr2.set3 1 (tq ga) (tq gb)
   obtain ⟨q0, q1, q2⟩ := hq9
   refine bodyPost_ret (v := .agg #[.int .i64 1, .int .i64 (tq ga), .int .i64 (tq gb)]) (by simp [results, Tryz.results78, go_sem, q0, q1, q2]) rfl ?_
   exact ⟨by rw [hR.out], below_set3 hB3 (by omega) _ _ _⟩
end Go.Proofs.YtnhmfedegfcflaaGreatDoor
