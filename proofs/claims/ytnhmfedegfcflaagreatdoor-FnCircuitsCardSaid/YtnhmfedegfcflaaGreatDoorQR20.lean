/- Outs picked among moved wires, in plain words. No condition. -/
import Derived.Test.YtnhmfedegfcflaaGreatDoorQR19
namespace Go.Proofs.YtnhmfedegfcflaaGreatDoor
open Go.RowKit
set_option linter.unusedVariables false
set_option linter.unusedSimpArgs false
def truthF (x y : Int) (gs : List G3) (os : List Int) : Option (List Int) :=
 if smallB x y gs os 16 then some (tab (2 ^ (x + y).toNat) fun n => numN (outsN gs os (x + y).toNat n)) else none
theorem truthF_len (x y : Int) (gs : List G3) (os : List Int) : ((truthF x y gs os).getD []).length ≤ 1024 := by
 unfold truthF
 split
 ·rename_i h
  obtain ⟨h1, h2, h3⟩ := smallB_bd h
  simp only [Option.getD_some, Zbz]
  exact two_pow_small (by omega)
 ·simp
set_option maxRecDepth 100000 in
set_option maxHeartbeats 1600000 in
theorem Zcj (x y : Int) (Ag : Option Addr) (ng cg : Nat) (Ao : Option Addr) (no co : Nat) (gs : List G3) (os : List Int) (w : World) (hr : RG w Ag ng gs ∧ RI w Ao no os) (hng : ng ≤ 2097152) (hno : no ≤ 2097152) :
 Calls Tryz.prog 17 #[.agg #[.int .i64 x, .int .i64 y, .slice Ag ng cg, .slice Ao no co]] w (RetO w (truthF x y gs os)) := by
 have hB : Below w.heap.size w (w.alloc (.cells #[.int .i64 x, .int .i64 y, .slice Ag ng cg, .slice Ao no co] 27)) := bA
 have hlg := hr.1.len
 have hlo := hr.2.len
 cases h0 : circB x y gs os with
 | false =>
  have HR : Hid (truthF x y gs os = none) := zH (by simp [truthF, smallB, h0])
  have H0 := zH h0; clear h0
  go_enter Tryz.func17, Tryz.ntmps17
  go_wp2_with fail
  refine (Zah x y Ag ng cg Ao no co gs os _ (hr.1.below hB lR) (hr.2.below hB lR) hng hno).mono ?_
  rintro e v1 ⟨rfl, hb1⟩
  rw [H0.out]
  obtain ⟨hc1, hf1⟩ := bcell hb1
  have hz1 := hb1.size
  simp only [World.size_alloc] at hz1
  have hz1' : w.heap.size < v1.heap.size := by omega
  have hB1 := hB.trans (hb1.mono hB.size)
  go_wp2
  go_ret2
  exact RetO.none_ hB1 HR.out rfl
 | true =>
  obtain ⟨⟨b1, b2⟩, ⟨b3, b4⟩, b5, b6, b7, b8⟩ := Zao h0
  by_cases h2 : x + y ≤ 10
  rotate_left
  ·have HR : Hid (truthF x y gs os = none) := zH (by simp [truthF, smallB, h2])
   have H0 := zH h0; clear h0 b7 b8
   go_enter Tryz.func17, Tryz.ntmps17
   go_wp2_with fail
   refine (Zah x y Ag ng cg Ao no co gs os _ (hr.1.below hB lR) (hr.2.below hB lR) hng hno).mono ?_
   rintro e v1 ⟨rfl, hb1⟩
   rw [H0.out]
   obtain ⟨hc1, hf1⟩ := bcell hb1
   have hz1 := hb1.size
   simp only [World.size_alloc] at hz1
   have hz1' : w.heap.size < v1.heap.size := by omega
   have hB1 := hB.trans (hb1.mono hB.size)
   go_wp2_with fail
   refine (Zak x y Ag ng cg Ao no co _ (by omega) (by omega)).mono ?_
   rintro e v2 ⟨rfl, hb2⟩
   obtain ⟨hc2, hf2⟩ := bcell hb2
   have hz2 := hb2.size
   have hz2' : w.heap.size < v2.heap.size := by omega
   have hB2 := hB1.trans (hb2.mono hB1.size)
   go_wp2
   go_ret2
   exact RetO.none_ hB2 HR.out rfl
  by_cases h3 : no ≤ 16
  rotate_left
  ·have HR : Hid (truthF x y gs os = none) := zH (by simp [truthF, smallB, hlo, h3])
   have H0 := zH h0; clear h0 b7 b8
   go_enter Tryz.func17, Tryz.ntmps17
   go_wp2_with fail
   refine (Zah x y Ag ng cg Ao no co gs os _ (hr.1.below hB lR) (hr.2.below hB lR) hng hno).mono ?_
   rintro e v1 ⟨rfl, hb1⟩
   rw [H0.out]
   obtain ⟨hc1, hf1⟩ := bcell hb1
   have hz1 := hb1.size
   simp only [World.size_alloc] at hz1
   have hz1' : w.heap.size < v1.heap.size := by omega
   have hB1 := hB.trans (hb1.mono hB.size)
   go_wp2_with fail
   refine (Zak x y Ag ng cg Ao no co _ (by omega) (by omega)).mono ?_
   rintro e v2 ⟨rfl, hb2⟩
   obtain ⟨hc2, hf2⟩ := bcell hb2
   have hz2 := hb2.size
   have hz2' : w.heap.size < v2.heap.size := by omega
   have hB2 := hB1.trans (hb2.mono hB1.size)
   go_wp2
   go_ret2
   exact RetO.none_ hB2 HR.out rfl
  obtain ⟨X, hX⟩ : ∃ X : Nat, x + y = X := ⟨(x + y).toNat, by omega⟩
  have hXt : (x + y).toNat = X := by omega
  rw [hX] at b7 b8
  obtain ⟨N, hN⟩ : ∃ N, N = 2 ^ X := ⟨_, rfl⟩
  have HR : Hid (truthF x y gs os = some (tab N fun n => numN (outsN gs os X n))) := zH (by simp [truthF, smallB, h0, h2, hlo, h3, hXt, hN])
  have hX10 : X ≤ 10 := by omega
  have hgat := b7; have hos := b8
  have hng : ng ≤ 300 := by omega
  have hno : no ≤ 40 := by omega
  have hx : 0 ≤ x ∧ x ≤ 20 := ⟨b1, b2⟩
  have hy : 0 ≤ y ∧ y ≤ 20 := ⟨b3, b4⟩
  have H0 := zH h0; clear h0 b7 b8 b1 b2 b3 b4
  have hos' : allB 0 (((X + ng : Nat) : Int) - 1) os = true := by rw [show (((X + ng : Nat) : Int) - 1) = (X : Int) + gs.length - 1 from by omega]; exact hos
  have hob := zH fun n => outsN_bd hgat hos n
  have hvl := zH fun n => show (vals gs (bitsN n X) ng).length = X + ng from by rw [Zbm, Zby]
  have hon := zH fun n => show outsN gs os X n = pick (vals gs (bitsN n X) ng) os from by rw [outsN, hlg]
  rw [hlg] at hgat
  obtain ⟨hP, hsh⟩ := pow_wrap hN hX10
  clear hN hos
  go_enter Tryz.func17, Tryz.ntmps17
  go_wp2_with fail
  refine (Zah x y Ag ng cg Ao no co gs os _ (hr.1.below hB lR) (hr.2.below hB lR) (by omega) (by omega)).mono ?_
  rintro e v1 ⟨rfl, hb1⟩
  rw [H0.out]
  obtain ⟨hc1, hf1⟩ := bcell hb1
  have hz1 := hb1.size
  simp only [World.size_alloc] at hz1
  have hz1' : w.heap.size < v1.heap.size := by omega
  have hB1 := hB.trans (hb1.mono hB.size)
  go_wp2_with fail
  refine (Zak x y Ag ng cg Ao no co _ (by omega) (by omega)).mono ?_
  rintro e v2 ⟨rfl, hb2⟩
  obtain ⟨hc2, hf2⟩ := bcell hb2
  have hz2 := hb2.size
  have hz2' : w.heap.size < v2.heap.size := by omega
  have hB2 := hB1.trans (hb2.mono hB1.size)
  have hown0 := (Zcu v2 (w.heap.size + 1) (by omega))
  simp only [World.size_alloc] at hb1
  have hbA := (hb1.trans (hb2.mono (by omega))).alloc (by omega) (.cells #[] 3)
  have hBA := hB2.alloc (by omega) (.cells #[] 3)
  have hcx : x + y = (X : Int) := hX
  go_wp2_with fail
  refine (Zak x y Ag ng cg Ao no co _ hx hy).mono ?_
  rintro e v3 ⟨rfl, hb3⟩
  rw [hX]
  have hz3 := hb3.size
  simp only [World.size_alloc] at hz3
  have hown1 := (hown0.hi_ (hi' := v3.heap.size) (by omega)).below hb3 (.inl lR)
  have hbW := hbA.trans (hb3.mono (by simp; omega))
  have hst := And.intro hown1 hbW
  clear hown0 hbA hb1 hb2 hb3 hc1 hc2 hf1 hf2 hown1 hbW
  go_wp2_with fail
  rw [hsh]
  go_loopw [4, 25] (fun v i wr => ∃ (k : Nat) (A' : Option Addr) (c' : Nat), k ≤ N ∧ i = .int .i64 k ∧ v = .slice A' k c' ∧ Own wr (w.heap.size + 1) wr.heap.size (.slice A' k c') k (tab k fun n => numN (outsN gs os X n)) ∧ Below (w.heap.size + 1) (w.alloc (.cells #[.int .i64 x, .int .i64 y, .slice Ag ng cg, .slice Ao no co] 27)) wr) (fun _ i _ => N - (intOf i).toNat)
  case atStart => exact ⟨0, _, _, Nat.zero_le _, rfl, rfl, by simpa [tab] using hst.1, hst.2⟩
  case round =>
   clear hst hBA hz1 hz1' hz2 hz2' hz3 hB1 hB2 H0
   obtain ⟨k, A', c', hk, rfl, rfl, hown, hb⟩ := hrel
   have hbw : Below w.heap.size w wr := hB.trans (hb.mono (by omega))
   obtain ⟨k0, k1, k2, k3⟩ := box_at hb
   by_cases hlt : k < N
   ·have hsn : Hid (tab (k + 1) (fun n => numN (outsN gs os X n)) = tab k (fun n => numN (outsN gs os X n)) ++ [numN (outsN gs os X k)]) := zH (tab_snoc k _)
    have hbk := hob.out k
    have hOl := hlo ▸ outsN_len gs os X k
    obtain ⟨O, hO⟩ : ∃ O, Hid (outsN gs os X k = O) := ⟨_, rfl⟩
    have hPk : Hid (pick (vals gs (bitsN k X) ng) os = O) := zH ((hon.out k).symm.trans hO.out)
    have hvk := hvl.out k
    obtain ⟨Z, hZ⟩ : ∃ Z, Hid (numN O = Z) := ⟨_, rfl⟩
    rw [hO.out] at hbk hOl hsn
    rw [hZ.out] at hsn
    have hz := hb.size
    simp only [World.size_alloc] at hz
    have hbd := Zas hbw 1
    have hfar := hown.from_
    go_wp2_with fail
    go_region_held3 (fun w' => w'.cell? ⟨w.heap.size, 0, none⟩ = some (.int .i64 x) ∧ w'.cell? ⟨w.heap.size, 1, none⟩ = some (.int .i64 y) ∧ w'.cell? ⟨w.heap.size, 2, none⟩ = some (.slice Ag ng cg) ∧ w'.cell? ⟨w.heap.size, 3, none⟩ = some (.slice Ao no co))
     (first | go_keep | (go_split_ands; exact ⟨hk5 _ _ _ (by assumption) (fun g9 hg9 he9 => by first | omega | (have := hfar _ hg9; omega) | (simp only [Option.some.injEq, Addr.mk.injEq, and_true] at hg9; omega)), hk5 _ _ _ (by assumption) (fun g9 hg9 he9 => by first | omega | (have := hfar _ hg9; omega) | (simp only [Option.some.injEq, Addr.mk.injEq, and_true] at hg9; omega)), hk5 _ _ _ (by assumption) (fun g9 hg9 he9 => by first | omega | (have := hfar _ hg9; omega) | (simp only [Option.some.injEq, Addr.mk.injEq, and_true] at hg9; omega)), hk5 _ _ _ (by assumption) (fun g9 hg9 he9 => by first | omega | (have := hfar _ hg9; omega) | (simp only [Option.some.injEq, Addr.mk.injEq, and_true] at hg9; omega))⟩) | (go_split_ands; exact ⟨Zae (by assumption) hb3, Zae (by assumption) hb3, Zae (by assumption) hb3, Zae (by assumption) hb3⟩) | (go_split_ands; exact ⟨Zae (by assumption) hb2, Zae (by assumption) hb2, Zae (by assumption) hb2, Zae (by assumption) hb2⟩) | (go_split_ands; exact ⟨Zae (by assumption) hb1, Zae (by assumption) hb1, Zae (by assumption) hb1, Zae (by assumption) hb1⟩) | (go_split_ands; exact ⟨Zae (by assumption) hb0, Zae (by assumption) hb0, Zae (by assumption) hb0, Zae (by assumption) hb0⟩))
     (first | (go_at_call 30; refine (Zak x y Ag ng cg Ao no co _ hx hy).mono ?_; rintro e W0 ⟨rfl, hb0⟩; rw [hX]; have hs0 : wr.heap.size ≤ W0.heap.size := hb0.size) | (go_at_call 54; refine (bitsOf_any k X _ (by omega) (by omega)).mono ?_; rintro e W1 hT; obtain ⟨A1, c1, rfl, ho1, hb1⟩ := hT.open_ (Zby _ _); have hs1 : W0.heap.size ≤ W1.heap.size := hb1.size) | (go_at_call 36; refine (Zch x y Ag ng cg Ao no co A1 X c1 gs (bitsN k X) _ (hr.1.below (hbd.trans ((bnext hb0 hb1).mono hbd.size)) lR) ho1.reads (bitsN_bd _ _) hgat (by omega) (by omega)).mono ?_; rintro e W2 hT; obtain ⟨A2, c2, rfl, ho2, hb2⟩ := hT.open_ hvk; have hs2 := hb2.size) | (go_at_call 24; refine (at_any A2 Ao (X + ng) c2 no co (vals gs (bitsN k X) ng) os _ ho2.reads (hr.2.below (hbd.trans ((bnext (bnext hb0 hb1) hb2).mono hbd.size)) lR) (by omega) (by omega) hos').mono ?_; rintro e W3 hT; rw [hPk.out] at hT; obtain ⟨A3, c3, rfl, ho3, hb3⟩ := hT.open_ hOl; have hs3 := hb3.size) | (go_at_call 53; refine (number_any A3 no c3 O _ ho3.reads (by omega) hbk).mono ?_; rintro e W4 ⟨he, rfl⟩; rw [hZ.out] at he; obtain rfl := he) | (refine step_appI _ (by rfl) _ _ (by rfl) (by rfl) ((hown.below (bnext (bnext (bnext (bnext (Zay 1) hb0) hb1) hb2) hb3) (.inl lR)).alloc _) (by rfl) (Zbj _ _ _ _ (by simp)) (by omega) oM ?_; intro A5 c5 w5 hown5 hg5 hat5 hk5))
    have hb5 := below_chain_app hb hz (bnext (bnext (bnext (bnext (Zay 1) hb0) hb1) hb2) hb3) ((hown.below (bnext (bnext (bnext (bnext (Zay 1) hb0) hb1) hb2) hb3) (.inl lR)).alloc _) hg5 lR
    rw [← hsn.out] at hown5
    clear hown hb hb0 hb1 hb2 hb3 hg5 hk5 hat5 hbk hPk
    go_wp2
    go_roundw
    case rel => exact ⟨k + 1, _, _, by omega, by go_num, rfl, hown5, hb5⟩
    case measure => simp [intOf]; omega
   ·obtain rfl : N = k := by omega
    go_wp2
    go_ret2
    exact RetO.some_ hbw HR.out (Zbz _ _) rfl (hown.lo_ (by omega))
set_option maxHeartbeats 800000 in
theorem ciSmall_any (x y : Int) (Ag : Option Addr) (ng cg : Nat) (Ao : Option Addr) (no co : Nat) (gs : List G3) (os : List Int) (w : World) (hr : RG w Ag ng gs ∧ RI w Ao no os) (hng : ng ≤ 2097152) (hno : no ≤ 2097152) :
 Calls Tryz.prog 55 #[.agg #[.int .i64 x, .int .i64 y, .slice Ag ng cg, .slice Ao no co]] w fun e w' => e = .returned (.bool (smallB x y gs os 16)) ∧ Below w.heap.size w w' := by
 have hB : Below w.heap.size w (w.alloc (.cells #[.int .i64 x, .int .i64 y, .slice Ag ng cg, .slice Ao no co] 27)) := bA
 have hlg := hr.1.len
 have hlo := hr.2.len
 cases h0 : circB x y gs os with
 | false =>
  have HR : Hid (smallB x y gs os 16 = false) := zH (by simp [smallB, h0])
  have H0 := zH h0; clear h0
  go_enter Tryz.func55, Tryz.ntmps55
  go_wp2_with fail
  refine (Zap x y Ag ng cg Ao no co gs os _ (hr.1.below hB lR) (hr.2.below hB lR) hng hno).mono ?_
  rintro e v1 ⟨rfl, hb1⟩
  rw [H0.out]
  obtain ⟨hc1, hf1⟩ := bcell hb1
  have hz1 := hb1.size
  simp only [World.size_alloc] at hz1
  have hz1' : w.heap.size < v1.heap.size := by omega
  have hB1 := hB.trans (hb1.mono hB.size)
  go_wp2
  go_ret
  exact ⟨by rw [HR.out]; rfl, hB1⟩
 | true =>
  obtain ⟨⟨b1, b2⟩, ⟨b3, b4⟩, b5, b6, b7, b8⟩ := Zao h0
  by_cases h2 : x + y ≤ 10
  rotate_left
  ·have HR : Hid (smallB x y gs os 16 = false) := zH (by simp [smallB, h2])
   have H0 := zH h0; clear h0 b7 b8
   go_enter Tryz.func55, Tryz.ntmps55
   go_wp2_with fail
   refine (Zap x y Ag ng cg Ao no co gs os _ (hr.1.below hB lR) (hr.2.below hB lR) hng hno).mono ?_
   rintro e v1 ⟨rfl, hb1⟩
   rw [H0.out]
   obtain ⟨hc1, hf1⟩ := bcell hb1
   have hz1 := hb1.size
   simp only [World.size_alloc] at hz1
   have hz1' : w.heap.size < v1.heap.size := by omega
   have hB1 := hB.trans (hb1.mono hB.size)
   go_wp2_with fail
   refine (Zbe x y Ag ng cg Ao no co _ (by omega) (by omega)).mono ?_
   rintro e v2 ⟨rfl, hb2⟩
   obtain ⟨hc2, hf2⟩ := bcell hb2
   have hz2 := hb2.size
   have hz2' : w.heap.size < v2.heap.size := by omega
   have hB2 := hB1.trans (hb2.mono hB1.size)
   go_wp2
   go_ret
   exact ⟨by rw [HR.out]; rfl, hB2⟩
  have HR : Hid (smallB x y gs os 16 = decide (no ≤ 16)) := zH (by simp [smallB, h0, h2, hlo])
  have H0 := zH h0; clear h0 b7 b8
  go_enter Tryz.func55, Tryz.ntmps55
  go_wp2_with fail
  refine (Zap x y Ag ng cg Ao no co gs os _ (hr.1.below hB lR) (hr.2.below hB lR) hng hno).mono ?_
  rintro e v1 ⟨rfl, hb1⟩
  rw [H0.out]
  obtain ⟨hc1, hf1⟩ := bcell hb1
  have hz1 := hb1.size
  simp only [World.size_alloc] at hz1
  have hz1' : w.heap.size < v1.heap.size := by omega
  have hB1 := hB.trans (hb1.mono hB.size)
  go_wp2_with fail
  refine (Zbe x y Ag ng cg Ao no co _ (by omega) (by omega)).mono ?_
  rintro e v2 ⟨rfl, hb2⟩
  obtain ⟨hc2, hf2⟩ := bcell hb2
  have hz2 := hb2.size
  have hz2' : w.heap.size < v2.heap.size := by omega
  have hB2 := hB1.trans (hb2.mono hB1.size)
  go_wp2
  go_ret
  exact ⟨by rw [HR.out]; simp; omega, hB2⟩
set_option maxHeartbeats 800000 in
theorem Zcd (x y : Int) (Ag : Option Addr) (ng cg : Nat) (Ao : Option Addr) (no co : Nat) (gs : List G3) (os : List Int) (w : World) (hr : RG w Ag ng gs ∧ RI w Ao no os) (hng : ng ≤ 2097152) (hno : no ≤ 2097152) :
 Calls Tryz.prog 18 #[.agg #[.int .i64 x, .int .i64 y, .slice Ag ng cg, .slice Ao no co]] w (RetO w (truthF x y gs os)) := by
 have hB : Below w.heap.size w (w.alloc (.cells #[.int .i64 x, .int .i64 y, .slice Ag ng cg, .slice Ao no co] 27)) := bA
 have hlg := hr.1.len
 have hlo := hr.2.len
 cases h0 : smallB x y gs os 16 with
 | false =>
  have HR : Hid (truthF x y gs os = none) := zH (by simp [truthF, h0])
  have H0 := zH h0; clear h0
  go_enter Tryz.func18, Tryz.ntmps18
  go_wp2_with fail
  refine (ciSmall_any x y Ag ng cg Ao no co gs os _ ⟨hr.1.below hB lR, hr.2.below hB lR⟩ hng hno).mono ?_
  rintro e v1 ⟨rfl, hb1⟩
  rw [H0.out]
  obtain ⟨hc1, hf1⟩ := bcell hb1
  have hz1 := hb1.size
  simp only [World.size_alloc] at hz1
  have hz1' : w.heap.size < v1.heap.size := by omega
  have hB1 := hB.trans (hb1.mono hB.size)
  go_wp2
  go_ret2
  exact RetO.none_ hB1 HR.out rfl
 | true =>
  obtain ⟨h1, h2, h3⟩ := smallB_bd h0
  obtain ⟨⟨b1, b2⟩, ⟨b3, b4⟩, b5, b6, b7, b8⟩ := Zao h1
  obtain ⟨X, hX⟩ : ∃ X : Nat, x + y = X := ⟨(x + y).toNat, by omega⟩
  have hXt : (x + y).toNat = X := by omega
  rw [hX] at b7 b8
  obtain ⟨N, hN⟩ : ∃ N, N = 2 ^ X := ⟨_, rfl⟩
  have hP := (pow_wrap hN (by omega)).1
  have HR : Hid (truthF x y gs os = some (tab N fun n => numN (outsN gs os X n))) := zH (by simp [truthF, h0, hXt, hN])
  have HN := zH hN; clear hN
  have H0 := zH h0; have H7 := zH b7; have H8 := zH b8; clear h0 h1 b7 b8
  go_enter Tryz.func18, Tryz.ntmps18
  go_wp2_with fail
  refine (ciSmall_any x y Ag ng cg Ao no co gs os _ ⟨hr.1.below hB lR, hr.2.below hB lR⟩ hng hno).mono ?_
  rintro e v1 ⟨rfl, hb1⟩
  rw [H0.out]
  obtain ⟨hc1, hf1⟩ := bcell hb1
  have hz1 := hb1.size
  simp only [World.size_alloc] at hz1
  have hz1' : w.heap.size < v1.heap.size := by omega
  have hB1 := hB.trans (hb1.mono hB.size)
  go_wp2_with fail
  refine (ciTable_any x y Ag ng cg Ao no co gs os X N _ ⟨hr.1.below hB1 lR, hr.2.below hB1 lR⟩ (by omega) (by omega) hX (by omega) HN.out H7.out H8.out (by omega) (by omega)).mono ?_
  rintro e v3 hT
  obtain ⟨At, ct, rfl, hownT, hb3⟩ := hT.open_ (Zbz _ _)
  go_wp2
  go_ret2
  exact RetO.some_ (hB1.trans (hb3.mono hB1.size)) HR.out (Zbz _ _) rfl (hownT.lo_ hB1.size)
theorem bitsN_consS (n k : Nat) : bitsN n (k + 1) = ((n % 2 : Nat) : Int) :: bitsN (n / 2) k := by
 unfold bitsN tab
 rw [List.range_succ_eq_map, List.map_cons, List.map_map]
 congr 1
 ·simp
 ·refine List.map_congr_left fun i _ => ?_
  show ((n / 2 ^ (i + 1) % 2 : Nat) : Int) = ((n / 2 / 2 ^ i % 2 : Nat) : Int)
  rw [Nat.div_div_eq_div_mul, Nat.pow_succ, Nat.mul_comm]
theorem bitsN_numS {xs : List Int} (h : allB 0 1 xs = true) : bitsN (numN xs).toNat xs.length = xs := by
 induction xs with
 | nil => rfl
 | cons b l ih =>
  have h1 := allB_iff.1 h
  have hb := h1 b (by simp)
  have hl : allB 0 1 l = true := allB_iff.2 fun z hz => h1 z (by simp [hz])
  have hn := (numN_bd hl).1
  rw [List.length_cons, bitsN_consS, numN]
  have e1 : (b + 2 * numN l).toNat / 2 = (numN l).toNat := by omega
  rw [e1, ih hl]
  congr 1
  omega
theorem gg_mvs {f : Int → Int} {hs : List G3} {j : Nat} (h : j < hs.length) : gg (mvs f hs hs.length) j = mvG f (gg hs j) := by
 unfold mvs gg
 rw [List.take_of_length_le lR]
 simp [List.getD_eq_getElem?_getD, h]
theorem gg_app_r {gs ks : List G3} {j : Nat} : gg (gs ++ ks) (gs.length + j) = gg ks j := by
 unfold gg
 rw [List.getD_eq_getElem?_getD, List.getD_eq_getElem?_getD, List.getElem?_append_right (by omega), Nat.add_sub_cancel_left]
theorem then_wires {X M : Nat} {gs hs : List G3} {os inp : List Int} (hX : inp.length = X) (hg : gatesB X gs gs.length = true) (ho : allB 0 (((X + gs.length : Nat) : Int) - 1) os = true) (hM : os.length = M) (hh : gatesB M hs hs.length = true) :
 ∀ k, k ≤ hs.length → ∀ z : Int, 0 ≤ z → z < (M : Int) + k →
  gi (vals (gs ++ mvs (wmap os ((X : Int) + gs.length)) hs hs.length) inp (gs.length + k)) (wmap os ((X : Int) + gs.length) z).toNat = gi (vals hs (pick (vals gs inp gs.length) os) k) z.toNat := by
 have hlen : (pick (vals gs inp gs.length) os).length = M := by rw [Zbs, hM]
 have hv0 : vals (gs ++ mvs (wmap os ((X : Int) + gs.length)) hs hs.length) inp gs.length = vals gs inp gs.length := vals_gsG _ (fun j hj => ggA_l hj)
 have hlow : ∀ z : Int, 0 ≤ z → z < M → 0 ≤ wmap os ((X : Int) + gs.length) z ∧ wmap os ((X : Int) + gs.length) z < (X : Int) + gs.length := fun z h0 h1 => by
  unfold wmap
  rw [if_pos (by omega)]
  have := Zbv ho (j := z.toNat) (by omega)
  omega
 intro k
 induction k with
 | zero =>
  intro _ z h0 h1
  have h1 : z < (M : Int) := by omega
  rw [Nat.add_zero, hv0]
  show _ = gi (pick (vals gs inp gs.length) os) z.toNat
  unfold pick
  rw [gi_map (by omega)]
  unfold wmap
  rw [if_pos (by omega)]
 | succ k ih =>
  intro hk z h0 h1
  have hi := ih (by omega)
  have hgk : GateIs (gg hs k) (M + k) := Zbx hh (by omega)
  rw [← Nat.add_assoc, Zcc, Zcc, gg_app_r, gg_mvs (by omega)]
  have hvl : (vals (gs ++ mvs (wmap os ((X : Int) + gs.length)) hs hs.length) inp (gs.length + k)).length = X + gs.length + k := by rw [Zbm, hX]; omega
  have hwl : (vals hs (pick (vals gs inp gs.length) os) k).length = M + k := by rw [Zbm, hlen]
  rcases (show z < (M : Int) + k ∨ (M : Int) + k ≤ z by omega) with h2 | h2
  ·have hb : (wmap os ((X : Int) + gs.length) z).toNat < X + gs.length + k := by
    rcases (show z < (M : Int) ∨ (M : Int) ≤ z by omega) with h3 | h3
    ·have := hlow z h0 h3; omega
    ·unfold wmap; rw [if_neg (by omega)]; omega
   rw [gi_append_lt (by omega), gi_append_lt (by omega)]
   exact hi z h0 h2
  ·have hz : z = (M : Int) + k := by omega
   subst hz
   have e1 : (wmap os ((X : Int) + gs.length) ((M : Int) + k)).toNat = X + gs.length + k := by unfold wmap; rw [if_neg (by omega)]; omega
   rw [e1, gi_lastG hvl, show ((M : Int) + (k : Int)).toNat = M + k by omega, gi_lastG hwl]
   cases hgk with
   | xor_ hk0 a1 a2 b1 b2 =>
    have ha := hi _ a1 (by omega)
    have hb := hi _ b1 (by omega)
    have hm : mvG (wmap os ((X : Int) + gs.length)) (gg hs k) = ⟨(gg hs k).k, wmap os ((X : Int) + gs.length) (gg hs k).a, wmap os ((X : Int) + gs.length) (gg hs k).b⟩ := by unfold mvG; rw [if_pos (.inl hk0)]
    rw [hm]
    unfold gval
    simp only [hk0, if_true, ha, hb]
   | and_ hk0 a1 a2 b1 b2 =>
    have ha := hi _ a1 (by omega)
    have hb := hi _ b1 (by omega)
    have hm : mvG (wmap os ((X : Int) + gs.length)) (gg hs k) = ⟨(gg hs k).k, wmap os ((X : Int) + gs.length) (gg hs k).a, wmap os ((X : Int) + gs.length) (gg hs k).b⟩ := by unfold mvG; rw [if_pos (.inr hk0)]
    rw [hm]
    unfold gval
    simp only [hk0, show ¬ ((1 : Int) = 0) by decide, if_false, if_true, ha, hb]
   | not_ hk0 a1 a2 b0 =>
    have ha := hi _ a1 (by omega)
    have hm : mvG (wmap os ((X : Int) + gs.length)) (gg hs k) = ⟨(gg hs k).k, wmap os ((X : Int) + gs.length) (gg hs k).a, (gg hs k).b⟩ := by unfold mvG; rw [if_neg (by omega), if_pos hk0]
    rw [hm]
    unfold gval
    simp only [hk0, show ¬ ((2 : Int) = 0) by decide, show ¬ ((2 : Int) = 1) by decide, if_false, if_true, ha]
   | one_ hk0 a0 b0 =>
    have hm : mvG (wmap os ((X : Int) + gs.length)) (gg hs k) = gg hs k := by unfold mvG; rw [if_neg (by omega), if_neg (by omega)]
    rw [hm]
    unfold gval
    simp only [hk0, show ¬ ((3 : Int) = 0) by decide, show ¬ ((3 : Int) = 1) by decide, show ¬ ((3 : Int) = 2) by decide, if_false]
theorem then_law {x y : Int} {gs : List G3} {os : List Int} {u v : Int} {hs : List G3} {ps : List Int} {c : Ci} (h : thenF x y gs os u v hs ps = some c) :
 circB x y gs os = true ∧ circB u v hs ps = true ∧ c.i0 = x ∧ c.i1 = y ∧ circB c.i0 c.i1 c.gs c.os = true ∧ (os.length : Int) = u + v ∧
 ∀ X : Nat, (X : Int) = x + y → ∀ inp : List Int, inp.length = X → pick (vals c.gs inp c.gs.length) c.os = pick (vals hs (pick (vals gs inp gs.length) os) hs.length) ps := by
 unfold thenF at h
 split at h
 ·rename_i hc
  simp only [Bool.and_eq_true, decide_eq_true_eq] at hc
  obtain ⟨h1, h2, h3, h4⟩ := hc
  injection h with h
  subst h
  refine ⟨h1, h2, rfl, rfl, h4, h3, fun X hX inp hi => ?_⟩
  obtain ⟨_, _, _, _, hg1, ho1⟩ := Zao h1
  obtain ⟨hu, hv, _, _, hg2, ho2⟩ := Zao h2
  rw [← hX] at hg1 ho1 ⊢
  have hM : ((os.length : Nat) : Int) = u + v := h3
  rw [← hM] at hg2 ho2
  have e0 : (((X + gs.length : Nat) : Int) - 1) = (X : Int) + gs.length - 1 := by omega
  have key := then_wires (X := X) (M := os.length) (gs := gs) (hs := hs) (os := os) (inp := inp) hi hg1 (by rw [e0]; exact ho1) rfl hg2 hs.length lR
  dsimp only
  have hlen : (gs ++ mvs (wmap os ((X : Int) + gs.length)) hs hs.length).length = gs.length + hs.length := by rw [List.length_append, mvs_len _ lR]
  rw [hlen]
  unfold mvo
  rw [List.take_of_length_le lR]
  unfold pick
  rw [List.map_map]
  refine List.map_congr_left fun z hz => ?_
  have hb := allB_iff.1 ho2 z hz
  exact key z (by omega) (by omega)
 ·cases h
theorem then_table {x y : Int} {gs : List G3} {os : List Int} {u v : Int} {hs : List G3} {ps : List Int} {c : Ci} {xs ys zs : List Int} (h : thenF x y gs os u v hs ps = some c) (h1 : truthF x y gs os = some xs) (h2 : truthF u v hs ps = some ys) (h3 : truthF c.i0 c.i1 c.gs c.os = some zs) :
 zs.length = xs.length ∧ ∀ i, i < xs.length → 0 ≤ gi xs i ∧ gi xs i < ys.length ∧ gi zs i = gi ys (gi xs i).toNat := by
 obtain ⟨c1, c2, e0, e1, c3, hl, hlaw⟩ := then_law h
 rw [e0, e1] at h3
 unfold truthF at h1 h2 h3
 split at h1
 ·split at h2
  ·split at h3
   ·injection h1 with h1
    injection h2 with h2
    injection h3 with h3
    have b1 := Zao c1
    obtain ⟨X, hX⟩ := Int.eq_ofNat_of_zero_le (show 0 ≤ x + y by omega)
    have hM : (u + v).toNat = os.length := by omega
    rw [hX, Int.toNat_natCast] at h1 h3
    rw [hM] at h2
    refine ⟨by rw [← h1, ← h3, Zbz, Zbz], fun i hi => ?_⟩
    rw [← h1, Zbz] at hi
    have hx : gi xs i = numN (outsN gs os X i) := by rw [← h1, gi_tab hi]
    have hz : gi zs i = numN (outsN c.gs c.os X i) := by rw [← h3, gi_tab hi]
    have hob : allB 0 1 (outsN gs os X i) = true := outsN_bd (by rw [← hX]; exact b1.2.2.2.2.1) (by rw [← hX]; exact b1.2.2.2.2.2) i
    have hnb := numN_bd hob
    rw [outsN_len] at hnb
    have h2l : ((2 ^ os.length : Nat) : Int) = (2 : Int) ^ os.length := by rw [Int.natCast_pow]; rfl
    have hlt : (numN (outsN gs os X i)).toNat < 2 ^ os.length := by omega
    refine ⟨by rw [hx]; exact hnb.1, by rw [hx, ← h2, Zbz]; omega, ?_⟩
    rw [hz, hx, ← h2, gi_tab hlt]
    congr 1
    have hbn := bitsN_numS hob
    rw [outsN_len] at hbn
    unfold outsN
    rw [hlaw X hX.symm _ (Zby _ _)]
    unfold outsN at hbn
    rw [hbn]
   ·cases h3
  ·cases h2
 ·cases h1
theorem pick_mws {ws os : List Int} {next : Int} {k no : Nat} {f : Int → Int} (h : os.length = no) (hb : ∀ j, j < no → 0 ≤ gi os j ∧ gi os j < ws.length + k) (hf : ∀ z : Int, 0 ≤ z → z < ws.length + k → wmap ws next z = f z) : pick (mws ws next k) os = mvo f os no := by
 subst h
 unfold pick mvo
 rw [List.take_length]
 refine List.map_congr_left fun o ho => ?_
 obtain ⟨j, hj, rfl⟩ := List.getElem_of_mem ho
 have := hb j hj
 rw [gi_lt hj] at this
 rw [mws_at this.1 this.2, hf _ this.1 this.2]
end Go.Proofs.YtnhmfedegfcflaaGreatDoor
