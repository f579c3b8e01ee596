/- Drawn regions, more kinds of operations: a new row of gates; an append onto an empty one; two rows in one value; a store of one row into a box of the region's own. Lengths as the lemmas say. Numbers as inputs: RunWith of the program where it succeeds. Contracts of ConstantCircuit: both hands return the circuit of the number, or none. -/
import Derived.Test.YtimmjppkaadggaaQP11
import Derived.Test.YtimmjppkaadggaaQP08
import Derived.Test.YtimmjppkaadggaaQP21
import Derived.Test.YtimmjppkaadggaaQP06
import Derived.Test.YtimmjppkaadggaaQP16
import Derived.Test.YtimmjppkaadggaaQP05
import Derived.Test.YtimmjppkaadggaaQP09
import Derived.Test.YtimmjppkaadggaaQP20
namespace Go.Proofs.Ytimmjppkaadggaa
open Go.RowKit
set_option linter.unusedVariables false
set_option linter.unusedSimpArgs false
theorem postRowG.new0 (w : World) : postRowG w 0 [] (.slice (some ⟨w.heap.size, 0, none⟩) 0 0) (w.alloc (.cells #[] 64)) :=
  ⟨_, _, rfl, (OwnG_new0 w w.heap.size (Nat.le_refl _)).hi_ (by simp), (Below.refl _ _).alloc (Nat.le_refl _) _⟩
theorem postRow.new0 (w : World) : postRow w 0 [] (.slice (some ⟨w.heap.size, 0, none⟩) 0 0) (w.alloc (.cells #[] 3)) := by simpa using postRow.new w [] 0 rfl (by omega)
section
variable {W : World} {own : Nat → Prop} {cs : List (Addr × Value)} {sk : List (Nat × List Nat × List Nat)} {ini fi : List Nat} {rs : List (Nat × Res)} {ops : Array Oper} {L : Act → (Nat → Value) → Prop} {k : Nat} {o : Oper} {rest : List Oper} {a : Act} {ρ : Nat → Value}
def Res.two (lo ng no : Nat) (gs : List G3) (os : List Int) (V : Option Addr → Nat → Option Addr → Nat → Value) : Res :=
  ⟨fun _ v => ∃ A c O d, v = V A c O d, fun _ v w => ∀ A c O d, v = V A c O d → OwnC w lo w.heap.size A ng c O no d gs os,
    fun _ v b => ∃ A c O d, v = V A c O d ∧ ((Value.slice A ng c).ownBlock = some b ∨ (Value.slice O no d).ownBlock = some b), fun _ => ⟨V none 0 none 0, none, 0, none, 0, rfl⟩,
    fun _ v w w' S h k hb A c O d hv => by
      have h1 := h A c O d hv
      exact ⟨(h1.1.alt k fun g hg => (hb g ⟨A, c, O, d, hv, .inl hg⟩).1).now, (h1.2.1.alt k fun g hg => (hb g ⟨A, c, O, d, hv, .inr hg⟩).1).now, h1.2.2⟩⟩
def postTwo (w : World) (ng no : Nat) (gs : List G3) (os : List Int) (V : Option Addr → Nat → Option Addr → Nat → Value) (v : Value) (w' : World) : Prop := ∃ A c O d, v = V A c O d ∧ OwnC w' w.heap.size w'.heap.size A ng c O no d gs os ∧ Below w.heap.size w w'
theorem postTwo.mk_ {w w' : World} {ng no : Nat} {gs : List G3} {os : List Int} {V : Option Addr → Nat → Option Addr → Nat → Value} {v : Value} (A : Option Addr) (c : Nat) (O : Option Addr) (d : Nat) (hv : v = V A c O d) (h : OwnC w' w.heap.size w'.heap.size A ng c O no d gs os) (hb : Below w.heap.size w w') : postTwo w ng no gs os V v w' := ⟨A, c, O, d, hv, h, hb⟩
end
section
variable {P : Program} {W : World} {own : Nat → Prop} {cs : List (Addr × Value)} {sk : List (Nat × List Nat × List Nat)} {ini fi : List Nat} {rs : List (Nat × Res)} {ops : Array Oper} {L : Act → (Nat → Value) → Prop} {k : Nat} {o : Oper} {rest : List Oper} {a : Act} {ρ : Nat → Value}
end
attribute [local go_sem] sepAt sepUpon pureAt pureUpon
set_option maxRecDepth 100000 in
set_option maxHeartbeats 3000000 in
theorem RunWith_ok (x y : Int) (Ag : Option Addr) (ng cg : Nat) (Ao : Option Addr) (no co : Nat) (a b X Y : Nat) (gs : List G3) (os : List Int) (w : World) (hr : RG w Ag ng gs ∧ RI w Ao no os) (hng : ng ≤ 2097152) (hno : no ≤ 16) (hc : circB x y gs os = true) (hxX : x = X) (hyY : y = Y) (hX : X ≤ 16) (hY : Y ≤ 16) (ha : a < 2 ^ X) (hb : b < 2 ^ Y) :
    Calls Try.prog 6 #[.agg #[.int .i64 x, .int .i64 y, .slice Ag ng cg, .slice Ao no co], .int .i64 a, .int .i64 b] w fun e w' => e = .returned (.tuple #[.int .i64 (ans ⟨gs, os⟩ (bitsN a X ++ bitsN b Y)), .bool true]) ∧ Below w.heap.size w w' := by
  subst hxX; subst hyY
  have hB : Below w.heap.size w (w.alloc (.cells #[.int .i64 X, .int .i64 Y, .slice Ag ng cg, .slice Ao no co] 27)) := (Below.refl _ _).alloc (Nat.le_refl _) _
  have hx0 : BxC (w.alloc (.cells #[.int .i64 X, .int .i64 Y, .slice Ag ng cg, .slice Ao no co] 27)) w.heap.size X Y Ag ng cg Ao no co := BxC.new w _
  obtain ⟨hx, hy, hg3, ho3, _, hao⟩ := circB_bd hc
  have hlg := hr.1.len
  have hlo := hr.2.len
  rw [hlg] at hg3 hao
  have hp1 : (2 : Nat) ^ X ≤ 65536 := Nat.le_trans (Nat.pow_le_pow_right (by omega) hX) (by decide)
  have hp2 : (2 : Nat) ^ Y ≤ 65536 := Nat.le_trans (Nat.pow_le_pow_right (by omega) hY) (by decide)
  obtain ⟨NX, hNX⟩ : ∃ N : Nat, 2 ^ X = N := ⟨_, rfl⟩
  obtain ⟨NY, hNY⟩ : ∃ N : Nat, 2 ^ Y = N := ⟨_, rfl⟩
  rw [hNX] at ha hp1
  rw [hNY] at hb hp2
  have hNXi : (2 : Int) ^ X = NX := by rw [← hNX]; simp
  have hNYi : (2 : Int) ^ Y = NY := by rw [← hNY]; simp
  have hq := hx0; obtain ⟨k0, k1, k2, k3⟩ := hq
  have H0 := Lib.hid hc; clear hc
  go_enter Try.func6, Try.ntmps6
  go_wp2_with fail
  refine (IsCircuit_any _ _ Ag ng cg Ao no co gs os _ (hr.1.below hB (Nat.le_refl _)) (hr.2.below hB (Nat.le_refl _)) hng (by omega)).mono ?_
  rintro e v1 ⟨rfl, b1⟩
  rw [H0.out]
  have B1 := hB.trans (b1.mono hB.size)
  have x1 := hx0.below b1
  have hz1 := B1.size
  clear k0 k1 k2 k3 hx0 b1 hB
  have hbits : allB 0 1 (bitsN a X ++ bitsN b Y) = true := allB_iff.2 fun z hz => (List.mem_append.1 hz).elim (allB_iff.1 (bitsN_bd a X) z) (allB_iff.1 (bitsN_bd b Y) z)
  obtain ⟨V, hV⟩ : ∃ V, vals gs (bitsN a X ++ bitsN b Y) ng = V := ⟨_, rfl⟩
  have hVl : V.length = X + Y + ng := by rw [← hV, vals_len, List.length_append, bitsN_len, bitsN_len]
  have hVb : allB 0 1 V = true := by rw [← hV]; exact vals_bd (n := (X : Int) + Y) (by rw [List.length_append, bitsN_len, bitsN_len]; omega) hbits ng ng (Nat.le_refl _) (by have h := (circB_bd H0.out).2.2.2.2.1; rw [hlg] at h; exact h)
  have hao' : allB 0 (((X + Y + ng : Nat) : Int) - 1) os = true := by rw [show ((X + Y + ng : Nat) : Int) - 1 = (X : Int) + Y + ng - 1 by omega]; exact hao
  obtain ⟨P, hP⟩ : ∃ P, pick V os = P := ⟨_, rfl⟩
  have hPl : P.length = no := by rw [← hP, pick_len]; exact hlo
  have hPb : allB 0 1 P = true := by rw [← hP]; exact pick_bd hVb (by rw [hVl]; exact hao')
  have hans : ans ⟨gs, os⟩ (bitsN a X ++ bitsN b Y) = numN P := by unfold ans; dsimp only; rw [hlg, hV, hP]
  have hgat : gatesB ((X : Int) + Y) gs ng = true := by have h := (circB_bd H0.out).2.2.2.2.1; rw [hlg] at h; exact h
  have HA := Lib.hid hans; have HV := Lib.hid hV; have HVl := Lib.hid hVl; have HP := Lib.hid hP; have HPl := Lib.hid hPl; have HPb := Lib.hid hPb; have Hao := Lib.hid hao'; have Hgat := Lib.hid hgat; have Hbits := Lib.hid hbits
  clear hans hV hVl hP hPl hPb hao' hgat hbits hao hVb
  have HDa : Hid (inB 0 ((NX : Int) - 1) a = true) := Lib.hid (inB_t ⟨by omega, by omega⟩)
  have HDb : Hid (inB 0 ((NY : Int) - 1) b = true) := Lib.hid (inB_t ⟨by omega, by omega⟩)
  have hsa : IntKind.i64.wrap ((NX : Int) - 1) = (NX : Int) - 1 := by rw [IntKind.wrap_i64] <;> omega
  have hsb : IntKind.i64.wrap ((NY : Int) - 1) = (NY : Int) - 1 := by rw [IntKind.wrap_i64] <;> omega
  have hta : ((X : Nat) : Int).toNat = X := by simp
  have htb : ((Y : Nat) : Int).toNat = Y := by simp
  have g1 : ¬ (16 : Int) < no := by omega
  have g2 : ¬ 16 < no := by omega
  have g3 : ¬ (16 : Int) < X := by omega
  have g4 : ¬ 16 < X := by omega
  have g5 : ¬ (16 : Int) < Y := by omega
  have g6 : ¬ 16 < Y := by omega
  have hq := x1; obtain ⟨k0, k1, k2, k3⟩ := hq
  go_wp2_with fail
  refine (within_any _ _ _ true HDa.out _).mono ?_
  rintro e v2 ⟨rfl, rfl⟩
  go_wp2_with fail
  refine (within_any _ _ _ true HDb.out _).mono ?_
  rintro e v3 ⟨rfl, rfl⟩
  clear hNX hNY hNXi hNYi hsa hsb
  go_wp2_with fail
  refine wp_region_mem0 (17) [(⟨w.heap.size, 0, none⟩, .int .i64 X), (⟨w.heap.size, 1, none⟩, .int .i64 Y), (⟨w.heap.size, 2, none⟩, .slice Ag ng cg), (⟨w.heap.size, 3, none⟩, .slice Ao no co)] [(4, [], []), (8, [], []), (9, [4, 8], []), (10, [9], []), (13, [10], []), (14, [13], [])] [14] [(4, Res.row v1.heap.size X (bitsN a X)), (8, Res.row v1.heap.size Y (bitsN b Y)), (9, Res.row v1.heap.size (X + Y) (bitsN a X ++ bitsN b Y)), (10, Res.row v1.heap.size (X + Y + ng) V), (13, Res.row v1.heap.size no P), (14, Res.plain (.int .i64 (numN P)))] (by kernel_rfl) (by kernel_rfl) (by kernel_rfl) (by simp only [CellsL, List.mem_cons, forall_eq_or_imp, List.not_mem_nil, false_implies, implies_true, and_true]; repeat (any_goals (apply And.intro)); all_goals (first | assumption | go_simp)) ?_
  simp only [List.take_succ_cons, List.take_zero, List.drop_succ_cons, List.drop_zero, List.take_nil, List.drop_nil, List.take, List.drop]
  repeat (first
    | ((with_reducible refine mem_pure0 ?_ ?_ ?_)
       · exact rfl
       · exact rfl
       intro K hK
       apply Exists.intro
       refine ⟨fun w3 hw3 => ?_, ?_⟩
       · have hcs := hw3
         simp only [CellsL, List.mem_cons, forall_eq_or_imp, List.not_mem_nil, false_implies, implies_true, and_true] at hcs
         clear hw3
         go_simp
         first | done | exact ⟨rfl, rfl⟩ | rfl
       refine hK _ ?_
       clear hK K
       try simp only [Act.put, List.setIfInBounds_toArray, List.set_cons_zero, List.set_cons_succ])
    | ((with_reducible refine mem_skip ?_ ?_ ?_)
       · exact rfl
       · exact wanted_not rfl rfl rfl rfl
       simp only [Act.put, List.setIfInBounds_toArray, List.set_cons_zero, List.set_cons_succ])
    | ((with_reducible refine mem_pure ?_ ?_ ?_)
       · exact rfl
       · exact wanted_some rfl rfl rfl rfl
       intro K hK
       apply Exists.intro
       refine ⟨fun w3 hw3 => ?_, ?_⟩
       · have hcs := hw3
         simp only [CellsL, List.mem_cons, forall_eq_or_imp, List.not_mem_nil, false_implies, implies_true, and_true] at hcs
         clear hw3
         go_simp
         first | done | exact ⟨rfl, rfl⟩ | rfl
       refine hK _ ?_
       clear hK K
       try simp only [Act.put, List.setIfInBounds_toArray, List.set_cons_zero, List.set_cons_succ]))
  focus
    (with_reducible refine mem_row v1.heap.size X (bitsN a X) ?_ ?_ ?_ ?_ ?_ (hw := ?_))
    · exact rfl
    · exact rfl
    · omega
    · intro w3 hw3 hc3 hp3
      have hcs := hc3
      simp only [CellsL, List.mem_cons, forall_eq_or_imp, List.not_mem_nil, false_implies, implies_true, and_true] at hcs
      (go_simp; refine (bitsOf_any a X _ (by omega) (by omega)).mono ?_; rintro e w5 hT; obtain ⟨A9, c9, rfl, ho4, hb4⟩ := hT.open_ (bitsN_len _ _); exact retPost.mk_ (postRow.mk_ ho4 hb4))
    rotate_left
    · first | exact wanted_none rfl | exact wanted_some rfl rfl rfl rfl
    intro A3 c3
    try simp only [Act.put, List.setIfInBounds_toArray, List.set_cons_zero, List.set_cons_succ]
  repeat (first
    | ((with_reducible refine mem_pure0 ?_ ?_ ?_)
       · exact rfl
       · exact rfl
       intro K hK
       apply Exists.intro
       refine ⟨fun w3 hw3 => ?_, ?_⟩
       · have hcs := hw3
         simp only [CellsL, List.mem_cons, forall_eq_or_imp, List.not_mem_nil, false_implies, implies_true, and_true] at hcs
         clear hw3
         go_simp
         first | done | exact ⟨rfl, rfl⟩ | rfl
       refine hK _ ?_
       clear hK K
       try simp only [Act.put, List.setIfInBounds_toArray, List.set_cons_zero, List.set_cons_succ])
    | ((with_reducible refine mem_skip ?_ ?_ ?_)
       · exact rfl
       · exact wanted_not rfl rfl rfl rfl
       simp only [Act.put, List.setIfInBounds_toArray, List.set_cons_zero, List.set_cons_succ])
    | ((with_reducible refine mem_pure ?_ ?_ ?_)
       · exact rfl
       · exact wanted_some rfl rfl rfl rfl
       intro K hK
       apply Exists.intro
       refine ⟨fun w3 hw3 => ?_, ?_⟩
       · have hcs := hw3
         simp only [CellsL, List.mem_cons, forall_eq_or_imp, List.not_mem_nil, false_implies, implies_true, and_true] at hcs
         clear hw3
         go_simp
         first | done | exact ⟨rfl, rfl⟩ | rfl
       refine hK _ ?_
       clear hK K
       try simp only [Act.put, List.setIfInBounds_toArray, List.set_cons_zero, List.set_cons_succ]))
  focus
    (with_reducible refine mem_row v1.heap.size Y (bitsN b Y) ?_ ?_ ?_ ?_ ?_ (hw := ?_))
    · exact rfl
    · exact rfl
    · omega
    · intro w3 hw3 hc3 hp3
      have hcs := hc3
      simp only [CellsL, List.mem_cons, forall_eq_or_imp, List.not_mem_nil, false_implies, implies_true, and_true] at hcs
      (go_simp; refine (bitsOf_any b Y _ (by omega) (by omega)).mono ?_; rintro e w5 hT; obtain ⟨A9, c9, rfl, ho4, hb4⟩ := hT.open_ (bitsN_len _ _); exact retPost.mk_ (postRow.mk_ ho4 hb4))
    rotate_left
    · first | exact wanted_none rfl | exact wanted_some rfl rfl rfl rfl
    intro A5 c5
    try simp only [Act.put, List.setIfInBounds_toArray, List.set_cons_zero, List.set_cons_succ]
  repeat (first
    | ((with_reducible refine mem_pure0 ?_ ?_ ?_)
       · exact rfl
       · exact rfl
       intro K hK
       apply Exists.intro
       refine ⟨fun w3 hw3 => ?_, ?_⟩
       · have hcs := hw3
         simp only [CellsL, List.mem_cons, forall_eq_or_imp, List.not_mem_nil, false_implies, implies_true, and_true] at hcs
         clear hw3
         go_simp
         first | done | exact ⟨rfl, rfl⟩ | rfl
       refine hK _ ?_
       clear hK K
       try simp only [Act.put, List.setIfInBounds_toArray, List.set_cons_zero, List.set_cons_succ])
    | ((with_reducible refine mem_skip ?_ ?_ ?_)
       · exact rfl
       · exact wanted_not rfl rfl rfl rfl
       simp only [Act.put, List.setIfInBounds_toArray, List.set_cons_zero, List.set_cons_succ])
    | ((with_reducible refine mem_pure ?_ ?_ ?_)
       · exact rfl
       · exact wanted_some rfl rfl rfl rfl
       intro K hK
       apply Exists.intro
       refine ⟨fun w3 hw3 => ?_, ?_⟩
       · have hcs := hw3
         simp only [CellsL, List.mem_cons, forall_eq_or_imp, List.not_mem_nil, false_implies, implies_true, and_true] at hcs
         clear hw3
         go_simp
         first | done | exact ⟨rfl, rfl⟩ | rfl
       refine hK _ ?_
       clear hK K
       try simp only [Act.put, List.setIfInBounds_toArray, List.set_cons_zero, List.set_cons_succ]))
  focus
    (with_reducible refine mem_row v1.heap.size (X + Y) (bitsN a X ++ bitsN b Y) ?_ ?_ ?_ ?_ ?_ (hw := ?_))
    · exact rfl
    · exact rfl
    · omega
    · intro w3 hw3 hc3 hp3
      have hcs := hc3
      simp only [CellsL, List.mem_cons, forall_eq_or_imp, List.not_mem_nil, false_implies, implies_true, and_true] at hcs
      (have h4 : Own w3 v1.heap.size w3.heap.size (.slice A3 X c3) X (bitsN a X) := hp3.1.1.1; have h8 : Own w3 v1.heap.size w3.heap.size (.slice A5 Y c5) Y (bitsN b Y) := hp3.1.2.1.1; go_simp; refine (with_any A3 A5 X c3 Y c5 _ _ _ h4.reads h8.reads (by omega) (by omega)).mono ?_; rintro e w5 ⟨A9, c9, rfl, ho4, hb4⟩; exact retPost.mk_ (postRow.mk_ ho4 hb4))
    rotate_left
    · first | exact wanted_none rfl | exact wanted_some rfl rfl rfl rfl
    intro A6 c6
    try simp only [Act.put, List.setIfInBounds_toArray, List.set_cons_zero, List.set_cons_succ]
  repeat (first
    | ((with_reducible refine mem_pure0 ?_ ?_ ?_)
       · exact rfl
       · exact rfl
       intro K hK
       apply Exists.intro
       refine ⟨fun w3 hw3 => ?_, ?_⟩
       · have hcs := hw3
         simp only [CellsL, List.mem_cons, forall_eq_or_imp, List.not_mem_nil, false_implies, implies_true, and_true] at hcs
         clear hw3
         go_simp
         first | done | exact ⟨rfl, rfl⟩ | rfl
       refine hK _ ?_
       clear hK K
       try simp only [Act.put, List.setIfInBounds_toArray, List.set_cons_zero, List.set_cons_succ])
    | ((with_reducible refine mem_skip ?_ ?_ ?_)
       · exact rfl
       · exact wanted_not rfl rfl rfl rfl
       simp only [Act.put, List.setIfInBounds_toArray, List.set_cons_zero, List.set_cons_succ])
    | ((with_reducible refine mem_pure ?_ ?_ ?_)
       · exact rfl
       · exact wanted_some rfl rfl rfl rfl
       intro K hK
       apply Exists.intro
       refine ⟨fun w3 hw3 => ?_, ?_⟩
       · have hcs := hw3
         simp only [CellsL, List.mem_cons, forall_eq_or_imp, List.not_mem_nil, false_implies, implies_true, and_true] at hcs
         clear hw3
         go_simp
         first | done | exact ⟨rfl, rfl⟩ | rfl
       refine hK _ ?_
       clear hK K
       try simp only [Act.put, List.setIfInBounds_toArray, List.set_cons_zero, List.set_cons_succ]))
  focus
    (with_reducible refine mem_row v1.heap.size (X + Y + ng) V ?_ ?_ ?_ ?_ ?_ (hw := ?_))
    · exact rfl
    · exact rfl
    · omega
    · intro w3 hw3 hc3 hp3
      have hcs := hc3
      simp only [CellsL, List.mem_cons, forall_eq_or_imp, List.not_mem_nil, false_implies, implies_true, and_true] at hcs
      (have h4 : Own w3 v1.heap.size w3.heap.size (.slice A6 (X + Y) c6) (X + Y) (bitsN a X ++ bitsN b Y) := hp3.1.1.1; go_simp; have q9 := Circuit_values_any X Y Ag ng cg Ao no co A6 (X + Y) c6 gs (bitsN a X ++ bitsN b Y) w3 (hr.1.below (B1.trans ((alt_below hw3).mono B1.size)) (Nat.le_refl _)) h4.reads Hbits.out Hgat.out (by omega) (by omega); rw [HV.out] at q9; refine q9.mono ?_; rintro e w5 hT; obtain ⟨A9, c9, rfl, ho4, hb4⟩ := hT.open_ HVl.out; exact retPost.mk_ (postRow.mk_ ho4 hb4))
    rotate_left
    · first | exact wanted_none rfl | exact wanted_some rfl rfl rfl rfl
    intro A7 c7
    try simp only [Act.put, List.setIfInBounds_toArray, List.set_cons_zero, List.set_cons_succ]
  repeat (first
    | ((with_reducible refine mem_pure0 ?_ ?_ ?_)
       · exact rfl
       · exact rfl
       intro K hK
       apply Exists.intro
       refine ⟨fun w3 hw3 => ?_, ?_⟩
       · have hcs := hw3
         simp only [CellsL, List.mem_cons, forall_eq_or_imp, List.not_mem_nil, false_implies, implies_true, and_true] at hcs
         clear hw3
         go_simp
         first | done | exact ⟨rfl, rfl⟩ | rfl
       refine hK _ ?_
       clear hK K
       try simp only [Act.put, List.setIfInBounds_toArray, List.set_cons_zero, List.set_cons_succ])
    | ((with_reducible refine mem_skip ?_ ?_ ?_)
       · exact rfl
       · exact wanted_not rfl rfl rfl rfl
       simp only [Act.put, List.setIfInBounds_toArray, List.set_cons_zero, List.set_cons_succ])
    | ((with_reducible refine mem_pure ?_ ?_ ?_)
       · exact rfl
       · exact wanted_some rfl rfl rfl rfl
       intro K hK
       apply Exists.intro
       refine ⟨fun w3 hw3 => ?_, ?_⟩
       · have hcs := hw3
         simp only [CellsL, List.mem_cons, forall_eq_or_imp, List.not_mem_nil, false_implies, implies_true, and_true] at hcs
         clear hw3
         go_simp
         first | done | exact ⟨rfl, rfl⟩ | rfl
       refine hK _ ?_
       clear hK K
       try simp only [Act.put, List.setIfInBounds_toArray, List.set_cons_zero, List.set_cons_succ]))
  focus
    (with_reducible refine mem_row v1.heap.size no P ?_ ?_ ?_ ?_ ?_ (hw := ?_))
    · exact rfl
    · exact rfl
    · omega
    · intro w3 hw3 hc3 hp3
      have hcs := hc3
      simp only [CellsL, List.mem_cons, forall_eq_or_imp, List.not_mem_nil, false_implies, implies_true, and_true] at hcs
      (have h4 : Own w3 v1.heap.size w3.heap.size (.slice A7 (X + Y + ng) c7) (X + Y + ng) V := hp3.1.1.1; go_simp; have q9 := at_any A7 Ao (X + Y + ng) c7 no co V os w3 h4.reads (hr.2.below (B1.trans ((alt_below hw3).mono B1.size)) (Nat.le_refl _)) (by omega) (by omega) Hao.out; rw [HP.out] at q9; refine q9.mono ?_; rintro e w5 hT; obtain ⟨A9, c9, rfl, ho4, hb4⟩ := hT.open_ HPl.out; exact retPost.mk_ (postRow.mk_ ho4 hb4))
    rotate_left
    · first | exact wanted_none rfl | exact wanted_some rfl rfl rfl rfl
    intro A8 c8
    try simp only [Act.put, List.setIfInBounds_toArray, List.set_cons_zero, List.set_cons_succ]
  repeat (first
    | ((with_reducible refine mem_pure0 ?_ ?_ ?_)
       · exact rfl
       · exact rfl
       intro K hK
       apply Exists.intro
       refine ⟨fun w3 hw3 => ?_, ?_⟩
       · have hcs := hw3
         simp only [CellsL, List.mem_cons, forall_eq_or_imp, List.not_mem_nil, false_implies, implies_true, and_true] at hcs
         clear hw3
         go_simp
         first | done | exact ⟨rfl, rfl⟩ | rfl
       refine hK _ ?_
       clear hK K
       try simp only [Act.put, List.setIfInBounds_toArray, List.set_cons_zero, List.set_cons_succ])
    | ((with_reducible refine mem_skip ?_ ?_ ?_)
       · exact rfl
       · exact wanted_not rfl rfl rfl rfl
       simp only [Act.put, List.setIfInBounds_toArray, List.set_cons_zero, List.set_cons_succ])
    | ((with_reducible refine mem_pure ?_ ?_ ?_)
       · exact rfl
       · exact wanted_some rfl rfl rfl rfl
       intro K hK
       apply Exists.intro
       refine ⟨fun w3 hw3 => ?_, ?_⟩
       · have hcs := hw3
         simp only [CellsL, List.mem_cons, forall_eq_or_imp, List.not_mem_nil, false_implies, implies_true, and_true] at hcs
         clear hw3
         go_simp
         first | done | exact ⟨rfl, rfl⟩ | rfl
       refine hK _ ?_
       clear hK K
       try simp only [Act.put, List.setIfInBounds_toArray, List.set_cons_zero, List.set_cons_succ]))
  focus
    (with_reducible refine mem_plain (.int .i64 (numN P)) ?_ ?_ ?_ ?_ (hw := ?_))
    · exact rfl
    · exact rfl
    · intro w3 hw3 hc3 hp3
      have hcs := hc3
      simp only [CellsL, List.mem_cons, forall_eq_or_imp, List.not_mem_nil, false_implies, implies_true, and_true] at hcs
      (have h4 : Own w3 v1.heap.size w3.heap.size (.slice A8 no c8) no P := hp3.1.1.1; go_simp; refine (number_any A8 no c8 P w3 h4.reads (by omega) HPb.out).mono ?_; rintro e w5 ⟨rfl, rfl⟩; exact retPost.mk_ (postPlain.mk_ (Below.refl _ _)))
    rotate_left
    · first | exact wanted_none rfl | exact wanted_some rfl rfl rfl rfl
    try simp only [Act.put, List.setIfInBounds_toArray, List.set_cons_zero, List.set_cons_succ]
  repeat (first
    | ((with_reducible refine mem_pure0 ?_ ?_ ?_)
       · exact rfl
       · exact rfl
       intro K hK
       apply Exists.intro
       refine ⟨fun w3 hw3 => ?_, ?_⟩
       · have hcs := hw3
         simp only [CellsL, List.mem_cons, forall_eq_or_imp, List.not_mem_nil, false_implies, implies_true, and_true] at hcs
         clear hw3
         go_simp
         first | done | exact ⟨rfl, rfl⟩ | rfl
       refine hK _ ?_
       clear hK K
       try simp only [Act.put, List.setIfInBounds_toArray, List.set_cons_zero, List.set_cons_succ])
    | ((with_reducible refine mem_skip ?_ ?_ ?_)
       · exact rfl
       · exact wanted_not rfl rfl rfl rfl
       simp only [Act.put, List.setIfInBounds_toArray, List.set_cons_zero, List.set_cons_succ])
    | ((with_reducible refine mem_pure ?_ ?_ ?_)
       · exact rfl
       · exact wanted_some rfl rfl rfl rfl
       intro K hK
       apply Exists.intro
       refine ⟨fun w3 hw3 => ?_, ?_⟩
       · have hcs := hw3
         simp only [CellsL, List.mem_cons, forall_eq_or_imp, List.not_mem_nil, false_implies, implies_true, and_true] at hcs
         clear hw3
         go_simp
         first | done | exact ⟨rfl, rfl⟩ | rfl
       refine hK _ ?_
       clear hK K
       try simp only [Act.put, List.setIfInBounds_toArray, List.set_cons_zero, List.set_cons_succ]))
  refine wpSep_end ?_
  intro wy hwy hcy hfin hap
  have hbz := alt_below hwy
  clear hfin hap hcy hwy k0 k1 k2 k3
  go_wp2
  go_ret2
  exact ⟨by rw [HA.out]; rfl, B1.trans (hbz.mono B1.size)⟩
end Go.Proofs.Ytimmjppkaadggaa
namespace Go.Proofs.Ytimmjppkaadggaa
open Go.RowKit
set_option linter.unusedVariables false
set_option linter.unusedSimpArgs false
theorem btWord_any (a k : Int) (w : World) : Calls Try.prog 34 #[.int .i64 a, .int .i64 k] w fun e w' => e = .returned (.bool (inB 0 16 k && inB 0 (2 ^ k.toNat - 1) a)) ∧ w = w' := by
  cases h0 : inB 0 16 k with
  | false =>
    have H0 := Lib.hid h0; clear h0
    go_enter Try.func34, Try.ntmps34
    go_wp2_with fail
    refine (l1In_any _ _ _ false H0.out _).mono ?_
    rintro e w1 ⟨rfl, rfl⟩
    go_wp2
    go_ret
    exact ⟨rfl, rfl⟩
  | true =>
    have hab := inB_iff.1 h0
    obtain ⟨n, rfl⟩ : ∃ n : Nat, k = n := ⟨k.toNat, by omega⟩
    have hp1 : (2 : Nat) ^ n ≤ 65536 := Nat.le_trans (Nat.pow_le_pow_right (by omega) (show n ≤ 16 by omega)) (by decide)
    obtain ⟨N, hN⟩ : ∃ N : Nat, 2 ^ n = N := ⟨_, rfl⟩
    have hN1 : 1 ≤ N := by rw [← hN]; exact Nat.one_le_two_pow
    rw [hN] at hp1
    have hNi : (2 : Int) ^ n = N := by rw [← hN]; simp
    have hta : ((n : Nat) : Int).toNat = n := by simp
    have hsa : IntKind.i64.wrap ((N : Int) - 1) = (N : Int) - 1 := by rw [IntKind.wrap_i64] <;> omega
    have HR : Hid ((true && inB 0 (2 ^ ((n : Nat) : Int).toNat - 1) a) = inB 0 ((N : Int) - 1) a) := Lib.hid (by rw [hta, hNi, Bool.true_and])
    rw [HR.out]
    have H0 := Lib.hid h0; clear h0 HR
    go_enter Try.func34, Try.ntmps34
    go_wp2_with fail
    refine (l1In_any _ _ _ true H0.out _).mono ?_
    rintro e w1 ⟨rfl, rfl⟩
    go_wp2_with fail
    refine (l1In_any _ _ _ _ rfl _).mono ?_
    rintro e w1 ⟨rfl, rfl⟩
    go_wp2
    go_ret
    exact ⟨rfl, rfl⟩
end Go.Proofs.Ytimmjppkaadggaa
