/- The walk of the law FnExactParseArith: whatever its arguments read as, it returns true and leaves what was there. No condition. -/
import Derived.Test.YtgpfiefhhlejfaaDoorQChg
import Derived.Test.YtgpfiefhhlejfaaDoorQPra
import Derived.Test.YtgpfiefhhlejfaaDoorQPas
import Derived.Test.YtgpfiefhhlejfaaDoorQCLaw2
namespace Go.Proofs.YtgpfiefhhlejfaaDoor.lawParseArith
open Go.RowKit
set_option linter.unusedVariables false
set_option linter.unusedSimpArgs false

set_option maxRecDepth 100000 in
set_option maxHeartbeats 8000000 in
theorem walk (a0 : List UInt8) (w : World) (h0 : (bs a0).size ≤ maxLen) (hT : PT w) (hE : EV w) (hG : AWs w) (hM : ML w) :
    Calls Tryd.prog 6 #[.string (bs a0)] w fun e w' => e = .returned (.bool true) ∧ Below w.heap.size w w' := by
  have hzs0 : (bs a0).size = a0.length := bs_size _
  by_cases s0 : a0.length ≤ 1048576
  rotate_left
  · have s0' : (1048576 : Int) < (a0.length : Int) := by omega
    go_enter Tryd.func6, Tryd.ntmps6
    go_wp2
    go_ret
    exact ⟨rfl, (Below.refl _ _)⟩
  have hzl0 := ansA_len (parseAI a0) a0
  go_enter Tryd.func6, Tryd.ntmps6
  go_wp2_with fail
  refine (spec_ParseArith_any a0 _ (by omega)  ).mono ?_
  rintro e w1 ⟨Aw0, Cw0, Ew0, Dw0, rfl, fw0_1, b1⟩
  have z1 := b1.size
  have B1 := b1; clear b1
  have al1 : Below w1.heap.size w1 (w1.alloc (.cells #[.int .i64 ((ansA (parseAI a0) a0).getD ⟨0, 0, 0, [], []⟩).p, .int .i64 ((ansA (parseAI a0) a0).getD ⟨0, 0, 0, [], []⟩).i0, .int .i64 ((ansA (parseAI a0) a0).getD ⟨0, 0, 0, [], []⟩).i1, .slice Aw0 ((ansA (parseAI a0) a0).getD ⟨0, 0, 0, [], []⟩).gs.length Cw0, .slice Ew0 ((ansA (parseAI a0) a0).getD ⟨0, 0, 0, [], []⟩).os.length Dw0] 40)) := (Below.refl _ _).alloc (Nat.le_refl _) _
  have fw0_al1 := fw0_1.below al1 (.inl (Nat.le_refl _)); clear fw0_1
  have xw0_al1 : BxA (w1.alloc (.cells #[.int .i64 ((ansA (parseAI a0) a0).getD ⟨0, 0, 0, [], []⟩).p, .int .i64 ((ansA (parseAI a0) a0).getD ⟨0, 0, 0, [], []⟩).i0, .int .i64 ((ansA (parseAI a0) a0).getD ⟨0, 0, 0, [], []⟩).i1, .slice Aw0 ((ansA (parseAI a0) a0).getD ⟨0, 0, 0, [], []⟩).gs.length Cw0, .slice Ew0 ((ansA (parseAI a0) a0).getD ⟨0, 0, 0, [], []⟩).os.length Dw0] 40)) w1.heap.size ((ansA (parseAI a0) a0).getD ⟨0, 0, 0, [], []⟩).p ((ansA (parseAI a0) a0).getD ⟨0, 0, 0, [], []⟩).i0 ((ansA (parseAI a0) a0).getD ⟨0, 0, 0, [], []⟩).i1 Aw0 ((ansA (parseAI a0) a0).getD ⟨0, 0, 0, [], []⟩).gs.length Cw0 Ew0 ((ansA (parseAI a0) a0).getD ⟨0, 0, 0, [], []⟩).os.length Dw0 := BxA.new _ _
  have Bq1 := B1.trans (al1.mono B1.size); clear B1
  clear al1
  go_wp2_with fail
  refine (ParseArith_any a0 _ (by omega)  (hG.below Bq1 (Nat.le_refl _)) (hT.below Bq1 (Nat.le_refl _)) (hM.below Bq1 (Nat.le_refl _)) (hE.below Bq1 (Nat.le_refl _))).mono ?_
  rintro e w2 ⟨Ag0, Cg0, Eg0, Dg0, rfl, fg0_2, b2⟩
  have fw0_2 := fw0_al1.below b2 (.inl (Nat.le_refl _)); clear fw0_al1
  have xw0_2 := xw0_al1.below b2; clear xw0_al1
  have z2 := b2.size
  simp only [World.size_alloc] at z2
  simp only [World.size_alloc] at fg0_2
  have B2 := Bq1.trans (b2.mono Bq1.size); clear b2 Bq1
  have al2 : Below w2.heap.size w2 (w2.alloc (.cells #[.int .i64 ((ansA (parseAI a0) a0).getD ⟨0, 0, 0, [], []⟩).p, .int .i64 ((ansA (parseAI a0) a0).getD ⟨0, 0, 0, [], []⟩).i0, .int .i64 ((ansA (parseAI a0) a0).getD ⟨0, 0, 0, [], []⟩).i1, .slice Ag0 ((ansA (parseAI a0) a0).getD ⟨0, 0, 0, [], []⟩).gs.length Cg0, .slice Eg0 ((ansA (parseAI a0) a0).getD ⟨0, 0, 0, [], []⟩).os.length Dg0] 40)) := (Below.refl _ _).alloc (Nat.le_refl _) _
  have fw0_al2 := fw0_2.below al2 (.inl (Nat.le_refl _)); clear fw0_2
  have fg0_al2 := fg0_2.below al2 (.inl (Nat.le_refl _)); clear fg0_2
  have xw0_al2 := xw0_2.below al2; clear xw0_2
  have xg0_al2 : BxA (w2.alloc (.cells #[.int .i64 ((ansA (parseAI a0) a0).getD ⟨0, 0, 0, [], []⟩).p, .int .i64 ((ansA (parseAI a0) a0).getD ⟨0, 0, 0, [], []⟩).i0, .int .i64 ((ansA (parseAI a0) a0).getD ⟨0, 0, 0, [], []⟩).i1, .slice Ag0 ((ansA (parseAI a0) a0).getD ⟨0, 0, 0, [], []⟩).gs.length Cg0, .slice Eg0 ((ansA (parseAI a0) a0).getD ⟨0, 0, 0, [], []⟩).os.length Dg0] 40)) w2.heap.size ((ansA (parseAI a0) a0).getD ⟨0, 0, 0, [], []⟩).p ((ansA (parseAI a0) a0).getD ⟨0, 0, 0, [], []⟩).i0 ((ansA (parseAI a0) a0).getD ⟨0, 0, 0, [], []⟩).i1 Ag0 ((ansA (parseAI a0) a0).getD ⟨0, 0, 0, [], []⟩).gs.length Cg0 Eg0 ((ansA (parseAI a0) a0).getD ⟨0, 0, 0, [], []⟩).os.length Dg0 := BxA.new _ _
  have Bq2 := B2.trans (al2.mono B2.size); clear B2
  clear al2
  have qq := xg0_al2; obtain ⟨qg0_0, qg0_1, qg0_2, qg0_3, qg0_4⟩ := qq
  have qq := xw0_al2; obtain ⟨qw0_0, qw0_1, qw0_2, qw0_3, qw0_4⟩ := qq
  go_wp2_with fail
  refine (eqArith_any _ _ _ _ _ _ _ _ _ _ _ _ _ _ _ _ fg0_al2.reads fw0_al2.reads (by omega) (by omega)).mono ?_
  rintro e w3 ⟨rfl, b3⟩
  clear qg0_0 qg0_1 qg0_2 qg0_3 qg0_4 qw0_0 qw0_1 qw0_2 qw0_3 qw0_4
  have fw0_3 := fw0_al2.below b3 (.inl (Nat.le_refl _)); clear fw0_al2
  have fg0_3 := fg0_al2.below b3 (.inl (Nat.le_refl _)); clear fg0_al2
  have xw0_3 := xw0_al2.below b3; clear xw0_al2
  have xg0_3 := xg0_al2.below b3; clear xg0_al2
  have z3 := b3.size
  simp only [World.size_alloc] at z3
  have B3 := Bq2.trans (b3.mono Bq2.size); clear b3 Bq2
  have qq := xg0_3; obtain ⟨qg0_0, qg0_1, qg0_2, qg0_3, qg0_4⟩ := qq
  go_wp2_with fail
  refine (markArith_c _ _ _ _ _ _ _ _ _ _ _ _ _ _ _ fg0_3 (by omega) (by omega) (by omega) (by omega)).mono ?_
  rintro e w4 ⟨rfl, fg0_4, g4⟩
  clear qg0_0 qg0_1 qg0_2 qg0_3 qg0_4
  have xw0_4 := xw0_3.chg g4 (by omega); clear xw0_3
  have xg0_4 := xg0_3.chg g4 (by omega); clear xg0_3
  have fw0_4 := fw0_3.chg g4 (.inl (by omega)); clear fw0_3
  have z4 := g4.size
  have B4 := g4.below_ B3 (by omega) B3.size; clear B3 fg0_3 g4
  have qq := xg0_4; obtain ⟨qg0_0, qg0_1, qg0_2, qg0_3, qg0_4⟩ := qq
  go_wp2_with fail
  refine (heldArith_b _ _ _ _ _ _ _ _ _ _ _ fg0_4.reads (by omega) (by omega) (by omega) (by omega)).mono ?_
  rintro e w5 ⟨rfl, b5⟩
  clear qg0_0 qg0_1 qg0_2 qg0_3 qg0_4
  have fw0_5 := fw0_4.below b5 (.inl (Nat.le_refl _)); clear fw0_4
  have fg0_5 := fg0_4.below b5 (.inl (Nat.le_refl _)); clear fg0_4
  have xw0_5 := xw0_4.below b5; clear xw0_4
  have xg0_5 := xg0_4.below b5; clear xg0_4
  have z5 := b5.size
  have B5 := B4.trans (b5.mono B4.size); clear b5 B4
  go_wp2_with fail
  refine (ParseArith_any a0 _ (by omega)  (hG.below B5 (Nat.le_refl _)) (hT.below B5 (Nat.le_refl _)) (hM.below B5 (Nat.le_refl _)) (hE.below B5 (Nat.le_refl _))).mono ?_
  rintro e w6 ⟨Ah0, Ch0, Eh0, Dh0, rfl, fh0_6, b6⟩
  have fw0_6 := fw0_5.below b6 (.inl (Nat.le_refl _)); clear fw0_5
  have fg0_6 := fg0_5.below b6 (.inl (Nat.le_refl _)); clear fg0_5
  have xw0_6 := xw0_5.below b6; clear xw0_5
  have xg0_6 := xg0_5.below b6; clear xg0_5
  have z6 := b6.size
  have B6 := B5.trans (b6.mono B5.size); clear b6 B5
  have al3 : Below w6.heap.size w6 (w6.alloc (.cells #[.int .i64 ((ansA (parseAI a0) a0).getD ⟨0, 0, 0, [], []⟩).p, .int .i64 ((ansA (parseAI a0) a0).getD ⟨0, 0, 0, [], []⟩).i0, .int .i64 ((ansA (parseAI a0) a0).getD ⟨0, 0, 0, [], []⟩).i1, .slice Ah0 ((ansA (parseAI a0) a0).getD ⟨0, 0, 0, [], []⟩).gs.length Ch0, .slice Eh0 ((ansA (parseAI a0) a0).getD ⟨0, 0, 0, [], []⟩).os.length Dh0] 40)) := (Below.refl _ _).alloc (Nat.le_refl _) _
  have fw0_al3 := fw0_6.below al3 (.inl (Nat.le_refl _)); clear fw0_6
  have fg0_al3 := fg0_6.below al3 (.inl (Nat.le_refl _)); clear fg0_6
  have fh0_al3 := fh0_6.below al3 (.inl (Nat.le_refl _)); clear fh0_6
  have xw0_al3 := xw0_6.below al3; clear xw0_6
  have xg0_al3 := xg0_6.below al3; clear xg0_6
  have xh0_al3 : BxA (w6.alloc (.cells #[.int .i64 ((ansA (parseAI a0) a0).getD ⟨0, 0, 0, [], []⟩).p, .int .i64 ((ansA (parseAI a0) a0).getD ⟨0, 0, 0, [], []⟩).i0, .int .i64 ((ansA (parseAI a0) a0).getD ⟨0, 0, 0, [], []⟩).i1, .slice Ah0 ((ansA (parseAI a0) a0).getD ⟨0, 0, 0, [], []⟩).gs.length Ch0, .slice Eh0 ((ansA (parseAI a0) a0).getD ⟨0, 0, 0, [], []⟩).os.length Dh0] 40)) w6.heap.size ((ansA (parseAI a0) a0).getD ⟨0, 0, 0, [], []⟩).p ((ansA (parseAI a0) a0).getD ⟨0, 0, 0, [], []⟩).i0 ((ansA (parseAI a0) a0).getD ⟨0, 0, 0, [], []⟩).i1 Ah0 ((ansA (parseAI a0) a0).getD ⟨0, 0, 0, [], []⟩).gs.length Ch0 Eh0 ((ansA (parseAI a0) a0).getD ⟨0, 0, 0, [], []⟩).os.length Dh0 := BxA.new _ _
  have Bq3 := B6.trans (al3.mono B6.size); clear B6
  clear al3
  have qq := xh0_al3; obtain ⟨qh0_0, qh0_1, qh0_2, qh0_3, qh0_4⟩ := qq
  have qq := xw0_al3; obtain ⟨qw0_0, qw0_1, qw0_2, qw0_3, qw0_4⟩ := qq
  go_wp2_with fail
  refine (eqArith_any _ _ _ _ _ _ _ _ _ _ _ _ _ _ _ _ fh0_al3.reads fw0_al3.reads (by omega) (by omega)).mono ?_
  rintro e w7 ⟨rfl, b7⟩
  clear qh0_0 qh0_1 qh0_2 qh0_3 qh0_4 qw0_0 qw0_1 qw0_2 qw0_3 qw0_4
  have fw0_7 := fw0_al3.below b7 (.inl (Nat.le_refl _)); clear fw0_al3
  have fg0_7 := fg0_al3.below b7 (.inl (Nat.le_refl _)); clear fg0_al3
  have fh0_7 := fh0_al3.below b7 (.inl (Nat.le_refl _)); clear fh0_al3
  have xw0_7 := xw0_al3.below b7; clear xw0_al3
  have xg0_7 := xg0_al3.below b7; clear xg0_al3
  have xh0_7 := xh0_al3.below b7; clear xh0_al3
  have z7 := b7.size
  simp only [World.size_alloc] at z7
  have B7 := Bq3.trans (b7.mono Bq3.size); clear b7 Bq3
  have qq := xg0_7; obtain ⟨qg0_0, qg0_1, qg0_2, qg0_3, qg0_4⟩ := qq
  go_wp2_with fail
  refine (heldArith_b _ _ _ _ _ _ _ _ _ _ _ fg0_7.reads (by omega) (by omega) (by omega) (by omega)).mono ?_
  rintro e w8 ⟨rfl, b8⟩
  clear qg0_0 qg0_1 qg0_2 qg0_3 qg0_4
  have fw0_8 := fw0_7.below b8 (.inl (Nat.le_refl _)); clear fw0_7
  have fg0_8 := fg0_7.below b8 (.inl (Nat.le_refl _)); clear fg0_7
  have fh0_8 := fh0_7.below b8 (.inl (Nat.le_refl _)); clear fh0_7
  have xw0_8 := xw0_7.below b8; clear xw0_7
  have xg0_8 := xg0_7.below b8; clear xg0_7
  have xh0_8 := xh0_7.below b8; clear xh0_7
  have z8 := b8.size
  have B8 := B7.trans (b8.mono B7.size); clear b8 B7
  go_wp2
  go_ret
  exact ⟨rfl, B8⟩

end Go.Proofs.YtgpfiefhhlejfaaDoor.lawParseArith
