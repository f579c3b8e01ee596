/- Words of a maker whose outs are any slice. -/
import Derived.Test.YtjjphaiomaiilaaGreatQB07
namespace Go.Proofs.YtjjphaiomaiilaaGreat
open Go.RowKit
set_option linter.unusedVariables false
set_option linter.unusedSimpArgs false
variable {Qo : OQ}
theorem maker_xorQ_any (lo b : Nat) (x y : Int) (gs : List G3) (G : Option Nat) (p q : Int) (w : World) (hm : MkQ Qo w lo b x y gs G) (hx : 0 ≤ x ∧ x ≤ 20) (hy : 0 ≤ y ∧ y ≤ 20) (hn : gs.length ≤ 100000) (hlo : lo ≤ w.heap.size) :
    Calls Tryz.prog 150 #[.pointer (some ⟨b, 0, none⟩), .int .i64 p, .int .i64 q] w (RetWQ Qo lo b x y (gs ++ [⟨0, p, q⟩]) G (x + y + gs.length) w) := by
  go_enter Tryz.func150, Tryz.ntmps150
  go_wp2_with fail
  refine (maker_gateQ_any lo b x y gs G 0 p q w hm hx hy hn hlo).mono ?_
  rintro e w1 ⟨G1, rfl, hm1, hv1⟩
  go_wp2
  go_ret
  exact ⟨G1, rfl, hm1, hv1⟩
theorem maker_andQ_any (lo b : Nat) (x y : Int) (gs : List G3) (G : Option Nat) (p q : Int) (w : World) (hm : MkQ Qo w lo b x y gs G) (hx : 0 ≤ x ∧ x ≤ 20) (hy : 0 ≤ y ∧ y ≤ 20) (hn : gs.length ≤ 100000) (hlo : lo ≤ w.heap.size) :
    Calls Tryz.prog 149 #[.pointer (some ⟨b, 0, none⟩), .int .i64 p, .int .i64 q] w (RetWQ Qo lo b x y (gs ++ [⟨1, p, q⟩]) G (x + y + gs.length) w) := by
  go_enter Tryz.func149, Tryz.ntmps149
  go_wp2_with fail
  refine (maker_gateQ_any lo b x y gs G 1 p q w hm hx hy hn hlo).mono ?_
  rintro e w1 ⟨G1, rfl, hm1, hv1⟩
  go_wp2
  go_ret
  exact ⟨G1, rfl, hm1, hv1⟩
theorem ciMaker_xorQ_any (lo b : Nat) (x y : Int) (gs : List G3) (G : Option Nat) (p q : Int) (w : World) (hm : MkQ Qo w lo b x y gs G) (hx : 0 ≤ x ∧ x ≤ 20) (hy : 0 ≤ y ∧ y ≤ 20) (hn : gs.length ≤ 100000) (hlo : lo ≤ w.heap.size) :
    Calls Tryz.prog 125 #[.pointer (some ⟨b, 0, none⟩), .int .i64 p, .int .i64 q] w (RetWQ Qo lo b x y (gs ++ [⟨0, p, q⟩]) G (x + y + gs.length) w) := by
  go_enter Tryz.func125, Tryz.ntmps125
  go_wp2_with fail
  refine (ciMaker_gateQ_any lo b x y gs G 0 p q w hm hx hy hn hlo).mono ?_
  rintro e w1 ⟨G1, rfl, hm1, hv1⟩
  go_wp2
  go_ret
  exact ⟨G1, rfl, hm1, hv1⟩
theorem ciMaker_andQ_any (lo b : Nat) (x y : Int) (gs : List G3) (G : Option Nat) (p q : Int) (w : World) (hm : MkQ Qo w lo b x y gs G) (hx : 0 ≤ x ∧ x ≤ 20) (hy : 0 ≤ y ∧ y ≤ 20) (hn : gs.length ≤ 100000) (hlo : lo ≤ w.heap.size) :
    Calls Tryz.prog 124 #[.pointer (some ⟨b, 0, none⟩), .int .i64 p, .int .i64 q] w (RetWQ Qo lo b x y (gs ++ [⟨1, p, q⟩]) G (x + y + gs.length) w) := by
  go_enter Tryz.func124, Tryz.ntmps124
  go_wp2_with fail
  refine (ciMaker_gateQ_any lo b x y gs G 1 p q w hm hx hy hn hlo).mono ?_
  rintro e w1 ⟨G1, rfl, hm1, hv1⟩
  go_wp2
  go_ret
  exact ⟨G1, rfl, hm1, hv1⟩
theorem maker_notQ_any (lo b : Nat) (x y : Int) (gs : List G3) (G : Option Nat) (p : Int) (w : World) (hm : MkQ Qo w lo b x y gs G) (hx : 0 ≤ x ∧ x ≤ 20) (hy : 0 ≤ y ∧ y ≤ 20) (hn : gs.length ≤ 100000) (hlo : lo ≤ w.heap.size) :
    Calls Tryz.prog 136 #[.pointer (some ⟨b, 0, none⟩), .int .i64 p] w (RetWQ Qo lo b x y (gs ++ [⟨2, p, 0⟩]) G (x + y + gs.length) w) := by
  go_enter Tryz.func136, Tryz.ntmps136
  go_wp2_with fail
  refine (maker_gateQ_any lo b x y gs G 2 p 0 w hm hx hy hn hlo).mono ?_
  rintro e w1 ⟨G1, rfl, hm1, hv1⟩
  go_wp2
  go_ret
  exact ⟨G1, rfl, hm1, hv1⟩
theorem ciMaker_notQ_any (lo b : Nat) (x y : Int) (gs : List G3) (G : Option Nat) (p : Int) (w : World) (hm : MkQ Qo w lo b x y gs G) (hx : 0 ≤ x ∧ x ≤ 20) (hy : 0 ≤ y ∧ y ≤ 20) (hn : gs.length ≤ 100000) (hlo : lo ≤ w.heap.size) :
    Calls Tryz.prog 95 #[.pointer (some ⟨b, 0, none⟩), .int .i64 p] w (RetWQ Qo lo b x y (gs ++ [⟨2, p, 0⟩]) G (x + y + gs.length) w) := by
  go_enter Tryz.func95, Tryz.ntmps95
  go_wp2_with fail
  refine (ciMaker_gateQ_any lo b x y gs G 2 p 0 w hm hx hy hn hlo).mono ?_
  rintro e w1 ⟨G1, rfl, hm1, hv1⟩
  go_wp2
  go_ret
  exact ⟨G1, rfl, hm1, hv1⟩
theorem ciMaker_oneQ_any (lo b : Nat) (x y : Int) (gs : List G3) (G : Option Nat) (w : World) (hm : MkQ Qo w lo b x y gs G) (hx : 0 ≤ x ∧ x ≤ 20) (hy : 0 ≤ y ∧ y ≤ 20) (hn : gs.length ≤ 100000) (hlo : lo ≤ w.heap.size) :
    Calls Tryz.prog 119 #[.pointer (some ⟨b, 0, none⟩)] w (RetWQ Qo lo b x y (gs ++ [⟨3, 0, 0⟩]) G (x + y + gs.length) w) := by
  go_enter Tryz.func119, Tryz.ntmps119
  go_wp2_with fail
  refine (ciMaker_gateQ_any lo b x y gs G 3 0 0 w hm hx hy hn hlo).mono ?_
  rintro e w1 ⟨G1, rfl, hm1, hv1⟩
  go_wp2
  go_ret
  exact ⟨G1, rfl, hm1, hv1⟩
theorem maker_xorQ_v (lo b : Nat) (x y : Int) (gs : List G3) (G : Option Nat) (p q v : Int) (w : World) (hm : MkQ Qo w lo b x y gs G) (hx : 0 ≤ x ∧ x ≤ 20) (hy : 0 ≤ y ∧ y ≤ 20) (hn : gs.length ≤ 100000) (hlo : lo ≤ w.heap.size) (hv : x + y + (gs.length : Int) = v) :
    Calls Tryz.prog 150 #[.pointer (some ⟨b, 0, none⟩), .int .i64 p, .int .i64 q] w (RetWQ Qo lo b x y (gs ++ [⟨0, p, q⟩]) G v w) := by
  subst hv; exact maker_xorQ_any lo b x y gs G p q w hm hx hy hn hlo
theorem maker_andQ_v (lo b : Nat) (x y : Int) (gs : List G3) (G : Option Nat) (p q v : Int) (w : World) (hm : MkQ Qo w lo b x y gs G) (hx : 0 ≤ x ∧ x ≤ 20) (hy : 0 ≤ y ∧ y ≤ 20) (hn : gs.length ≤ 100000) (hlo : lo ≤ w.heap.size) (hv : x + y + (gs.length : Int) = v) :
    Calls Tryz.prog 149 #[.pointer (some ⟨b, 0, none⟩), .int .i64 p, .int .i64 q] w (RetWQ Qo lo b x y (gs ++ [⟨1, p, q⟩]) G v w) := by
  subst hv; exact maker_andQ_any lo b x y gs G p q w hm hx hy hn hlo
theorem ciMaker_xorQ_v (lo b : Nat) (x y : Int) (gs : List G3) (G : Option Nat) (p q v : Int) (w : World) (hm : MkQ Qo w lo b x y gs G) (hx : 0 ≤ x ∧ x ≤ 20) (hy : 0 ≤ y ∧ y ≤ 20) (hn : gs.length ≤ 100000) (hlo : lo ≤ w.heap.size) (hv : x + y + (gs.length : Int) = v) :
    Calls Tryz.prog 125 #[.pointer (some ⟨b, 0, none⟩), .int .i64 p, .int .i64 q] w (RetWQ Qo lo b x y (gs ++ [⟨0, p, q⟩]) G v w) := by
  subst hv; exact ciMaker_xorQ_any lo b x y gs G p q w hm hx hy hn hlo
theorem ciMaker_andQ_v (lo b : Nat) (x y : Int) (gs : List G3) (G : Option Nat) (p q v : Int) (w : World) (hm : MkQ Qo w lo b x y gs G) (hx : 0 ≤ x ∧ x ≤ 20) (hy : 0 ≤ y ∧ y ≤ 20) (hn : gs.length ≤ 100000) (hlo : lo ≤ w.heap.size) (hv : x + y + (gs.length : Int) = v) :
    Calls Tryz.prog 124 #[.pointer (some ⟨b, 0, none⟩), .int .i64 p, .int .i64 q] w (RetWQ Qo lo b x y (gs ++ [⟨1, p, q⟩]) G v w) := by
  subst hv; exact ciMaker_andQ_any lo b x y gs G p q w hm hx hy hn hlo
theorem maker_notQ_v (lo b : Nat) (x y : Int) (gs : List G3) (G : Option Nat) (p v : Int) (w : World) (hm : MkQ Qo w lo b x y gs G) (hx : 0 ≤ x ∧ x ≤ 20) (hy : 0 ≤ y ∧ y ≤ 20) (hn : gs.length ≤ 100000) (hlo : lo ≤ w.heap.size) (hv : x + y + (gs.length : Int) = v) :
    Calls Tryz.prog 136 #[.pointer (some ⟨b, 0, none⟩), .int .i64 p] w (RetWQ Qo lo b x y (gs ++ [⟨2, p, 0⟩]) G v w) := by
  subst hv; exact maker_notQ_any lo b x y gs G p w hm hx hy hn hlo
theorem ciMaker_notQ_v (lo b : Nat) (x y : Int) (gs : List G3) (G : Option Nat) (p v : Int) (w : World) (hm : MkQ Qo w lo b x y gs G) (hx : 0 ≤ x ∧ x ≤ 20) (hy : 0 ≤ y ∧ y ≤ 20) (hn : gs.length ≤ 100000) (hlo : lo ≤ w.heap.size) (hv : x + y + (gs.length : Int) = v) :
    Calls Tryz.prog 95 #[.pointer (some ⟨b, 0, none⟩), .int .i64 p] w (RetWQ Qo lo b x y (gs ++ [⟨2, p, 0⟩]) G v w) := by
  subst hv; exact ciMaker_notQ_any lo b x y gs G p w hm hx hy hn hlo
theorem maker_zeroQ_v (lo b : Nat) (x y : Int) (gs : List G3) (G : Option Nat) (v : Int) (w : World) (hm : MkQ Qo w lo b x y gs G) (hx : 0 ≤ x ∧ x ≤ 20) (hy : 0 ≤ y ∧ y ≤ 20) (hn : gs.length ≤ 90000) (hlo : lo ≤ w.heap.size) (hv : x + y + (gs.length : Int) = v) :
    Calls Tryz.prog 144 #[.pointer (some ⟨b, 0, none⟩)] w (RetWQ Qo lo b x y (gs ++ [⟨3, 0, 0⟩] ++ [⟨2, v, 0⟩]) G (v + 1) w) := by
  subst hv
  go_enter Tryz.func144, Tryz.ntmps144
  go_wp2_with fail
  refine (maker_gateQ_any lo b x y gs G 3 0 0 w hm hx hy (by omega) hlo).mono ?_
  rintro e w1 ⟨G1, rfl, hm1, hv1⟩
  go_wp2_with fail
  refine (maker_notQ_v lo b x y (gs ++ [⟨3, 0, 0⟩]) G1 (x + y + gs.length) (x + y + gs.length + 1) _ hm1 hx hy (by simp; omega) (Nat.le_trans hlo hv1.size) (by simp; omega)).mono ?_
  rintro e w2 ⟨G2, rfl, hm2, hv2⟩
  go_wp2
  go_ret
  exact ⟨G2, rfl, hm2, hv1.trans_ hv2⟩
end Go.Proofs.YtjjphaiomaiilaaGreat
