/- Contracts of BesideCircuit's closures. -/
import Derived.Test.YtgenehiiakdadaaQMvd
namespace Go.Proofs.Ytgenehiiakdadaa
open Go.RowKit
set_option linter.unusedVariables false
set_option linter.unusedSimpArgs false

/-- Where the wires of the first circuit, of the second one, go. -/
def bes1 (x y u v z : Int) : Int := if z < x then z else if z < x + y then z + u else z + (u + v)
def bes2 (x y u v : Int) (ng : Nat) (z : Int) : Int := if z < u then x + z else if z < u + v then x + y + z else x + y + ng + z

theorem Beside_1_any (Bc Bd : Nat) (x y : Int) (Ag : Option Addr) (ng cg : Nat) (Ao : Option Addr) (no co : Nat) (u v : Int) (Dg : Option Addr) (mg dg : Nat) (Do : Option Addr) (mo do_ : Nat) (z : Int) (w : World) (hc : BxC w Bc x y Ag ng cg Ao no co) (hd : BxC w Bd u v Dg mg dg Do mo do_) (hx : 0 ≤ x ∧ x ≤ 20) (hy : 0 ≤ y ∧ y ≤ 20) (hu : 0 ≤ u ∧ u ≤ 20) (hv : 0 ≤ v ∧ v ≤ 20) (hn : ng ≤ 300) (hz : 0 ≤ z ∧ z ≤ 1000000) :
    Calls Try.prog 24 #[.int .i64 z, .pointer (some ⟨Bc, 0, none⟩), .pointer (some ⟨Bd, 0, none⟩)] w fun e w' => e = .returned (.int .i64 (bes1 x y u v z)) ∧ Below w.heap.size w w' := by
  have hc0 := hc; have hd0 := hd
  obtain ⟨k0, k1, k2, k3⟩ := hc0
  obtain ⟨l0, l1, l2, l3⟩ := hd0
  by_cases h1 : z < x
  · have HR : Hid (bes1 x y u v z = z) := Lib.hid (by simp [bes1, h1])
    go_enter Try.func24, Try.ntmps24
    go_wp2
    go_ret
    exact ⟨by rw [HR.out]; rfl, Below.refl _ _⟩
  · by_cases h2 : z < x + y
    · have HR : Hid (bes1 x y u v z = z + u) := Lib.hid (by simp [bes1, h1, h2])
      go_enter Try.func24, Try.ntmps24
      go_wp2_with fail
      refine (Circuit_inputs_any x y Ag ng cg Ao no co _ hx hy).mono ?_
      rintro e w1 ⟨rfl, hb1⟩
      have hd1 := hd.below hb1
      clear l0 l1 l2 l3
      obtain ⟨l0, l1, l2, l3⟩ := hd1
      go_wp2
      go_ret
      exact ⟨by rw [HR.out]; rfl, hb1⟩
    · have HR : Hid (bes1 x y u v z = z + (u + v)) := Lib.hid (by simp [bes1, h1, h2])
      go_enter Try.func24, Try.ntmps24
      go_wp2_with fail
      refine (Circuit_inputs_any x y Ag ng cg Ao no co _ hx hy).mono ?_
      rintro e w1 ⟨rfl, hb1⟩
      have hd1 := hd.below hb1
      clear l0 l1 l2 l3
      obtain ⟨l0, l1, l2, l3⟩ := hd1
      go_wp2_with fail
      refine (Circuit_inputs_any u v Dg mg dg Do mo do_ _ hu hv).mono ?_
      rintro e w2 ⟨rfl, hb2⟩
      go_wp2
      go_ret
      exact ⟨by rw [HR.out]; rfl, hb1.trans (hb2.mono hb1.size)⟩

theorem Beside_2_any (Bc Bd : Nat) (x y : Int) (Ag : Option Addr) (ng cg : Nat) (Ao : Option Addr) (no co : Nat) (u v : Int) (Dg : Option Addr) (mg dg : Nat) (Do : Option Addr) (mo do_ : Nat) (z : Int) (w : World) (hc : BxC w Bc x y Ag ng cg Ao no co) (hd : BxC w Bd u v Dg mg dg Do mo do_) (hx : 0 ≤ x ∧ x ≤ 20) (hy : 0 ≤ y ∧ y ≤ 20) (hu : 0 ≤ u ∧ u ≤ 20) (hv : 0 ≤ v ∧ v ≤ 20) (hn : ng ≤ 300) (hz : 0 ≤ z ∧ z ≤ 1000000) :
    Calls Try.prog 26 #[.int .i64 z, .pointer (some ⟨Bd, 0, none⟩), .pointer (some ⟨Bc, 0, none⟩)] w fun e w' => e = .returned (.int .i64 (bes2 x y u v ng z)) ∧ Below w.heap.size w w' := by
  have hc0 := hc; have hd0 := hd
  obtain ⟨k0, k1, k2, k3⟩ := hc0
  obtain ⟨l0, l1, l2, l3⟩ := hd0
  by_cases h1 : z < u
  · have HR : Hid (bes2 x y u v ng z = x + z) := Lib.hid (by simp [bes2, h1])
    go_enter Try.func26, Try.ntmps26
    go_wp2
    go_ret
    exact ⟨by rw [HR.out]; rfl, Below.refl _ _⟩
  · by_cases h2 : z < u + v
    · have HR : Hid (bes2 x y u v ng z = x + y + z) := Lib.hid (by simp [bes2, h1, h2])
      go_enter Try.func26, Try.ntmps26
      go_wp2_with fail
      refine (Circuit_inputs_any u v Dg mg dg Do mo do_ _ hu hv).mono ?_
      rintro e w1 ⟨rfl, hb1⟩
      have hc1 := hc.below hb1
      clear k0 k1 k2 k3
      obtain ⟨k0, k1, k2, k3⟩ := hc1
      go_wp2_with fail
      refine (Circuit_inputs_any x y Ag ng cg Ao no co _ hx hy).mono ?_
      rintro e w2 ⟨rfl, hb2⟩
      go_wp2
      go_ret
      exact ⟨by rw [HR.out]; rfl, hb1.trans (hb2.mono hb1.size)⟩
    · have HR : Hid (bes2 x y u v ng z = x + y + ng + z) := Lib.hid (by simp [bes2, h1, h2])
      go_enter Try.func26, Try.ntmps26
      go_wp2_with fail
      refine (Circuit_inputs_any u v Dg mg dg Do mo do_ _ hu hv).mono ?_
      rintro e w1 ⟨rfl, hb1⟩
      have hc1 := hc.below hb1
      clear k0 k1 k2 k3
      obtain ⟨k0, k1, k2, k3⟩ := hc1
      go_wp2_with fail
      refine (Circuit_wires_any x y Ag ng cg Ao no co _ hx hy (by omega)).mono ?_
      rintro e w2 ⟨rfl, hb2⟩
      go_wp2
      go_ret
      exact ⟨by rw [HR.out]; rfl, hb1.trans (hb2.mono hb1.size)⟩

end Go.Proofs.Ytgenehiiakdadaa
