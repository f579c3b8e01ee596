/- Slices of bytes that came in: what the walks ask of them. No condition. -/
import Derived.Test.YtikgagjoapggnaaQP01
import Derived.Test.YtikgagjoapggnaaQP07
namespace Go.Proofs.Ytikgagjoapggnaa
open Go.ChangeShapes Go.WideShapes Go.ChangeAt Go.RowKit
set_option linter.unusedVariables false
set_option linter.unusedSimpArgs false
def RY0 (w : World) (A : Option Addr) (n : Nat) : Prop := 0 < n → ∃ b o, A = some ⟨b, o, none⟩ ∧ b < w.heap.size ∧ ∀ i, i < n → ∃ x : Nat, x < 256 ∧ w.cell? ⟨b, o + i, none⟩ = some (.int .u8 x)
theorem RY0.ry {w : World} {A : Option Addr} {n : Nat} (h : RY0 w A n) (hn : n ≤ 2097152) : RY w A n := ⟨hn, h⟩
theorem RY_of_trod {H : Type} {enc : TypeId × Value → H} {W : World} {base : Nat} {v : Value} {d : DataW H} {p : List MemPlace} (hval : Value.okWide Try.prog W .any base 22 v)
    (h : DataW.Trod enc Try.prog W 0 (fun _ => true) true 22 v d p) : ∃ a n c, v = .slice a n c ∧ RY0 W a n ∧ (n = 0 ∨ ∃ es sp, d = .slice es sp ∧ n ≤ es.length) := by
  obtain ⟨a, n, c, rfl⟩ := okWide_slice Try.underlying22 hval
  obtain ⟨fuel, hf⟩ := h
  refine ⟨a, n, c, rfl, ?_⟩
  rcases open_ints Try.underlying22 Try.underlying5 (by kernel_rfl) hf with ⟨hcs, _⟩ | ⟨x, l, c', zs, hcs, _, hl, hm, hz, hx, hcell, hwz⟩
  · simp [Value.cells] at hcs
    obtain ⟨rfl, rfl, rfl⟩ := hcs
    exact ⟨fun h => absurd h (by omega), .inl rfl⟩
  · simp [Value.cells] at hcs
    obtain ⟨rfl, rfl, rfl⟩ := hcs
    simp only [if_true] at hz
    simp only [Prod.mk.injEq] at hx
    refine ⟨fun hn => ?_, .inr ⟨_, _, hx.1, by simp [lits]; omega⟩⟩
    obtain ⟨b, o, spot⟩ := x
    have hc := hcell 0 (by omega)
    have hspot : spot = none := by simpa [Addr.add] using World.cell?_spot hc
    subst hspot
    refine ⟨b, o, rfl, World.block_lt_of_cell? W _ (by simpa [Addr.add] using hc), fun j hj => ?_⟩
    have h1 := hcell j (by omega)
    have h2 : (⟨b, o, none⟩ : Addr).add j = ⟨b, o + j, none⟩ := by
      unfold Addr.add; split
      · rename_i h; subst h; rfl
      · rfl
    rw [h2] at h1
    have hr := range_u8 hwz j
    refine ⟨(zs.getD j 0).toNat, ?_, ?_⟩
    · rw [List.getD_eq_getElem?_getD]; omega
    · rw [h1, List.getD_eq_getElem?_getD, Int.toNat_of_nonneg hr.1]
end Go.Proofs.Ytikgagjoapggnaa
