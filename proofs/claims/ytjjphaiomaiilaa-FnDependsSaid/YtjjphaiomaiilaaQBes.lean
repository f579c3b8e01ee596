/- BesideCircuit: what it returns, in plain words; the program's own. Lengths below 2^21. -/
import Derived.Test.YtjjphaiomaiilaaQApd
import Derived.Test.YtjjphaiomaiilaaQMvd
namespace Go.Proofs.Ytjjphaiomaiilaa
open Go.RowKit
set_option linter.unusedVariables false
set_option linter.unusedSimpArgs false

/-- Two circuits beside each other. -/
def besGs (x y u v : Int) (gs hs : List G3) : List G3 := mvs (bes1 x y u v) gs gs.length ++ mvs (bes2 x y u v gs.length) hs hs.length
def besOs (x y u v : Int) (gs : List G3) (os ps : List Int) : List Int := mvo (bes1 x y u v) os os.length ++ mvo (bes2 x y u v gs.length) ps ps.length
def besideF (x y : Int) (gs : List G3) (os : List Int) (u v : Int) (hs : List G3) (ps : List Int) : Option Ci :=
  if circB x y gs os && (circB u v hs ps && circB (x + u) (y + v) (besGs x y u v gs hs) (besOs x y u v gs os ps)) then some ⟨x + u, y + v, besGs x y u v gs hs, besOs x y u v gs os ps⟩ else none
theorem besideF_len (x y : Int) (gs : List G3) (os : List Int) (u v : Int) (hs : List G3) (ps : List Int) : ((besideF x y gs os u v hs ps).getD ⟨0, 0, [], []⟩).gs.length ≤ 300 ∧ ((besideF x y gs os u v hs ps).getD ⟨0, 0, [], []⟩).os.length ≤ 40 := by
  unfold besideF
  split
  · rename_i h
    simp only [Bool.and_eq_true] at h
    have := circB_bd h.2.2
    simp only [Option.getD_some]; omega
  · simp
theorem besideF_1 {x y : Int} {gs : List G3} {os : List Int} {u v : Int} {hs : List G3} {ps : List Int} (h : circB x y gs os = false) : besideF x y gs os u v hs ps = none := by simp [besideF, h]
theorem besideF_2 {x y : Int} {gs : List G3} {os : List Int} {u v : Int} {hs : List G3} {ps : List Int} (h : circB u v hs ps = false) : besideF x y gs os u v hs ps = none := by simp [besideF, h]
theorem besideF_3 {x y : Int} {gs : List G3} {os : List Int} {u v : Int} {hs : List G3} {ps : List Int} {ng no mg mo : Nat} (hg : gs.length = ng) (ho : os.length = no) (hh : hs.length = mg) (hp : ps.length = mo) (h : circB (x + u) (y + v) (mvs (bes1 x y u v) gs ng ++ mvs (bes2 x y u v ng) hs mg) (mvo (bes1 x y u v) os no ++ mvo (bes2 x y u v ng) ps mo) = false) : besideF x y gs os u v hs ps = none := by
  subst hg; subst ho; subst hh; subst hp; unfold besideF besGs besOs; simp [h]
theorem besideF_t {x y : Int} {gs : List G3} {os : List Int} {u v : Int} {hs : List G3} {ps : List Int} {ng no mg mo : Nat} (hg : gs.length = ng) (ho : os.length = no) (hh : hs.length = mg) (hp : ps.length = mo) (h0 : circB x y gs os = true) (h1 : circB u v hs ps = true) (h : circB (x + u) (y + v) (mvs (bes1 x y u v) gs ng ++ mvs (bes2 x y u v ng) hs mg) (mvo (bes1 x y u v) os no ++ mvo (bes2 x y u v ng) ps mo) = true) :
    besideF x y gs os u v hs ps = some ⟨x + u, y + v, (mvs (bes1 x y u v) gs ng ++ mvs (bes2 x y u v ng) hs mg), (mvo (bes1 x y u v) os no ++ mvo (bes2 x y u v ng) ps mo)⟩ := by
  subst hg; subst ho; subst hh; subst hp; unfold besideF besGs besOs; simp [h, h0, h1]
theorem GateIs.mono {g : G3} {n m : Int} (h : GateIs g n) (hm : n ≤ m) : GateIs g m := by
  cases h with
  | xor_ hk a0 a1 b0 b1 => exact .xor_ hk a0 (by omega) b0 (by omega)
  | and_ hk a0 a1 b0 b1 => exact .and_ hk a0 (by omega) b0 (by omega)
  | not_ hk a0 a1 b0 => exact .not_ hk a0 (by omega) b0
  | one_ hk a0 b0 => exact .one_ hk a0 b0
theorem circB_gates {x y : Int} {gs : List G3} {os : List Int} {ng : Nat} (h : circB x y gs os = true) (hl : gs.length = ng) : ∀ k, k < ng → GateIs (gg gs k) (x + y + ng) := fun k hk => by
  subst hl
  exact (gatesB_at (circB_bd h).2.2.2.2.1 hk).mono (by omega)
theorem circB_gate_at {x y : Int} {gs : List G3} {os : List Int} {ng : Nat} (h : circB x y gs os = true) (hl : gs.length = ng) : ∀ k : Nat, k < ng → GateIs (gg gs k) (x + y + k) := fun k hk => by
  subst hl
  exact gatesB_at (circB_bd h).2.2.2.2.1 hk
theorem circB_outs {x y : Int} {gs : List G3} {os : List Int} {ng no : Nat} (h : circB x y gs os = true) (hl : gs.length = ng) (ho : os.length = no) : ∀ k, k < no → 0 ≤ gi os k ∧ gi os k < x + y + ng := fun k hk => by
  subst hl
  have := allB_iff.1 (circB_bd h).2.2.2.2.2 (gi os k) (gi_mem (by omega))
  omega

end Go.Proofs.Ytjjphaiomaiilaa
