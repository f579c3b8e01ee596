/- Contracts of BesideCircuit's closures. Contract of ciMoved: gates moved by a list of wires. Contract of appended: a circuit's gates and outs, moved by a closure, behind a circuit of the call's own. BesideCircuit: what it returns, in plain words; the program's own. Lengths below 2^21. -/
import Derived.Test.YtapemogbphlnoaaQMvd
import Derived.Test.YtapemogbphlnoaaQAo
import Derived.Test.YtapemogbphlnoaaQNum
import Derived.Test.YtapemogbphlnoaaQAlt
namespace Go.Proofs.Ytapemogbphlnoaa
open Go.RowKit
set_option linter.unusedVariables false
set_option linter.unusedSimpArgs false

/-- Where the wires of the first circuit, of the second one, go. -/
def bes1 (x y u v z : Int) : Int := if z < x then z else if z < x + y then z + u else z + (u + v)
def bes2 (x y u v : Int) (ng : Nat) (z : Int) : Int := if z < u then x + z else if z < u + v then x + y + z else x + y + ng + z

end Go.Proofs.Ytapemogbphlnoaa

namespace Go.Proofs.Ytapemogbphlnoaa
open Go.RowKit
set_option linter.unusedVariables false
set_option linter.unusedSimpArgs false

theorem OwnC.growG {w w' : World} {lo hi : Nat} {Ag Ag' : Option Addr} {ng cg ng' cg' : Nat} {Ao : Option Addr} {no co : Nat} {gs gs' : List G3} {os : List Int} (h : OwnC w lo hi Ag ng cg Ao no co gs os) (ho : OwnG w' lo w'.heap.size (.slice Ag' ng' cg') ng' gs') (hg : w.grownBy w' (Value.slice Ag ng cg).ownBlock)
    (hat : (Value.slice Ag' ng' cg').ownBlock = (Value.slice Ag ng cg).ownBlock ∨ (Value.slice Ag' ng' cg').ownBlock = some w.heap.size) : OwnC w' lo w'.heap.size Ag' ng' cg' Ao no co gs' os := by
  have ha := h.2.2
  refine ⟨ho, ⟨(h.2.1.1.kept hg ?_), fun g hg' => Nat.lt_of_lt_of_le (h.2.1.lt g hg').2.2 hg.size⟩, fun g h1 h2 => ?_⟩
  · cases hv : (Value.slice Ao no co).ownBlock with
    | none => exact .inl rfl
    | some g => exact .inr (fun he => ha g he.symm hv)
  · rcases hat with h3 | h3
    · exact ha g (h3 ▸ h1) h2
    · rw [h3] at h1; injection h1 with h1; have := h.2.1.lt g h2; omega
theorem OwnC.growI {w w' : World} {lo hi : Nat} {Ag : Option Addr} {ng cg : Nat} {Ao Ao' : Option Addr} {no co no' co' : Nat} {gs : List G3} {os os' : List Int} (h : OwnC w lo hi Ag ng cg Ao no co gs os) (ho : Own w' lo w'.heap.size (.slice Ao' no' co') no' os') (hg : w.grownBy w' (Value.slice Ao no co).ownBlock)
    (hat : (Value.slice Ao' no' co').ownBlock = (Value.slice Ao no co).ownBlock ∨ (Value.slice Ao' no' co').ownBlock = some w.heap.size) : OwnC w' lo w'.heap.size Ag ng cg Ao' no' co' gs os' := by
  have ha := h.2.2
  refine ⟨⟨(h.1.1.kept hg ?_), fun g hg' => Nat.lt_of_lt_of_le (h.1.lt g hg').2.2 hg.size⟩, ho, fun g h1 h2 => ?_⟩
  · cases hv : (Value.slice Ag ng cg).ownBlock with
    | none => exact .inl rfl
    | some g => exact .inr (fun he => ha g hv he.symm)
  · rcases hat with h3 | h3
    · exact ha g h1 (h3 ▸ h2)
    · rw [h3] at h2; injection h2 with h2; have := h.1.lt g h1; omega
theorem RG_one (w : World) (k a b : Int) (t : TypeId) (g : Nat) (hg : w.heap.size = g) : RG (w.alloc (.cells #[.int .i64 k, .int .i64 a, .int .i64 b] t)) (some ⟨g, 0, none⟩) 1 [⟨k, a, b⟩] := by
  subst hg; exact RG_new1 w k a b t
/-- The first k gates moved. -/
def mvs (to : Int → Int) (ds : List G3) (k : Nat) : List G3 := (ds.take k).map (mvG to)
theorem mvs_succ (to : Int → Int) {ds : List G3} {k : Nat} (h : k < ds.length) : mvs to ds (k + 1) = mvs to ds k ++ [mvG to (gg ds k)] := by
  unfold mvs; rw [gg_take_snoc h, List.map_append]; rfl
theorem mvs_len (to : Int → Int) {ds : List G3} {k : Nat} (h : k ≤ ds.length) : (mvs to ds k).length = k := by simp [mvs]; omega
/-- The wires behind k gates. -/
def mws (ws : List Int) (next : Int) (k : Nat) : List Int := ws ++ tab k fun i => next + i
theorem mws_succ (ws : List Int) (next : Int) (k : Nat) : mws ws next (k + 1) = mws ws next k ++ [next + k] := by unfold mws; rw [tab_snoc, List.append_assoc]
theorem mws_len (ws : List Int) (next : Int) (k : Nat) : (mws ws next k).length = ws.length + k := by simp [mws, tab_len]
theorem mws_at {ws : List Int} {next : Int} {k : Nat} {z : Int} (h0 : 0 ≤ z) (h : z < ws.length + k) : gi (mws ws next k) z.toNat = wmap ws next z := gi_tabs h0 h

end Go.Proofs.Ytapemogbphlnoaa

namespace Go.Proofs.Ytapemogbphlnoaa
open Go.RowKit
set_option linter.unusedVariables false
set_option linter.unusedSimpArgs false

/-- The first k outs moved. -/
def mvo (to : Int → Int) (os : List Int) (k : Nat) : List Int := (os.take k).map to
theorem mvo_succ (to : Int → Int) {os : List Int} {k : Nat} (h : k < os.length) : mvo to os (k + 1) = mvo to os k ++ [to (gi os k)] := by
  unfold mvo; rw [gi_take_snoc h, List.map_append]; rfl
theorem mvo_len (to : Int → Int) {os : List Int} {k : Nat} (h : k ≤ os.length) : (mvo to os k).length = k := by simp [mvo]; omega
/-- What the call of appended returns: the circuit's gates and the moved ones behind them; the moved outs; nothing else has turned. -/
def ApdR (w : World) (lo : Nat) (x y : Int) (Ag : Option Addr) (ng cg : Nat) (Ao : Option Addr) (no co : Nat) (gs : List G3) (os : List Int) (mg mo : Nat) (e : Ending) (w' : World) : Prop :=
  ∃ A' c' O oc, e = .returned (.tuple #[.agg #[.int .i64 x, .int .i64 y, .slice A' (ng + mg) c', .slice Ao no co], .slice O mo oc]) ∧ OwnG w' lo w'.heap.size (.slice A' (ng + mg) c') (ng + mg) gs ∧ Own w' w.heap.size w'.heap.size (.slice O mo oc) mo os ∧ Apart (.slice A' (ng + mg) c') (.slice O mo oc) ∧
    ((Value.slice A' (ng + mg) c').ownBlock = (Value.slice Ag ng cg).ownBlock ∨ ∀ g, (Value.slice A' (ng + mg) c').ownBlock = some g → w.heap.size ≤ g) ∧ w.grownBy w' (Value.slice Ag ng cg).ownBlock
theorem Own.newI (w : World) (lo : Nat) (hl : lo ≤ w.heap.size) : Own (w.alloc (.cells #[] 3)) lo (w.heap.size + 1) (.slice (some ⟨w.heap.size, 0, none⟩) 0 0) 0 [] := by
  refine ⟨?_, fun g hg => by simp [Value.ownBlock] at hg; omega⟩
  have h := World.ownsRow_lit (base := lo) (e := 3) (size := 1) w #[] 0 hl (by unfold maxLen; omega) (by simp)
  simpa using h

end Go.Proofs.Ytapemogbphlnoaa

namespace Go.Proofs.Ytapemogbphlnoaa
open Go.RowKit
set_option linter.unusedVariables false
set_option linter.unusedSimpArgs false

/-- Two circuits beside each other. -/
def besGs (x y u v : Int) (gs hs : List G3) : List G3 := mvs (bes1 x y u v) gs gs.length ++ mvs (bes2 x y u v gs.length) hs hs.length
def besOs (x y u v : Int) (gs : List G3) (os ps : List Int) : List Int := mvo (bes1 x y u v) os os.length ++ mvo (bes2 x y u v gs.length) ps ps.length
def besideF (x y : Int) (gs : List G3) (os : List Int) (u v : Int) (hs : List G3) (ps : List Int) : Option Ci :=
  if circB x y gs os && (circB u v hs ps && circB (x + u) (y + v) (besGs x y u v gs hs) (besOs x y u v gs os ps)) then some ⟨x + u, y + v, besGs x y u v gs hs, besOs x y u v gs os ps⟩ else none
theorem besideF_len (x y : Int) (gs : List G3) (os : List Int) (u v : Int) (hs : List G3) (ps : List Int) : ((besideF x y gs os u v hs ps).getD ⟨0, 0, [], []⟩).gs.length ≤ 300 ∧ ((besideF x y gs os u v hs ps).getD ⟨0, 0, [], []⟩).os.length ≤ 40 := by
  unfold besideF
  split
  · rename_i h
    simp only [Bool.and_eq_true] at h
    have := circB_bd h.2.2
    simp only [Option.getD_some]; omega
  · simp
theorem besideF_1 {x y : Int} {gs : List G3} {os : List Int} {u v : Int} {hs : List G3} {ps : List Int} (h : circB x y gs os = false) : besideF x y gs os u v hs ps = none := by simp [besideF, h]
theorem besideF_2 {x y : Int} {gs : List G3} {os : List Int} {u v : Int} {hs : List G3} {ps : List Int} (h : circB u v hs ps = false) : besideF x y gs os u v hs ps = none := by simp [besideF, h]
theorem besideF_3 {x y : Int} {gs : List G3} {os : List Int} {u v : Int} {hs : List G3} {ps : List Int} {ng no mg mo : Nat} (hg : gs.length = ng) (ho : os.length = no) (hh : hs.length = mg) (hp : ps.length = mo) (h : circB (x + u) (y + v) (mvs (bes1 x y u v) gs ng ++ mvs (bes2 x y u v ng) hs mg) (mvo (bes1 x y u v) os no ++ mvo (bes2 x y u v ng) ps mo) = false) : besideF x y gs os u v hs ps = none := by
  subst hg; subst ho; subst hh; subst hp; unfold besideF besGs besOs; simp [h]
theorem besideF_t {x y : Int} {gs : List G3} {os : List Int} {u v : Int} {hs : List G3} {ps : List Int} {ng no mg mo : Nat} (hg : gs.length = ng) (ho : os.length = no) (hh : hs.length = mg) (hp : ps.length = mo) (h0 : circB x y gs os = true) (h1 : circB u v hs ps = true) (h : circB (x + u) (y + v) (mvs (bes1 x y u v) gs ng ++ mvs (bes2 x y u v ng) hs mg) (mvo (bes1 x y u v) os no ++ mvo (bes2 x y u v ng) ps mo) = true) :
    besideF x y gs os u v hs ps = some ⟨x + u, y + v, (mvs (bes1 x y u v) gs ng ++ mvs (bes2 x y u v ng) hs mg), (mvo (bes1 x y u v) os no ++ mvo (bes2 x y u v ng) ps mo)⟩ := by
  subst hg; subst ho; subst hh; subst hp; unfold besideF besGs besOs; simp [h, h0, h1]
theorem GateIs.mono {g : G3} {n m : Int} (h : GateIs g n) (hm : n ≤ m) : GateIs g m := by
  cases h with
  | xor_ hk a0 a1 b0 b1 => exact .xor_ hk a0 (by omega) b0 (by omega)
  | and_ hk a0 a1 b0 b1 => exact .and_ hk a0 (by omega) b0 (by omega)
  | not_ hk a0 a1 b0 => exact .not_ hk a0 (by omega) b0
  | one_ hk a0 b0 => exact .one_ hk a0 b0
theorem circB_gates {x y : Int} {gs : List G3} {os : List Int} {ng : Nat} (h : circB x y gs os = true) (hl : gs.length = ng) : ∀ k, k < ng → GateIs (gg gs k) (x + y + ng) := fun k hk => by
  subst hl
  exact (gatesB_at (circB_bd h).2.2.2.2.1 hk).mono (by omega)
theorem circB_gate_at {x y : Int} {gs : List G3} {os : List Int} {ng : Nat} (h : circB x y gs os = true) (hl : gs.length = ng) : ∀ k : Nat, k < ng → GateIs (gg gs k) (x + y + k) := fun k hk => by
  subst hl
  exact gatesB_at (circB_bd h).2.2.2.2.1 hk
theorem circB_outs {x y : Int} {gs : List G3} {os : List Int} {ng no : Nat} (h : circB x y gs os = true) (hl : gs.length = ng) (ho : os.length = no) : ∀ k, k < no → 0 ≤ gi os k ∧ gi os k < x + y + ng := fun k hk => by
  subst hl
  have := allB_iff.1 (circB_bd h).2.2.2.2.2 (gi os k) (gi_mem (by omega))
  omega

end Go.Proofs.Ytapemogbphlnoaa
