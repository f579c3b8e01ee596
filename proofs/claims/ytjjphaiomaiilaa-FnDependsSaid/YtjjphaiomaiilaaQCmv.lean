/- Contract of ciMoved: gates moved by a list of wires. -/
import Derived.Test.YtjjphaiomaiilaaQAo
import Derived.Test.YtjjphaiomaiilaaQNum
namespace Go.Proofs.Ytjjphaiomaiilaa
open Go.RowKit
set_option linter.unusedVariables false
set_option linter.unusedSimpArgs false

theorem OwnC.growG {w w' : World} {lo hi : Nat} {Ag Ag' : Option Addr} {ng cg ng' cg' : Nat} {Ao : Option Addr} {no co : Nat} {gs gs' : List G3} {os : List Int} (h : OwnC w lo hi Ag ng cg Ao no co gs os) (ho : OwnG w' lo w'.heap.size (.slice Ag' ng' cg') ng' gs') (hg : w.grownBy w' (Value.slice Ag ng cg).ownBlock)
    (hat : (Value.slice Ag' ng' cg').ownBlock = (Value.slice Ag ng cg).ownBlock ∨ (Value.slice Ag' ng' cg').ownBlock = some w.heap.size) : OwnC w' lo w'.heap.size Ag' ng' cg' Ao no co gs' os := by
  have ha := h.2.2
  refine ⟨ho, ⟨(h.2.1.1.kept hg ?_), fun g hg' => Nat.lt_of_lt_of_le (h.2.1.lt g hg').2.2 hg.size⟩, fun g h1 h2 => ?_⟩
  · cases hv : (Value.slice Ao no co).ownBlock with
    | none => exact .inl rfl
    | some g => exact .inr (fun he => ha g he.symm hv)
  · rcases hat with h3 | h3
    · exact ha g (h3 ▸ h1) h2
    · rw [h3] at h1; injection h1 with h1; have := h.2.1.lt g h2; omega
theorem OwnC.growI {w w' : World} {lo hi : Nat} {Ag : Option Addr} {ng cg : Nat} {Ao Ao' : Option Addr} {no co no' co' : Nat} {gs : List G3} {os os' : List Int} (h : OwnC w lo hi Ag ng cg Ao no co gs os) (ho : Own w' lo w'.heap.size (.slice Ao' no' co') no' os') (hg : w.grownBy w' (Value.slice Ao no co).ownBlock)
    (hat : (Value.slice Ao' no' co').ownBlock = (Value.slice Ao no co).ownBlock ∨ (Value.slice Ao' no' co').ownBlock = some w.heap.size) : OwnC w' lo w'.heap.size Ag ng cg Ao' no' co' gs os' := by
  have ha := h.2.2
  refine ⟨⟨(h.1.1.kept hg ?_), fun g hg' => Nat.lt_of_lt_of_le (h.1.lt g hg').2.2 hg.size⟩, ho, fun g h1 h2 => ?_⟩
  · cases hv : (Value.slice Ag ng cg).ownBlock with
    | none => exact .inl rfl
    | some g => exact .inr (fun he => ha g hv he.symm)
  · rcases hat with h3 | h3
    · exact ha g h1 (h3 ▸ h2)
    · rw [h3] at h2; injection h2 with h2; have := h.1.lt g h1; omega
theorem RG_one (w : World) (k a b : Int) (t : TypeId) (g : Nat) (hg : w.heap.size = g) : RG (w.alloc (.cells #[.int .i64 k, .int .i64 a, .int .i64 b] t)) (some ⟨g, 0, none⟩) 1 [⟨k, a, b⟩] := by
  subst hg; exact RG_new1 w k a b t
/-- The first k gates moved. -/
def mvs (to : Int → Int) (ds : List G3) (k : Nat) : List G3 := (ds.take k).map (mvG to)
theorem mvs_succ (to : Int → Int) {ds : List G3} {k : Nat} (h : k < ds.length) : mvs to ds (k + 1) = mvs to ds k ++ [mvG to (gg ds k)] := by
  unfold mvs; rw [gg_take_snoc h, List.map_append]; rfl
theorem mvs_len (to : Int → Int) {ds : List G3} {k : Nat} (h : k ≤ ds.length) : (mvs to ds k).length = k := by simp [mvs]; omega
/-- The wires behind k gates. -/
def mws (ws : List Int) (next : Int) (k : Nat) : List Int := ws ++ tab k fun i => next + i
theorem mws_succ (ws : List Int) (next : Int) (k : Nat) : mws ws next (k + 1) = mws ws next k ++ [next + k] := by unfold mws; rw [tab_snoc, List.append_assoc]
theorem mws_len (ws : List Int) (next : Int) (k : Nat) : (mws ws next k).length = ws.length + k := by simp [mws, tab_len]
theorem mws_at {ws : List Int} {next : Int} {k : Nat} {z : Int} (h0 : 0 ≤ z) (h : z < ws.length + k) : gi (mws ws next k) z.toNat = wmap ws next z := gi_tabs h0 h

end Go.Proofs.Ytjjphaiomaiilaa
