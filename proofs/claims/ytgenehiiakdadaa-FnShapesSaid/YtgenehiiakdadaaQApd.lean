/- Contract of appended: a circuit's gates and outs, moved by a closure, behind a circuit of the call's own. -/
import Derived.Test.YtgenehiiakdadaaQBsd
import Derived.Test.YtgenehiiakdadaaQCmv
import Derived.Test.YtgenehiiakdadaaQAlt
namespace Go.Proofs.Ytgenehiiakdadaa
open Go.RowKit
set_option linter.unusedVariables false
set_option linter.unusedSimpArgs false

/-- The first k outs moved. -/
def mvo (to : Int → Int) (os : List Int) (k : Nat) : List Int := (os.take k).map to
theorem mvo_succ (to : Int → Int) {os : List Int} {k : Nat} (h : k < os.length) : mvo to os (k + 1) = mvo to os k ++ [to (gi os k)] := by
  unfold mvo; rw [gi_take_snoc h, List.map_append]; rfl
theorem mvo_len (to : Int → Int) {os : List Int} {k : Nat} (h : k ≤ os.length) : (mvo to os k).length = k := by simp [mvo]; omega
/-- What the call of appended returns: the circuit's gates and the moved ones behind them; the moved outs; nothing else has turned. -/
def ApdR (w : World) (lo : Nat) (x y : Int) (Ag : Option Addr) (ng cg : Nat) (Ao : Option Addr) (no co : Nat) (gs : List G3) (os : List Int) (mg mo : Nat) (e : Ending) (w' : World) : Prop :=
  ∃ A' c' O oc, e = .returned (.tuple #[.agg #[.int .i64 x, .int .i64 y, .slice A' (ng + mg) c', .slice Ao no co], .slice O mo oc]) ∧ OwnG w' lo w'.heap.size (.slice A' (ng + mg) c') (ng + mg) gs ∧ Own w' w.heap.size w'.heap.size (.slice O mo oc) mo os ∧ Apart (.slice A' (ng + mg) c') (.slice O mo oc) ∧
    ((Value.slice A' (ng + mg) c').ownBlock = (Value.slice Ag ng cg).ownBlock ∨ ∀ g, (Value.slice A' (ng + mg) c').ownBlock = some g → w.heap.size ≤ g) ∧ w.grownBy w' (Value.slice Ag ng cg).ownBlock
theorem Own.newI (w : World) (lo : Nat) (hl : lo ≤ w.heap.size) : Own (w.alloc (.cells #[] 3)) lo (w.heap.size + 1) (.slice (some ⟨w.heap.size, 0, none⟩) 0 0) 0 [] := by
  refine ⟨?_, fun g hg => by simp [Value.ownBlock] at hg; omega⟩
  have h := World.ownsRow_lit (base := lo) (e := 3) (size := 1) w #[] 0 hl (by unfold maxLen; omega) (by simp)
  simpa using h

set_option maxRecDepth 100000 in
set_option maxHeartbeats 3000000 in
theorem appended_any (f : FuncId) (hcf : ∀ args w, Sem.run Try.prog (callFunc f args) w = .ok (.enter f args) w) (cap : Array Value) (to : Int → Int) (x y : Int) (Ag : Option Addr) (ng cg : Nat) (Ao : Option Addr) (no co : Nat) (u v : Int) (Dg : Option Addr) (mg dg : Nat) (Do : Option Addr) (mo do_ : Nat)
    (gs ds : List G3) (os : List Int) (n : Int) (lo hi : Nat) (w : World) (hown : OwnG w lo hi (.slice Ag ng cg) ng gs) (hr : RG w Dg mg ds ∧ RI w Do mo os) (hdlo : (0 < mg → ∀ b o, Dg = some ⟨b, o, none⟩ → b < lo) ∧ (0 < mo → ∀ b o, Do = some ⟨b, o, none⟩ → b < lo)) (hlo : lo ≤ w.heap.size)
    (hgat : ∀ k, k < mg → GateIs (gg ds k) n) (hos : ∀ k, k < mo → 0 ≤ gi os k ∧ gi os k < n) (hng : ng ≤ 100000) (hmg : mg ≤ 100000) (hmo : mo ≤ 100000)
    (hf : Hid (∀ z, 0 ≤ z → z < n → ∀ w1, Below lo w w1 → Calls Try.prog f (#[.int .i64 z] ++ cap) w1 fun e w' => e = .returned (.int .i64 (to z)) ∧ Below w1.heap.size w1 w')) :
    Calls Try.prog 23 #[.agg #[.int .i64 x, .int .i64 y, .slice Ag ng cg, .slice Ao no co], .agg #[.int .i64 u, .int .i64 v, .slice Dg mg dg, .slice Do mo do_], .func (.func f) #[] cap] w
      (ApdR w lo x y Ag ng cg Ao no co (gs ++ mvs to ds mg) (mvo to os mo) mg mo) := by
  have hlm := hr.1.len
  have hlom := hr.2.len
  obtain ⟨R, hR⟩ : ∃ R, Hid ((Value.slice Ag ng cg).ownBlock = R) := ⟨_, Lib.hid rfl⟩
  have hRlt : ∀ g, R = some g → lo ≤ g ∧ g < w.heap.size := fun g hg => by have := hown.lt g (hR.out.trans hg); omega
  have hal0 : Alt (fun i => i = w.heap.size ∨ R = some i) w ((((w.alloc (.cells #[.int .i64 x, .int .i64 y, .slice Ag ng cg, .slice Ao no co] 27)).alloc (.cells #[.int .i64 u, .int .i64 v, .slice Dg mg dg, .slice Do mo do_] 27)).alloc (.cells #[.int .i64 0, .int .i64 0, .slice none 0 0, .slice none 0 0] 27)).alloc (.cells #[] 3)) := ((((Alt.refl_ _ w).alloc_ _).alloc_ _).alloc_ _).alloc_ _
  have hx0 : BxC ((((w.alloc (.cells #[.int .i64 x, .int .i64 y, .slice Ag ng cg, .slice Ao no co] 27)).alloc (.cells #[.int .i64 u, .int .i64 v, .slice Dg mg dg, .slice Do mo do_] 27)).alloc (.cells #[.int .i64 0, .int .i64 0, .slice none 0 0, .slice none 0 0] 27)).alloc (.cells #[] 3)) w.heap.size x y Ag ng cg Ao no co := (((BxC.new w _).below ((Below.refl _ _).alloc (Nat.le_refl _) _)).below ((Below.refl _ _).alloc (Nat.le_refl _) _)).below ((Below.refl _ _).alloc (Nat.le_refl _) _)
  have hd0 : BxC ((((w.alloc (.cells #[.int .i64 x, .int .i64 y, .slice Ag ng cg, .slice Ao no co] 27)).alloc (.cells #[.int .i64 u, .int .i64 v, .slice Dg mg dg, .slice Do mo do_] 27)).alloc (.cells #[.int .i64 0, .int .i64 0, .slice none 0 0, .slice none 0 0] 27)).alloc (.cells #[] 3)) (w.heap.size + 1) u v Dg mg dg Do mo do_ := by
    have h := ((BxC.new (x := u) (y := v) (Ag := Dg) (ng := mg) (cg := dg) (Ao := Do) (no := mo) (co := do_) (w.alloc (.cells #[.int .i64 x, .int .i64 y, .slice Ag ng cg, .slice Ao no co] 27)) 27).below ((Below.refl _ _).alloc (Nat.le_refl _) (.cells #[.int .i64 0, .int .i64 0, .slice none 0 0, .slice none 0 0] 27))).below ((Below.refl _ _).alloc (Nat.le_refl _) (.cells #[] 3))
    simpa using h
  have hz0 : BxC ((((w.alloc (.cells #[.int .i64 x, .int .i64 y, .slice Ag ng cg, .slice Ao no co] 27)).alloc (.cells #[.int .i64 u, .int .i64 v, .slice Dg mg dg, .slice Do mo do_] 27)).alloc (.cells #[.int .i64 0, .int .i64 0, .slice none 0 0, .slice none 0 0] 27)).alloc (.cells #[] 3)) (w.heap.size + 2) 0 0 none 0 0 none 0 0 := by
    have h := (BxC.new (x := 0) (y := 0) (Ag := none) (ng := 0) (cg := 0) (Ao := none) (no := 0) (co := 0) ((w.alloc (.cells #[.int .i64 x, .int .i64 y, .slice Ag ng cg, .slice Ao no co] 27)).alloc (.cells #[.int .i64 u, .int .i64 v, .slice Dg mg dg, .slice Do mo do_] 27)) 27).below ((Below.refl _ _).alloc (Nat.le_refl _) (.cells #[] 3))
    simpa using h
  have f0 : Fz ((((w.alloc (.cells #[.int .i64 x, .int .i64 y, .slice Ag ng cg, .slice Ao no co] 27)).alloc (.cells #[.int .i64 u, .int .i64 v, .slice Dg mg dg, .slice Do mo do_] 27)).alloc (.cells #[.int .i64 0, .int .i64 0, .slice none 0 0, .slice none 0 0] 27)).alloc (.cells #[] 3)) w.heap.size := (((Fz.new w _ _).below ((Below.refl _ _).alloc (Nat.le_refl _) (.cells #[.int .i64 u, .int .i64 v, .slice Dg mg dg, .slice Do mo do_] 27)) (by simp)).below ((Below.refl _ _).alloc (Nat.le_refl _) (.cells #[.int .i64 0, .int .i64 0, .slice none 0 0, .slice none 0 0] 27)) (by simp; omega)).below ((Below.refl _ _).alloc (Nat.le_refl _) (.cells #[] 3)) (by simp; omega)
  have fz0 : Fz ((((w.alloc (.cells #[.int .i64 x, .int .i64 y, .slice Ag ng cg, .slice Ao no co] 27)).alloc (.cells #[.int .i64 u, .int .i64 v, .slice Dg mg dg, .slice Do mo do_] 27)).alloc (.cells #[.int .i64 0, .int .i64 0, .slice none 0 0, .slice none 0 0] 27)).alloc (.cells #[] 3)) (w.heap.size + 2) := by
    have h := (Fz.new ((w.alloc (.cells #[.int .i64 x, .int .i64 y, .slice Ag ng cg, .slice Ao no co] 27)).alloc (.cells #[.int .i64 u, .int .i64 v, .slice Dg mg dg, .slice Do mo do_] 27)) #[.int .i64 0, .int .i64 0, .slice none 0 0, .slice none 0 0] 27).below ((Below.refl _ _).alloc (Nat.le_refl _) (.cells #[] 3)) (by simp)
    simpa using h
  have ho0 : OwnG ((((w.alloc (.cells #[.int .i64 x, .int .i64 y, .slice Ag ng cg, .slice Ao no co] 27)).alloc (.cells #[.int .i64 u, .int .i64 v, .slice Dg mg dg, .slice Do mo do_] 27)).alloc (.cells #[.int .i64 0, .int .i64 0, .slice none 0 0, .slice none 0 0] 27)).alloc (.cells #[] 3)) lo hi (.slice Ag ng cg) ng gs := (((hown.alloc _).alloc _).alloc _).alloc _
  have hO0 : Own ((((w.alloc (.cells #[.int .i64 x, .int .i64 y, .slice Ag ng cg, .slice Ao no co] 27)).alloc (.cells #[.int .i64 u, .int .i64 v, .slice Dg mg dg, .slice Do mo do_] 27)).alloc (.cells #[.int .i64 0, .int .i64 0, .slice none 0 0, .slice none 0 0] 27)).alloc (.cells #[] 3)) w.heap.size (w.heap.size + 4) (.slice (some ⟨w.heap.size + 3, 0, none⟩) 0 0) 0 [] := by
    have h := Own.newI (((w.alloc (.cells #[.int .i64 x, .int .i64 y, .slice Ag ng cg, .slice Ao no co] 27)).alloc (.cells #[.int .i64 u, .int .i64 v, .slice Dg mg dg, .slice Do mo do_] 27)).alloc (.cells #[.int .i64 0, .int .i64 0, .slice none 0 0, .slice none 0 0] 27)) w.heap.size (by simp; omega)
    simpa using h
  have hD0 : RG ((((w.alloc (.cells #[.int .i64 x, .int .i64 y, .slice Ag ng cg, .slice Ao no co] 27)).alloc (.cells #[.int .i64 u, .int .i64 v, .slice Dg mg dg, .slice Do mo do_] 27)).alloc (.cells #[.int .i64 0, .int .i64 0, .slice none 0 0, .slice none 0 0] 27)).alloc (.cells #[] 3)) Dg mg ds := (((hr.1.alloc _).alloc _).alloc _).alloc _
  have hE0 : RI ((((w.alloc (.cells #[.int .i64 x, .int .i64 y, .slice Ag ng cg, .slice Ao no co] 27)).alloc (.cells #[.int .i64 u, .int .i64 v, .slice Dg mg dg, .slice Do mo do_] 27)).alloc (.cells #[.int .i64 0, .int .i64 0, .slice none 0 0, .slice none 0 0] 27)).alloc (.cells #[] 3)) Do mo os := (((hr.2.alloc _).alloc _).alloc _).alloc _
  have hs0 : ((((w.alloc (.cells #[.int .i64 x, .int .i64 y, .slice Ag ng cg, .slice Ao no co] 27)).alloc (.cells #[.int .i64 u, .int .i64 v, .slice Dg mg dg, .slice Do mo do_] 27)).alloc (.cells #[.int .i64 0, .int .i64 0, .slice none 0 0, .slice none 0 0] 27)).alloc (.cells #[] 3)).heap.size = w.heap.size + 4 := by simp
  have HG : Hid (∀ k, k < mg → mvs to ds (k + 1) = mvs to ds k ++ [mvG to (gg ds k)]) := Lib.hid fun k hk => mvs_succ _ (by omega)
  have HO : Hid (∀ k, k < mo → mvo to os (k + 1) = mvo to os k ++ [to (gi os k)]) := Lib.hid fun k hk => mvo_succ _ (by omega)
  go_enter Try.func23, Try.ntmps23
  have hq := hd0; obtain ⟨l0, l1, l2, l3⟩ := hq
  go_wp2
  go_loopw [17] (fun i wr => ∃ (k : Nat) (A : Option Addr) (c : Nat), k ≤ mg ∧ i = .int .i64 k ∧ BxC wr w.heap.size x y A (ng + k) c Ao no co ∧ Fz wr w.heap.size ∧ OwnG wr lo wr.heap.size (.slice A (ng + k) c) (ng + k) (gs ++ mvs to ds k) ∧
    ((Value.slice A (ng + k) c).ownBlock = R ∨ ∀ g, (Value.slice A (ng + k) c).ownBlock = some g → w.heap.size + 4 ≤ g) ∧ Alt (fun i => i = w.heap.size ∨ R = some i) ((((w.alloc (.cells #[.int .i64 x, .int .i64 y, .slice Ag ng cg, .slice Ao no co] 27)).alloc (.cells #[.int .i64 u, .int .i64 v, .slice Dg mg dg, .slice Do mo do_] 27)).alloc (.cells #[.int .i64 0, .int .i64 0, .slice none 0 0, .slice none 0 0] 27)).alloc (.cells #[] 3)) wr) (fun i _ => mg - (intOf i).toNat)
  case atStart => exact ⟨0, _, _, Nat.zero_le _, rfl, hx0, f0, by simpa [mvs] using ho0.now, .inl hR.out, Alt.refl_ _ _⟩
  case round =>
    obtain ⟨k, A, c, hk, rfl, hx, hfz, hown, hat, hal⟩ := hrel
    have hz := hal.size
    rw [hs0] at hz
    by_cases hlt : k < mg
    · obtain ⟨kb, ob, rfl, hkb, q1, q2, q3⟩ := (hD0.alt hal (fun hn b o hb hc => by
        have := hdlo.1 hn b o hb
        rcases hc with hc | hc
        · omega
        · have := hRlt b hc; omega)).at_ hlt
      have hgt := hgat k hlt
      have hG := Lib.hid (HG.out k hlt)
      obtain ⟨M, hM⟩ : ∃ M, Hid (mvs to ds k = M) := ⟨_, Lib.hid rfl⟩
      rw [hM.out] at hown hG
      generalize gg ds k = GG at *
      obtain ⟨gk, ga, gb⟩ := GG
      obtain ⟨N, hN⟩ : ∃ N, Hid (mvG to ⟨gk, ga, gb⟩ = N) := ⟨_, Lib.hid rfl⟩
      obtain ⟨nk, na, nb⟩ := N
      dsimp only at q1 q2 q3
      have hne : ¬ (Value.slice A (ng + k) c).ownBlock = some w.heap.size := fun hc => by
        rcases hat with h | h
        · have := hRlt _ (h.symm.trans hc); omega
        · have := h _ hc; omega
      have halg : Alt (fun i => i = w.heap.size ∨ R = some i) w (wr.alloc (.cells #[.int .i64 gk, .int .i64 ga, .int .i64 gb] 58)) := (hal0.trans_ hal (fun _ _ h => h)).alloc_ _
      have hbl : Below lo w ((wr.alloc (.cells #[.int .i64 gk, .int .i64 ga, .int .i64 gb] 58)).drewN 1) := (halg.drewN_ 1).below_ hlo (fun i hi hc => by
        rcases hc with hc | hc
        · omega
        · have := hRlt i hc; omega)
      have hgb := BxG.new (k := gk) (a := ga) (c := gb) wr 58
      have hx1 := hx.alt (Alt.alloc_ (Alt.refl_ (fun _ => False) wr) (.cells #[.int .i64 gk, .int .i64 ga, .int .i64 gb] 58)) (fun h => h)
      have hxq := hx1; obtain ⟨k0, k1, k2, k3⟩ := hxq
      obtain ⟨p0, p1, p2⟩ := hgb
      have hfar : ∀ g, A = some ⟨g, 0, none⟩ → g ≠ w.heap.size := fun g hg hc => hne (by subst hg; subst hc; rfl)
      have hcall : Calls Try.prog 51 #[.agg #[.int .i64 gk, .int .i64 ga, .int .i64 gb], .func (.func f) #[] cap] ((wr.alloc (.cells #[.int .i64 gk, .int .i64 ga, .int .i64 gb] 58)).drewN 1) fun e w' => e = .returned (.agg #[.int .i64 nk, .int .i64 na, .int .i64 nb]) ∧ Below ((wr.alloc (.cells #[.int .i64 gk, .int .i64 ga, .int .i64 gb] 58)).drewN 1).heap.size ((wr.alloc (.cells #[.int .i64 gk, .int .i64 ga, .int .i64 gb] 58)).drewN 1) w' := by
        refine (moved_any f hcf cap to ⟨gk, ga, gb⟩ n _ hgt (Lib.hid fun z h0 h1 w1 hb => hf.out z h0 h1 w1 (hbl.trans (hb.mono (by simp; omega))))).mono ?_
        rintro e w' ⟨he, hb⟩
        exact ⟨by rw [he, hN.out], hb⟩
      clear HG HO hd0 hz0 f0 fz0 ho0 hO0 hD0 hE0 hx0 hx1 halg
      go_wp2_with fail
      go_region_law (first | (go_simp; refine hcall.mono ?_; rintro e w4 ⟨rfl, hb4⟩; have hz4 := hb4.size; have k4 := (((Alt.refl_ (fun _ => False) wr).alloc_ (.cells #[.int .i64 gk, .int .i64 ga, .int .i64 gb] 58)).drewN_ 1).new_ hb4; have hx4 := hx.alt k4 (fun h => h); have hx4q := hx4; obtain ⟨m0, m1, m2, m3⟩ := hx4q; have hx4b := hx4.alt ((Alt.refl_ (fun _ => False) w4).alloc_ (.cells #[.int .i64 nk, .int .i64 na, .int .i64 nb] 58)) (fun h => h); obtain ⟨j0, j1, j2, j3⟩ := hx4b) | (refine step_appG _ (by rfl) _ _ (by rfl) (by rfl) ((((hown.alloc (.cells #[.int .i64 gk, .int .i64 ga, .int .i64 gb] 58)).drewN 1).below hb4 (.inl (Nat.le_refl _))).alloc _) (by rfl) (RG_one _ nk na nb _ _ rfl) (by omega) (by simp at hz4 ⊢; omega) ?_; intro A5 c5 w5 hown5 hg5 hat5 hk5; have k5 := ((k4.alloc_ (.cells #[.int .i64 nk, .int .i64 na, .int .i64 nb] 58)).mono_ (T := fun i => (Value.slice A (ng + k) c).ownBlock = some i) (fun _ _ h => h.elim)).grow_ hg5 (fun _ _ h => h); have hx5 := hx.alt k5 hne; have hx5q := hx5; obtain ⟨n0, n1, n2, n3⟩ := hx5q; have f5 := hfz.alt k5 hx.lt hne; have f52 := f5 2))
      all_goals
        have f6 := f5.set ⟨w.heap.size, 2, none⟩ (.slice A5 (ng + k + 1) c5)
        have hx6 := hx5.setG A5 (ng + k + 1) c5
        have hne5 : ¬ (Value.slice A5 (ng + k + 1) c5).ownBlock = some w.heap.size := by
          rcases hat5 with h | h
          · rw [h]; exact hne
          · rw [h]; intro hc; injection hc with hc; simp at hz4 hc; omega
        have hown6 := hown5.far1 ⟨w.heap.size, 2, none⟩ (.slice A5 (ng + k + 1) c5) hne5
        have hat6 : (Value.slice A5 (ng + k + 1) c5).ownBlock = R ∨ ∀ g, (Value.slice A5 (ng + k + 1) c5).ownBlock = some g → w.heap.size + 4 ≤ g := by
          rcases hat5 with h | h
          · rw [h]; exact hat
          · refine .inr fun g hg => ?_
            rw [h] at hg; injection hg with hg; simp at hz4 hg; omega
        have hal6 := (hal.trans_ k5 (fun i hi hc => by
          rw [hs0] at hi
          rcases hat with h | h
          · exact .inr (h.symm.trans hc)
          · have := h i hc; omega)).set_ ⟨w.heap.size, 2, none⟩ (.slice A5 (ng + k + 1) c5) (fun _ => .inl rfl)
        rw [List.append_assoc, ← hN.out, ← hG.out] at hown6
        clear hN hG hM
        go_wp2
        go_roundw
        case rel => exact ⟨k + 1, _, _, by omega, by go_num, hx6, f6, hown6.now, hat6, hal6⟩
        case measure => simp [intOf]; omega
    · obtain rfl : mg = k := Nat.le_antisymm (Nat.le_of_not_lt hlt) hk
      have hS : ∀ j, w.heap.size < j → ¬ (j = w.heap.size ∨ R = some j) := fun j hj hc => by
        rcases hc with hc | hc
        · omega
        · have := hRlt j hc; omega
      have hd1 := hd0.alt hal (hS _ (by omega))
      have hz1 := hz0.alt hal (hS _ (by omega))
      have fz1 := fz0.alt hal (by rw [hs0]; omega) (hS _ (by omega))
      have hO1 := hO0.alt hal (fun g hg => by simp [Value.ownBlock] at hg; exact hS g (by omega))
      have hE1 := hE0.alt hal (fun hn b o hb hc => by
        have := hdlo.2 hn b o hb
        rcases hc with hc | hc
        · omega
        · have := hRlt b hc; omega)
      have halw := hal0.trans_ hal (fun _ _ h => h)
      have hAb : ∀ g, (Value.slice A (ng + mg) c).ownBlock = some g → g ≠ w.heap.size + 3 ∧ g ≠ w.heap.size + 2 ∧ g < wr.heap.size := fun g hg => by
        have h3 := (hown.lt g hg).2.2
        rcases hat with h | h
        · have := hRlt g (h.symm.trans hg); omega
        · have := h g hg; omega
      clear l0 l1 l2 l3 hx0 hd0 hz0 f0 fz0 ho0 hO0 hD0 hE0 HG hal0 hal hs0 hfz
      have hq := hd1; obtain ⟨l0, l1, l2, l3⟩ := hq
      go_wp2
      obtain ⟨w1, rfl⟩ : ∃ w1, w1 = wr := ⟨_, rfl⟩
      go_loopw [8, 33] (fun o i wr2 => ∃ (k : Nat) (O : Option Addr) (c2 : Nat), k ≤ mo ∧ i = .int .i64 k ∧ o = .slice O k c2 ∧ Own wr2 w.heap.size wr2.heap.size (.slice O k c2) k (mvo to os k) ∧
        (∀ g, (Value.slice O k c2).ownBlock = some g → g = w.heap.size + 3 ∨ w1.heap.size ≤ g) ∧ Alt (fun i => i = w.heap.size + 3) w1 wr2) (fun _ i _ => mo - (intOf i).toNat)
      case atStart => exact ⟨0, _, _, Nat.zero_le _, rfl, rfl, hO1.now, fun g hg => by simp [Value.ownBlock] at hg; omega, Alt.refl_ _ _⟩
      case round =>
        obtain ⟨k, O, c2, hk2, rfl, rfl, hO, hOb, hal2⟩ := hrel
        have hsz2 := hal2.size
        clear l0 l1 l2 l3
        by_cases hlt2 : k < mo
        · obtain ⟨kb, ob, rfl, hkb, q1⟩ := (hE1.alt hal2 (fun hn b o hb hc => by
            have := hdlo.2 hn b o hb; omega)).at_ hlt2
          have hbo := hos k hlt2
          have hOk := Lib.hid (HO.out k hlt2)
          have halx := halw.trans_ hal2 (fun i hi hc => by omega)
          have hbl2 : Below lo w wr := halx.below_ hlo (fun i hi hc => by
            rcases hc with hc | hc
            · omega
            · have := hRlt i hc; omega)
          obtain ⟨Wk, hWk⟩ : ∃ Wk, Hid (mvo to os k = Wk) := ⟨_, Lib.hid rfl⟩
          rw [hWk.out] at hO hOk
          generalize gi os k = z at *
          clear hx hd1 hz1 fz1 hO1 hE1 hown hat HO halx
          go_wp2_with fail
          refine (hf.out z hbo.1 hbo.2 _ hbl2).mono ?_
          rintro e w2 ⟨rfl, hb1⟩
          have hzz := hb1.size
          go_wp2_with (at_builtin; go_loud (refine wpList_appI _ rfl _ _ rfl rfl ((hO.below hb1 (.inl (Nat.le_refl _))).alloc _) rfl (RI_one _ _ _ _ rfl) (by omega) (by simp; omega) ?_; intro A5 c5 w5 hown5 hg5 hat5 hk5))
          have k5 := (((Alt.refl_ (fun _ => False) wr).new_ hb1).alloc_ (.cells #[.int .i64 (to z)] 3)).mono_ (T := fun i => (Value.slice O k c2).ownBlock = some i) (fun _ _ h => h.elim) |>.grow_ hg5 (fun _ _ h => h)
          have hOb5 : ∀ g, (Value.slice A5 (k + 1) c5).ownBlock = some g → g = w.heap.size + 3 ∨ w1.heap.size ≤ g := fun g hg => by
            rcases hat5 with h | h
            · exact hOb g (h.symm.trans hg)
            · rw [h] at hg; injection hg with hg; simp at hg; omega
          have hal5 := hal2.trans_ k5 (fun i hi hc => by have := hOb i hc; omega)
          rw [← hOk.out] at hown5
          clear hOk hWk
          go_wp2
          go_roundw
          case rel => exact ⟨k + 1, _, _, by omega, by go_num, rfl, hown5, hOb5, hal5⟩
          case measure => simp [intOf]; omega
        · obtain rfl : mo = k := Nat.le_antisymm (Nat.le_of_not_lt hlt2) hk2
          have hz2 := hz1.alt hal2 (by omega)
          have fz2 := fz1.alt hal2 hz1.lt (by omega)
          have hx2 := hx.alt hal2 (by omega)
          have hG2 := hown.alt hal2 (fun g hg hc => (hAb g hg).1 hc)
          have hap : Apart (.slice A (ng + mg) c) (.slice O mo c2) := fun g h1 h2 => by
            have := hAb g h1
            have := hOb g h2
            omega
          have hatF : (Value.slice A (ng + mg) c).ownBlock = (Value.slice Ag ng cg).ownBlock ∨ ∀ g, (Value.slice A (ng + mg) c).ownBlock = some g → w.heap.size ≤ g := by
            rw [hR.out]
            rcases hat with h | h
            · exact .inl h
            · exact .inr fun g hg => by have := h g hg; omega
          have hG3 := (hG2.alt (alt_set4 (Alt.refl_ (fun i => i = w.heap.size + 2) wr) (fun _ => rfl) x y A (ng + mg) c Ao no co) (fun g hg hc => (hAb g hg).2.1 hc)).now
          have hO3 := (hO.alt (alt_set4 (Alt.refl_ (fun i => i = w.heap.size + 2) wr) (fun _ => rfl) x y A (ng + mg) c Ao no co) (fun g hg hc => by have := hOb g hg; have := hx.lt; omega)).now
          have hgr := (alt_set4 (b := w.heap.size + 2) (halw.trans_ hal2 (fun i hi hc => by omega)) (fun h => by omega) x y A (ng + mg) c Ao no co).grownBy_ (r := (Value.slice Ag ng cg).ownBlock) (fun i hi hc => by
            rw [hR.out]
            rcases hc with hc | hc
            · omega
            · exact hc)
          clear hat hx hd1 hz1 fz1 hO1 hE1 hown hG2 hO hal2 halw
          have hq := hx2; obtain ⟨k0, k1, k2, k3⟩ := hq
          have hq := hz2; obtain ⟨r0, r1, r2, r3⟩ := hq
          have g0 := fz2 0; have g1 := fz2 1; have g2 := fz2 2; have g3 := fz2 3
          go_wp2
          have hq9 := BxC.set4 hz2 x y A (ng + mg) c Ao no co
          obtain ⟨q0, q1, q2, q3⟩ := hq9
          refine bodyPost_ret (v := .tuple #[.agg #[.int .i64 x, .int .i64 y, .slice A (ng + mg) c, .slice Ao no co], .slice O mo c2]) (by simp [results, Try.results23, go_sem, q0, q1, q2, q3]) rfl ?_
          exact ⟨A, c, O, c2, rfl, hG3, hO3, hap, hatF, hgr⟩

end Go.Proofs.Ytgenehiiakdadaa
