/- The contract of slices.Clone at gates. Lengths below 2^21. -/
import Derived.Test.YtnhmfedegfcflaaGreatDoorQR17
namespace Go.Proofs.YtnhmfedegfcflaaGreatDoor
open Go.RowKit
set_option linter.unusedVariables false
set_option linter.unusedSimpArgs false
theorem OwnC.growG {w w' : World} {lo hi : Nat} {Ag Ag' : Option Addr} {ng cg ng' cg' : Nat} {Ao : Option Addr} {no co : Nat} {gs gs' : List G3} {os : List Int} (h : OwnC w lo hi Ag ng cg Ao no co gs os) (ho : OwnG w' lo w'.heap.size (.slice Ag' ng' cg') ng' gs') (hg : w.grownBy w' (Value.slice Ag ng cg).ownBlock)
 (hat : (Value.slice Ag' ng' cg').ownBlock = (Value.slice Ag ng cg).ownBlock ∨ (Value.slice Ag' ng' cg').ownBlock = some w.heap.size) : OwnC w' lo w'.heap.size Ag' ng' cg' Ao no co gs' os := by
 have ha := h.2.2
 refine ⟨ho, ⟨(h.2.1.1.kept hg ?_), fun g hg' => Nat.lt_of_lt_of_le (h.2.1.lt g hg').2.2 hg.size⟩, fun g h1 h2 => ?_⟩
 ·cases hv : (Value.slice Ao no co).ownBlock with
  | none => exact .inl rfl
  | some g => exact .inr (fun he => ha g he.symm hv)
 ·rcases hat with h3 | h3
  ·exact ha g (h3 ▸ h1) h2
  ·rw [h3] at h1; injection h1 with h1; have := h.2.1.lt g h2; omega
theorem OwnC.growI {w w' : World} {lo hi : Nat} {Ag : Option Addr} {ng cg : Nat} {Ao Ao' : Option Addr} {no co no' co' : Nat} {gs : List G3} {os os' : List Int} (h : OwnC w lo hi Ag ng cg Ao no co gs os) (ho : Own w' lo w'.heap.size (.slice Ao' no' co') no' os') (hg : w.grownBy w' (Value.slice Ao no co).ownBlock)
 (hat : (Value.slice Ao' no' co').ownBlock = (Value.slice Ao no co).ownBlock ∨ (Value.slice Ao' no' co').ownBlock = some w.heap.size) : OwnC w' lo w'.heap.size Ag ng cg Ao' no' co' gs os' := by
 have ha := h.2.2
 refine ⟨⟨(h.1.1.kept hg ?_), fun g hg' => Nat.lt_of_lt_of_le (h.1.lt g hg').2.2 hg.size⟩, ho, fun g h1 h2 => ?_⟩
 ·cases hv : (Value.slice Ag ng cg).ownBlock with
  | none => exact .inl rfl
  | some g => exact .inr (fun he => ha g hv he.symm)
 ·rcases hat with h3 | h3
  ·exact ha g h1 (h3 ▸ h2)
  ·rw [h3] at h2; injection h2 with h2; have := h.1.lt g h1; omega
theorem RG_one (w : World) (k a b : Int) (t : TypeId) (g : Nat) (hg : w.heap.size = g) : RG (w.alloc (.cells #[.int .i64 k, .int .i64 a, .int .i64 b] t)) (some ⟨g, 0, none⟩) 1 [⟨k, a, b⟩] := by
 subst hg; exact RG_new1 w k a b t
def mvs (tq : Int → Int) (ds : List G3) (k : Nat) : List G3 := (ds.take k).map (mvG tq)
theorem mvs_succ (tq : Int → Int) {ds : List G3} {k : Nat} (h : k < ds.length) : mvs tq ds (k + 1) = mvs tq ds k ++ [mvG tq (gg ds k)] := by
 unfold mvs; rw [gg_take_snoc h, List.map_append]; rfl
theorem mvs_len (tq : Int → Int) {ds : List G3} {k : Nat} (h : k ≤ ds.length) : (mvs tq ds k).length = k := by simp [mvs]; omega
def mws (ws : List Int) (next : Int) (k : Nat) : List Int := ws ++ tab k fun i => next + i
theorem mws_succ (ws : List Int) (next : Int) (k : Nat) : mws ws next (k + 1) = mws ws next k ++ [next + k] := by unfold mws; rw [tab_snoc, List.append_assoc]
theorem mws_len (ws : List Int) (next : Int) (k : Nat) : (mws ws next k).length = ws.length + k := by simp [mws, Zbz]
theorem mws_at {ws : List Int} {next : Int} {k : Nat} {z : Int} (h0 : 0 ≤ z) (h : z < ws.length + k) : gi (mws ws next k) z.toNat = wmap ws next z := gi_tabs h0 h
set_option maxRecDepth 100000 in
set_option maxHeartbeats 3000000 in
theorem ciMoved_any (Dg : Option Addr) (mg dg : Nat) (A : Option Addr) (n c : Nat) (ds : List G3) (ws : List Int) (next : Int) (w : World) (hd : RG w Dg mg ds) (ha : RI w A n ws) (hgat : ∀ k : Nat, k < mg → GateIs (gg ds k) ((n : Int) + k)) (hmg : mg ≤ 100000) (hn : n ≤ 100000) (hx : 0 ≤ next ∧ next ≤ 1000000) :
 Calls Tryz.prog 50 #[.slice Dg mg dg, .slice A n c, .int .i64 next] w fun e w' =>
  ∃ Ag cg Ao co, e = .returned (.tuple #[.slice Ag mg cg, .slice Ao (n + mg) co]) ∧ OwnC w' w.heap.size w'.heap.size Ag mg cg Ao (n + mg) co (mvs (wmap ws next) ds mg) (mws ws next mg) ∧ Below w.heap.size w w' := by
 have hlm := hd.len
 have hln := ha.len
 have HG : Hid (∀ k, k < mg → mvs (wmap ws next) ds (k + 1) = mvs (wmap ws next) ds k ++ [mvG (wmap ws next) (gg ds k)]) := zH fun k hk => mvs_succ _ (by omega)
 have HW : Hid (∀ k, mws ws next (k + 1) = mws ws next k ++ [next + k]) := zH (mws_succ ws next)
 have HL : Hid (∀ k, (mws ws next k).length = n + k) := zH fun k => by rw [mws_len, hln]
 have HA : Hid (∀ k : Nat, ∀ z : Int, 0 ≤ z → z < (n : Int) + k → gi (mws ws next k) z.toNat = wmap ws next z) := zH fun k z h0 h1 => mws_at h0 (by rw [hln]; exact h1)
 have hm0 : mvs (wmap ws next) ds 0 = [] := rfl
 have hw0 : mws ws next 0 = ws := by simp [mws, tab_zero]
 go_enter Tryz.func50, Tryz.ntmps50
 go_wp2_with fail
 refine (l1Own_any A n c ws _ ha (by omega)).mono ?_
 rintro e w1 ⟨A1, c1, rfl, hown1, hb1⟩
 have hst : OwnC w1 w.heap.size w1.heap.size none 0 0 A1 n c1 (mvs (wmap ws next) ds 0) (mws ws next 0) := by
  rw [hm0, hw0]; exact ⟨OwnG.none_ _ _ _, hown1, Apart.noneG _ _ _⟩
 go_wp2
 go_loopw [8, 1, 2, 15] (fun o ww nx i wr => ∃ (k : Nat) (Ag : Option Addr) (cg : Nat) (Ao : Option Addr) (co : Nat), k ≤ mg ∧ i = .int .i64 k ∧ nx = .int .i64 (next + k) ∧ o = .slice Ag k cg ∧ ww = .slice Ao (n + k) co ∧ OwnC wr w.heap.size wr.heap.size Ag k cg Ao (n + k) co (mvs (wmap ws next) ds k) (mws ws next k) ∧ Below w.heap.size w wr) (fun _ _ _ i _ => mg - (intOf i).toNat)
 case atStart => exact ⟨0, _, _, _, _, Nat.zero_le _, rfl, by simp, rfl, rfl, hst, hb1⟩
 case round =>
  obtain ⟨k, Ag, cg, Ao, co, hk, rfl, rfl, rfl, rfl, hO, hb⟩ := hrel
  clear hst hown1 hb1 hm0 hw0
  have hz := hb.size
  by_cases hlt : k < mg
  ·obtain ⟨kb, ob, rfl, hkb, q1, q2, q3⟩ := (hd.below hb lR).at_ hlt
   have hgt := hgat k hlt
   have hG := zH (HG.out k hlt)
   have hW := zH (HW.out k)
   have hL := HL.out k
   have hA := zH (HA.out k)
   obtain ⟨M, hM⟩ := lT (mvs (wmap ws next) ds k)
   obtain ⟨Wk, hWk⟩ := lT (mws ws next k)
   rw [hM.out] at hO hG
   rw [hWk.out] at hO hW hL hA
   generalize gg ds k = GG at *
   obtain ⟨gk, ga, gb⟩ := GG
   dsimp only at q1 q2 q3
   cases hgt with
   | xor_ hk0 a0 a1 b0 b1 =>
    dsimp only at hk0 a0 a1 b0 b1
    subst hk0
    obtain ⟨za, hza⟩ := lT (wmap ws next ga)
    have hra := zH (hA.out ga a0 a1)
    rw [hza.out] at hra
    obtain ⟨ia, rfl⟩ : ∃ ia : Nat, ga = ia := ⟨ga.toNat, by omega⟩
    have hia : ia < n + k := by omega
    obtain ⟨zb, hzb⟩ := lT (wmap ws next gb)
    have hrb := zH (hA.out gb b0 b1)
    rw [hzb.out] at hrb
    obtain ⟨ib, rfl⟩ : ∃ ib : Nat, gb = ib := ⟨gb.toNat, by omega⟩
    have hib : ib < n + k := by omega
    have hG' : Hid (mvs (wmap ws next) ds (k + 1) = M ++ [⟨0, za, zb⟩]) := zH (by rw [hG.out]; simp [mvG, hza.out, hzb.out])
    have hB1 := hb.alloc hz (.cells #[.int .i64 0, .int .i64 (ia : Int), .int .i64 (ib : Int)] 49)
    have hO1 := hO.below ((Below.refl wr.heap.size wr).alloc lR (.cells #[.int .i64 0, .int .i64 (ia : Int), .int .i64 (ib : Int)] 49)) (.inl lR)
    obtain ⟨gq, rfl, hgq1, hgq2, hgq3⟩ := hO.2.1.some_ (by omega)
    obtain ⟨ca, _⟩ := hO1.2.1.cellAt (k := ia) (by omega)
    have ca' := zH hra.out
    rw [show gi Wk ia = za from ca'.out] at ca
    have hO1b := hO.below ((Below.refl wr.heap.size wr).alloc lR (.cells #[.int .i64 0, .int .i64 za, .int .i64 (ib : Int)] 49)) (.inl lR)
    obtain ⟨cb, _⟩ := hO1b.2.1.cellAt (k := ib) (by omega)
    rw [show gi Wk ib = zb from hrb.out] at cb
    have hB2 := (hb.alloc hz (.cells #[.int .i64 0, .int .i64 za, .int .i64 zb] 49)).alloc (by simp; omega) (.cells #[.int .i64 0, .int .i64 za, .int .i64 zb] 49)
    have hO2 := (hO.below ((Below.refl wr.heap.size wr).alloc lR (.cells #[.int .i64 0, .int .i64 za, .int .i64 zb] 49)) (.inl lR)).below ((Below.refl (wr.alloc (.cells #[.int .i64 0, .int .i64 za, .int .i64 zb] 49)).heap.size (wr.alloc (.cells #[.int .i64 0, .int .i64 za, .int .i64 zb] 49))).alloc lR (.cells #[.int .i64 0, .int .i64 za, .int .i64 zb] 49)) (.inl lR)
    clear hb hO hB1 hO1 hgat HG HW HL HA
    go_wp2_with (first
     | (at_builtin; refine Zbi _ rfl _ _ rfl rfl hO2.1 rfl (RG_one _ _ _ _ _ _ (by simp)) (by omega) (by first | (simp; done) | (simp; omega)) ?_; intro A5 c5 w5 hown5 hg5 hat5 hk5; have hO5 := hO2.growG hown5 hg5 hat5; have hb5 := Zcn hB2 hO2.1 hg5 (by first | (simp; done) | (simp; omega)) lR; have hbB := hb5.alloc hb5.size (.cells #[.int .i64 (next + k)] 3); have hOB := hO5.below ((Below.refl w5.heap.size w5).alloc lR (.cells #[.int .i64 (next + k)] 3)) (.inl lR); have hz5 := hb5.size; clear hown5 hg5 hat5 hk5)
     | (at_builtin; refine Zbn _ rfl _ _ rfl rfl hOB.2.1 rfl (Zbj _ _ _ _ (by simp)) (by omega) (by first | (simp; done) | (simp; omega)) ?_; intro A6 c6 w6 hown6 hg6 hat6 hk6; have hO6 := hOB.growI hown6 hg6 hat6; have hb6 := Zar hbB hOB.2.1 hg6 (by first | (simp; done) | (simp; omega)) lR; clear hown6 hg6 hat6 hk6))
    rw [← hG'.out, ← hW.out] at hO6
    clear hO2 hB2 hO5 hb5 hOB hbB hG hG' hW hM hWk hL hA
    go_wp2
    go_roundw
    case rel => exact ⟨k + 1, _, _, _, _, by omega, by go_num, by congr 1; omega, rfl, rfl, hO6, hb6⟩
    case measure => simp [intOf]; omega
   | and_ hk0 a0 a1 b0 b1 =>
    dsimp only at hk0 a0 a1 b0 b1
    subst hk0
    obtain ⟨za, hza⟩ := lT (wmap ws next ga)
    have hra := zH (hA.out ga a0 a1)
    rw [hza.out] at hra
    obtain ⟨ia, rfl⟩ : ∃ ia : Nat, ga = ia := ⟨ga.toNat, by omega⟩
    have hia : ia < n + k := by omega
    obtain ⟨zb, hzb⟩ := lT (wmap ws next gb)
    have hrb := zH (hA.out gb b0 b1)
    rw [hzb.out] at hrb
    obtain ⟨ib, rfl⟩ : ∃ ib : Nat, gb = ib := ⟨gb.toNat, by omega⟩
    have hib : ib < n + k := by omega
    have hG' : Hid (mvs (wmap ws next) ds (k + 1) = M ++ [⟨1, za, zb⟩]) := zH (by rw [hG.out]; simp [mvG, hza.out, hzb.out])
    have hB1 := hb.alloc hz (.cells #[.int .i64 1, .int .i64 (ia : Int), .int .i64 (ib : Int)] 49)
    have hO1 := hO.below ((Below.refl wr.heap.size wr).alloc lR (.cells #[.int .i64 1, .int .i64 (ia : Int), .int .i64 (ib : Int)] 49)) (.inl lR)
    obtain ⟨gq, rfl, hgq1, hgq2, hgq3⟩ := hO.2.1.some_ (by omega)
    obtain ⟨ca, _⟩ := hO1.2.1.cellAt (k := ia) (by omega)
    have ca' := zH hra.out
    rw [show gi Wk ia = za from ca'.out] at ca
    have hO1b := hO.below ((Below.refl wr.heap.size wr).alloc lR (.cells #[.int .i64 1, .int .i64 za, .int .i64 (ib : Int)] 49)) (.inl lR)
    obtain ⟨cb, _⟩ := hO1b.2.1.cellAt (k := ib) (by omega)
    rw [show gi Wk ib = zb from hrb.out] at cb
    have hB2 := (hb.alloc hz (.cells #[.int .i64 1, .int .i64 za, .int .i64 zb] 49)).alloc (by simp; omega) (.cells #[.int .i64 1, .int .i64 za, .int .i64 zb] 49)
    have hO2 := (hO.below ((Below.refl wr.heap.size wr).alloc lR (.cells #[.int .i64 1, .int .i64 za, .int .i64 zb] 49)) (.inl lR)).below ((Below.refl (wr.alloc (.cells #[.int .i64 1, .int .i64 za, .int .i64 zb] 49)).heap.size (wr.alloc (.cells #[.int .i64 1, .int .i64 za, .int .i64 zb] 49))).alloc lR (.cells #[.int .i64 1, .int .i64 za, .int .i64 zb] 49)) (.inl lR)
    clear hb hO hB1 hO1 hgat HG HW HL HA
    go_wp2_with (first
     | (at_builtin; refine Zbi _ rfl _ _ rfl rfl hO2.1 rfl (RG_one _ _ _ _ _ _ (by simp)) (by omega) (by first | (simp; done) | (simp; omega)) ?_; intro A5 c5 w5 hown5 hg5 hat5 hk5; have hO5 := hO2.growG hown5 hg5 hat5; have hb5 := Zcn hB2 hO2.1 hg5 (by first | (simp; done) | (simp; omega)) lR; have hbB := hb5.alloc hb5.size (.cells #[.int .i64 (next + k)] 3); have hOB := hO5.below ((Below.refl w5.heap.size w5).alloc lR (.cells #[.int .i64 (next + k)] 3)) (.inl lR); have hz5 := hb5.size; clear hown5 hg5 hat5 hk5)
     | (at_builtin; refine Zbn _ rfl _ _ rfl rfl hOB.2.1 rfl (Zbj _ _ _ _ (by simp)) (by omega) (by first | (simp; done) | (simp; omega)) ?_; intro A6 c6 w6 hown6 hg6 hat6 hk6; have hO6 := hOB.growI hown6 hg6 hat6; have hb6 := Zar hbB hOB.2.1 hg6 (by first | (simp; done) | (simp; omega)) lR; clear hown6 hg6 hat6 hk6))
    rw [← hG'.out, ← hW.out] at hO6
    clear hO2 hB2 hO5 hb5 hOB hbB hG hG' hW hM hWk hL hA
    go_wp2
    go_roundw
    case rel => exact ⟨k + 1, _, _, _, _, by omega, by go_num, by congr 1; omega, rfl, rfl, hO6, hb6⟩
    case measure => simp [intOf]; omega
   | not_ hk0 a0 a1 b0 =>
    dsimp only at hk0 a0 a1 b0
    subst hk0
    subst b0
    obtain ⟨za, hza⟩ := lT (wmap ws next ga)
    have hra := zH (hA.out ga a0 a1)
    rw [hza.out] at hra
    obtain ⟨ia, rfl⟩ : ∃ ia : Nat, ga = ia := ⟨ga.toNat, by omega⟩
    have hia : ia < n + k := by omega
    have hG' : Hid (mvs (wmap ws next) ds (k + 1) = M ++ [⟨2, za, 0⟩]) := zH (by rw [hG.out]; simp [mvG, hza.out])
    have hB1 := hb.alloc hz (.cells #[.int .i64 2, .int .i64 (ia : Int), .int .i64 0] 49)
    have hO1 := hO.below ((Below.refl wr.heap.size wr).alloc lR (.cells #[.int .i64 2, .int .i64 (ia : Int), .int .i64 0] 49)) (.inl lR)
    obtain ⟨gq, rfl, hgq1, hgq2, hgq3⟩ := hO.2.1.some_ (by omega)
    obtain ⟨ca, _⟩ := hO1.2.1.cellAt (k := ia) (by omega)
    have ca' := zH hra.out
    rw [show gi Wk ia = za from ca'.out] at ca
    have hB2 := (hb.alloc hz (.cells #[.int .i64 2, .int .i64 za, .int .i64 0] 49)).alloc (by simp; omega) (.cells #[.int .i64 2, .int .i64 za, .int .i64 0] 49)
    have hO2 := (hO.below ((Below.refl wr.heap.size wr).alloc lR (.cells #[.int .i64 2, .int .i64 za, .int .i64 0] 49)) (.inl lR)).below ((Below.refl (wr.alloc (.cells #[.int .i64 2, .int .i64 za, .int .i64 0] 49)).heap.size (wr.alloc (.cells #[.int .i64 2, .int .i64 za, .int .i64 0] 49))).alloc lR (.cells #[.int .i64 2, .int .i64 za, .int .i64 0] 49)) (.inl lR)
    clear hb hO hB1 hO1 hgat HG HW HL HA
    go_wp2_with (first
     | (at_builtin; refine Zbi _ rfl _ _ rfl rfl hO2.1 rfl (RG_one _ _ _ _ _ _ (by simp)) (by omega) (by first | (simp; done) | (simp; omega)) ?_; intro A5 c5 w5 hown5 hg5 hat5 hk5; have hO5 := hO2.growG hown5 hg5 hat5; have hb5 := Zcn hB2 hO2.1 hg5 (by first | (simp; done) | (simp; omega)) lR; have hbB := hb5.alloc hb5.size (.cells #[.int .i64 (next + k)] 3); have hOB := hO5.below ((Below.refl w5.heap.size w5).alloc lR (.cells #[.int .i64 (next + k)] 3)) (.inl lR); have hz5 := hb5.size; clear hown5 hg5 hat5 hk5)
     | (at_builtin; refine Zbn _ rfl _ _ rfl rfl hOB.2.1 rfl (Zbj _ _ _ _ (by simp)) (by omega) (by first | (simp; done) | (simp; omega)) ?_; intro A6 c6 w6 hown6 hg6 hat6 hk6; have hO6 := hOB.growI hown6 hg6 hat6; have hb6 := Zar hbB hOB.2.1 hg6 (by first | (simp; done) | (simp; omega)) lR; clear hown6 hg6 hat6 hk6))
    rw [← hG'.out, ← hW.out] at hO6
    clear hO2 hB2 hO5 hb5 hOB hbB hG hG' hW hM hWk hL hA
    go_wp2
    go_roundw
    case rel => exact ⟨k + 1, _, _, _, _, by omega, by go_num, by congr 1; omega, rfl, rfl, hO6, hb6⟩
    case measure => simp [intOf]; omega
   | one_ hk0 a0 b0 =>
    dsimp only at hk0 a0 b0
    subst hk0
    subst a0
    subst b0
    have hG' : Hid (mvs (wmap ws next) ds (k + 1) = M ++ [⟨3, 0, 0⟩]) := zH (by rw [hG.out]; simp [mvG])
    have hB1 := hb.alloc hz (.cells #[.int .i64 3, .int .i64 0, .int .i64 0] 49)
    have hO1 := hO.below ((Below.refl wr.heap.size wr).alloc lR (.cells #[.int .i64 3, .int .i64 0, .int .i64 0] 49)) (.inl lR)
    have hB2 := (hb.alloc hz (.cells #[.int .i64 3, .int .i64 0, .int .i64 0] 49)).alloc (by simp; omega) (.cells #[.int .i64 3, .int .i64 0, .int .i64 0] 49)
    have hO2 := (hO.below ((Below.refl wr.heap.size wr).alloc lR (.cells #[.int .i64 3, .int .i64 0, .int .i64 0] 49)) (.inl lR)).below ((Below.refl (wr.alloc (.cells #[.int .i64 3, .int .i64 0, .int .i64 0] 49)).heap.size (wr.alloc (.cells #[.int .i64 3, .int .i64 0, .int .i64 0] 49))).alloc lR (.cells #[.int .i64 3, .int .i64 0, .int .i64 0] 49)) (.inl lR)
    clear hb hO hB1 hO1 hgat HG HW HL HA
    go_wp2_with (first
     | (at_builtin; refine Zbi _ rfl _ _ rfl rfl hO2.1 rfl (RG_one _ _ _ _ _ _ (by simp)) (by omega) (by first | (simp; done) | (simp; omega)) ?_; intro A5 c5 w5 hown5 hg5 hat5 hk5; have hO5 := hO2.growG hown5 hg5 hat5; have hb5 := Zcn hB2 hO2.1 hg5 (by first | (simp; done) | (simp; omega)) lR; have hbB := hb5.alloc hb5.size (.cells #[.int .i64 (next + k)] 3); have hOB := hO5.below ((Below.refl w5.heap.size w5).alloc lR (.cells #[.int .i64 (next + k)] 3)) (.inl lR); have hz5 := hb5.size; clear hown5 hg5 hat5 hk5)
     | (at_builtin; refine Zbn _ rfl _ _ rfl rfl hOB.2.1 rfl (Zbj _ _ _ _ (by simp)) (by omega) (by first | (simp; done) | (simp; omega)) ?_; intro A6 c6 w6 hown6 hg6 hat6 hk6; have hO6 := hOB.growI hown6 hg6 hat6; have hb6 := Zar hbB hOB.2.1 hg6 (by first | (simp; done) | (simp; omega)) lR; clear hown6 hg6 hat6 hk6))
    rw [← hG'.out, ← hW.out] at hO6
    clear hO2 hB2 hO5 hb5 hOB hbB hG hG' hW hM hWk hL hA
    go_wp2
    go_roundw
    case rel => exact ⟨k + 1, _, _, _, _, by omega, by go_num, by congr 1; omega, rfl, rfl, hO6, hb6⟩
    case measure => simp [intOf]; omega
  ·obtain rfl : mg = k := Nat.le_antisymm (Nat.le_of_not_lt hlt) hk
   go_wp2
   go_ret2
   exact ⟨_, _, _, _, rfl, hO, hb⟩
def mvo (tq : Int → Int) (os : List Int) (k : Nat) : List Int := (os.take k).map tq
theorem mvo_succ (tq : Int → Int) {os : List Int} {k : Nat} (h : k < os.length) : mvo tq os (k + 1) = mvo tq os k ++ [tq (gi os k)] := by
 unfold mvo; rw [Zcg h, List.map_append]; rfl
def ApdR (w : World) (lo : Nat) (x y : Int) (Ag : Option Addr) (ng cg : Nat) (Ao : Option Addr) (no co : Nat) (gs : List G3) (os : List Int) (mg mo : Nat) (e : Ending) (w' : World) : Prop :=
 ∃ A' c' O oc, e = .returned (.tuple #[.agg #[.int .i64 x, .int .i64 y, .slice A' (ng + mg) c', .slice Ao no co], .slice O mo oc]) ∧ OwnG w' lo w'.heap.size (.slice A' (ng + mg) c') (ng + mg) gs ∧ Own w' w.heap.size w'.heap.size (.slice O mo oc) mo os ∧ Apart (.slice A' (ng + mg) c') (.slice O mo oc) ∧
  ((Value.slice A' (ng + mg) c').ownBlock = (Value.slice Ag ng cg).ownBlock ∨ ∀ g, (Value.slice A' (ng + mg) c').ownBlock = some g → w.heap.size ≤ g) ∧ w.grownBy w' (Value.slice Ag ng cg).ownBlock
theorem Own.newI (w : World) (lo : Nat) (hl : lo ≤ w.heap.size) : Own (w.alloc (.cells #[] 3)) lo (w.heap.size + 1) (.slice (some ⟨w.heap.size, 0, none⟩) 0 0) 0 [] := by
 refine ⟨?_, fun g hg => by simp [Value.ownBlock] at hg; omega⟩
 have h := World.ownsRow_lit (base := lo) (e := 3) (size := 1) w #[] 0 hl (by unfold maxLen; omega) (by simp)
 simpa using h
set_option maxRecDepth 100000 in
set_option maxHeartbeats 3000000 in
theorem appended_any (f : FuncId) (hcf : ∀ args w, Sem.run Tryz.prog (callFunc f args) w = .ok (.enter f args) w) (cap : Array Value) (tq : Int → Int) (x y : Int) (Ag : Option Addr) (ng cg : Nat) (Ao : Option Addr) (no co : Nat) (u v : Int) (Dg : Option Addr) (mg dg : Nat) (Do : Option Addr) (mo do_ : Nat)
 (gs ds : List G3) (os : List Int) (n : Int) (lo hi : Nat) (w : World) (hown : OwnG w lo hi (.slice Ag ng cg) ng gs) (hr : RG w Dg mg ds ∧ RI w Do mo os) (hdlo : (0 < mg → ∀ b o, Dg = some ⟨b, o, none⟩ → b < lo) ∧ (0 < mo → ∀ b o, Do = some ⟨b, o, none⟩ → b < lo)) (hlo : lo ≤ w.heap.size)
 (hgat : ∀ k, k < mg → GateIs (gg ds k) n) (hos : ∀ k, k < mo → 0 ≤ gi os k ∧ gi os k < n) (hng : ng ≤ 100000) (hmg : mg ≤ 100000) (hmo : mo ≤ 100000)
 (hf : Hid (∀ z, 0 ≤ z → z < n → ∀ w1, Below lo w w1 → Calls Tryz.prog f (#[.int .i64 z] ++ cap) w1 fun e w' => e = .returned (.int .i64 (tq z)) ∧ Below w1.heap.size w1 w')) :
 Calls Tryz.prog 47 #[.agg #[.int .i64 x, .int .i64 y, .slice Ag ng cg, .slice Ao no co], .agg #[.int .i64 u, .int .i64 v, .slice Dg mg dg, .slice Do mo do_], .func (.func f) #[] cap] w
  (ApdR w lo x y Ag ng cg Ao no co (gs ++ mvs tq ds mg) (mvo tq os mo) mg mo) := by
 have hlm := hr.1.len
 have hlom := hr.2.len
 obtain ⟨R, hR⟩ := lT ((Value.slice Ag ng cg).ownBlock)
 have hRlt : ∀ g, R = some g → lo ≤ g ∧ g < w.heap.size := fun g hg => by have := hown.lt g (hR.out.trans hg); omega
 have hal0 : Alt (fun i => i = w.heap.size ∨ R = some i) w ((((w.alloc (.cells #[.int .i64 x, .int .i64 y, .slice Ag ng cg, .slice Ao no co] 27)).alloc (.cells #[.int .i64 u, .int .i64 v, .slice Dg mg dg, .slice Do mo do_] 27)).alloc (.cells #[.int .i64 0, .int .i64 0, .slice none 0 0, .slice none 0 0] 27)).alloc (.cells #[] 3)) := ((((Alt.refl_ _ w).alloc_ _).alloc_ _).alloc_ _).alloc_ _
 have hx0 : BxC ((((w.alloc (.cells #[.int .i64 x, .int .i64 y, .slice Ag ng cg, .slice Ao no co] 27)).alloc (.cells #[.int .i64 u, .int .i64 v, .slice Dg mg dg, .slice Do mo do_] 27)).alloc (.cells #[.int .i64 0, .int .i64 0, .slice none 0 0, .slice none 0 0] 27)).alloc (.cells #[] 3)) w.heap.size x y Ag ng cg Ao no co := (((BxC.new w _).below (bA)).below (bA)).below (bA)
 have hd0 : BxC ((((w.alloc (.cells #[.int .i64 x, .int .i64 y, .slice Ag ng cg, .slice Ao no co] 27)).alloc (.cells #[.int .i64 u, .int .i64 v, .slice Dg mg dg, .slice Do mo do_] 27)).alloc (.cells #[.int .i64 0, .int .i64 0, .slice none 0 0, .slice none 0 0] 27)).alloc (.cells #[] 3)) (w.heap.size + 1) u v Dg mg dg Do mo do_ := by
  have h := ((BxC.new (x := u) (y := v) (Ag := Dg) (ng := mg) (cg := dg) (Ao := Do) (no := mo) (co := do_) (w.alloc (.cells #[.int .i64 x, .int .i64 y, .slice Ag ng cg, .slice Ao no co] 27)) 27).below ((Below.refl _ _).alloc lR (.cells #[.int .i64 0, .int .i64 0, .slice none 0 0, .slice none 0 0] 27))).below ((Below.refl _ _).alloc lR (.cells #[] 3))
  simpa using h
 have hz0 : BxC ((((w.alloc (.cells #[.int .i64 x, .int .i64 y, .slice Ag ng cg, .slice Ao no co] 27)).alloc (.cells #[.int .i64 u, .int .i64 v, .slice Dg mg dg, .slice Do mo do_] 27)).alloc (.cells #[.int .i64 0, .int .i64 0, .slice none 0 0, .slice none 0 0] 27)).alloc (.cells #[] 3)) (w.heap.size + 2) 0 0 none 0 0 none 0 0 := by
  have h := (BxC.new (x := 0) (y := 0) (Ag := none) (ng := 0) (cg := 0) (Ao := none) (no := 0) (co := 0) ((w.alloc (.cells #[.int .i64 x, .int .i64 y, .slice Ag ng cg, .slice Ao no co] 27)).alloc (.cells #[.int .i64 u, .int .i64 v, .slice Dg mg dg, .slice Do mo do_] 27)) 27).below ((Below.refl _ _).alloc lR (.cells #[] 3))
  simpa using h
 have f0 : Fz ((((w.alloc (.cells #[.int .i64 x, .int .i64 y, .slice Ag ng cg, .slice Ao no co] 27)).alloc (.cells #[.int .i64 u, .int .i64 v, .slice Dg mg dg, .slice Do mo do_] 27)).alloc (.cells #[.int .i64 0, .int .i64 0, .slice none 0 0, .slice none 0 0] 27)).alloc (.cells #[] 3)) w.heap.size := (((Fz.new w _ _).below ((Below.refl _ _).alloc lR (.cells #[.int .i64 u, .int .i64 v, .slice Dg mg dg, .slice Do mo do_] 27)) (by simp)).below ((Below.refl _ _).alloc lR (.cells #[.int .i64 0, .int .i64 0, .slice none 0 0, .slice none 0 0] 27)) (by simp; omega)).below ((Below.refl _ _).alloc lR (.cells #[] 3)) (by simp; omega)
 have fz0 : Fz ((((w.alloc (.cells #[.int .i64 x, .int .i64 y, .slice Ag ng cg, .slice Ao no co] 27)).alloc (.cells #[.int .i64 u, .int .i64 v, .slice Dg mg dg, .slice Do mo do_] 27)).alloc (.cells #[.int .i64 0, .int .i64 0, .slice none 0 0, .slice none 0 0] 27)).alloc (.cells #[] 3)) (w.heap.size + 2) := by
  have h := (Fz.new ((w.alloc (.cells #[.int .i64 x, .int .i64 y, .slice Ag ng cg, .slice Ao no co] 27)).alloc (.cells #[.int .i64 u, .int .i64 v, .slice Dg mg dg, .slice Do mo do_] 27)) #[.int .i64 0, .int .i64 0, .slice none 0 0, .slice none 0 0] 27).below ((Below.refl _ _).alloc lR (.cells #[] 3)) (by simp)
  simpa using h
 have ho0 : OwnG ((((w.alloc (.cells #[.int .i64 x, .int .i64 y, .slice Ag ng cg, .slice Ao no co] 27)).alloc (.cells #[.int .i64 u, .int .i64 v, .slice Dg mg dg, .slice Do mo do_] 27)).alloc (.cells #[.int .i64 0, .int .i64 0, .slice none 0 0, .slice none 0 0] 27)).alloc (.cells #[] 3)) lo hi (.slice Ag ng cg) ng gs := (((hown.alloc _).alloc _).alloc _).alloc _
 have hO0 : Own ((((w.alloc (.cells #[.int .i64 x, .int .i64 y, .slice Ag ng cg, .slice Ao no co] 27)).alloc (.cells #[.int .i64 u, .int .i64 v, .slice Dg mg dg, .slice Do mo do_] 27)).alloc (.cells #[.int .i64 0, .int .i64 0, .slice none 0 0, .slice none 0 0] 27)).alloc (.cells #[] 3)) w.heap.size (w.heap.size + 4) (.slice (some ⟨w.heap.size + 3, 0, none⟩) 0 0) 0 [] := by
  have h := Own.newI (((w.alloc (.cells #[.int .i64 x, .int .i64 y, .slice Ag ng cg, .slice Ao no co] 27)).alloc (.cells #[.int .i64 u, .int .i64 v, .slice Dg mg dg, .slice Do mo do_] 27)).alloc (.cells #[.int .i64 0, .int .i64 0, .slice none 0 0, .slice none 0 0] 27)) w.heap.size (by simp; omega)
  simpa using h
 have hD0 : RG ((((w.alloc (.cells #[.int .i64 x, .int .i64 y, .slice Ag ng cg, .slice Ao no co] 27)).alloc (.cells #[.int .i64 u, .int .i64 v, .slice Dg mg dg, .slice Do mo do_] 27)).alloc (.cells #[.int .i64 0, .int .i64 0, .slice none 0 0, .slice none 0 0] 27)).alloc (.cells #[] 3)) Dg mg ds := (((hr.1.alloc _).alloc _).alloc _).alloc _
 have hE0 : RI ((((w.alloc (.cells #[.int .i64 x, .int .i64 y, .slice Ag ng cg, .slice Ao no co] 27)).alloc (.cells #[.int .i64 u, .int .i64 v, .slice Dg mg dg, .slice Do mo do_] 27)).alloc (.cells #[.int .i64 0, .int .i64 0, .slice none 0 0, .slice none 0 0] 27)).alloc (.cells #[] 3)) Do mo os := (((hr.2.alloc _).alloc _).alloc _).alloc _
 have hs0 : ((((w.alloc (.cells #[.int .i64 x, .int .i64 y, .slice Ag ng cg, .slice Ao no co] 27)).alloc (.cells #[.int .i64 u, .int .i64 v, .slice Dg mg dg, .slice Do mo do_] 27)).alloc (.cells #[.int .i64 0, .int .i64 0, .slice none 0 0, .slice none 0 0] 27)).alloc (.cells #[] 3)).heap.size = w.heap.size + 4 := by simp
 have HG : Hid (∀ k, k < mg → mvs tq ds (k + 1) = mvs tq ds k ++ [mvG tq (gg ds k)]) := zH fun k hk => mvs_succ _ (by omega)
 have HO : Hid (∀ k, k < mo → mvo tq os (k + 1) = mvo tq os k ++ [tq (gi os k)]) := zH fun k hk => mvo_succ _ (by omega)
 go_enter Tryz.func47, Tryz.ntmps47
 have hq := hd0; obtain ⟨l0, l1, l2, l3⟩ := hq
 go_wp2
 go_loopw [17] (fun i wr => ∃ (k : Nat) (A : Option Addr) (c : Nat), k ≤ mg ∧ i = .int .i64 k ∧ BxC wr w.heap.size x y A (ng + k) c Ao no co ∧ Fz wr w.heap.size ∧ OwnG wr lo wr.heap.size (.slice A (ng + k) c) (ng + k) (gs ++ mvs tq ds k) ∧
  ((Value.slice A (ng + k) c).ownBlock = R ∨ ∀ g, (Value.slice A (ng + k) c).ownBlock = some g → w.heap.size + 4 ≤ g) ∧ Alt (fun i => i = w.heap.size ∨ R = some i) ((((w.alloc (.cells #[.int .i64 x, .int .i64 y, .slice Ag ng cg, .slice Ao no co] 27)).alloc (.cells #[.int .i64 u, .int .i64 v, .slice Dg mg dg, .slice Do mo do_] 27)).alloc (.cells #[.int .i64 0, .int .i64 0, .slice none 0 0, .slice none 0 0] 27)).alloc (.cells #[] 3)) wr) (fun i _ => mg - (intOf i).toNat)
 case atStart => exact ⟨0, _, _, Nat.zero_le _, rfl, hx0, f0, by simpa [mvs] using ho0.now, .inl hR.out, Alt.refl_ _ _⟩
 case round =>
  obtain ⟨k, A, c, hk, rfl, hx, hfz, hown, hat, hal⟩ := hrel
  have hz := hal.size
  rw [hs0] at hz
  by_cases hlt : k < mg
  ·obtain ⟨kb, ob, rfl, hkb, q1, q2, q3⟩ := (hD0.alt hal (fun hn b o hb hc => by
    have := hdlo.1 hn b o hb
    rcases hc with hc | hc
    ·omega
    ·have := hRlt b hc; omega)).at_ hlt
   have hgt := hgat k hlt
   have hG := zH (HG.out k hlt)
   obtain ⟨M, hM⟩ := lT (mvs tq ds k)
   rw [hM.out] at hown hG
   generalize gg ds k = GG at *
   obtain ⟨gk, ga, gb⟩ := GG
   obtain ⟨N, hN⟩ := lT (mvG tq ⟨gk, ga, gb⟩)
   obtain ⟨nk, na, nb⟩ := N
   dsimp only at q1 q2 q3
   have hne : ¬ (Value.slice A (ng + k) c).ownBlock = some w.heap.size := fun hc => by
    rcases hat with h | h
    ·have := hRlt _ (h.symm.trans hc); omega
    ·have := h _ hc; omega
   have halg : Alt (fun i => i = w.heap.size ∨ R = some i) w (wr.alloc (.cells #[.int .i64 gk, .int .i64 ga, .int .i64 gb] 49)) := (hal0.trans_ hal (fun _ _ h => h)).alloc_ _
   have hbl : Below lo w ((wr.alloc (.cells #[.int .i64 gk, .int .i64 ga, .int .i64 gb] 49)).drewN 1) := (halg.drewN_ 1).below_ hlo (fun i hi hc => by
    rcases hc with hc | hc
    ·omega
    ·have := hRlt i hc; omega)
   have hgb := BxG.new (k := gk) (a := ga) (c := gb) wr 49
   have hx1 := hx.alt (Alt.alloc_ (Alt.refl_ (fun _ => False) wr) (.cells #[.int .i64 gk, .int .i64 ga, .int .i64 gb] 49)) (fun h => h)
   have hxq := hx1; obtain ⟨k0, k1, k2, k3⟩ := hxq
   obtain ⟨p0, p1, p2⟩ := hgb
   have hfar : ∀ g, A = some ⟨g, 0, none⟩ → g ≠ w.heap.size := fun g hg hc => hne (by subst hg; subst hc; rfl)
   have hcall : Calls Tryz.prog 78 #[.agg #[.int .i64 gk, .int .i64 ga, .int .i64 gb], .func (.func f) #[] cap] ((wr.alloc (.cells #[.int .i64 gk, .int .i64 ga, .int .i64 gb] 49)).drewN 1) fun e w' => e = .returned (.agg #[.int .i64 nk, .int .i64 na, .int .i64 nb]) ∧ Below ((wr.alloc (.cells #[.int .i64 gk, .int .i64 ga, .int .i64 gb] 49)).drewN 1).heap.size ((wr.alloc (.cells #[.int .i64 gk, .int .i64 ga, .int .i64 gb] 49)).drewN 1) w' := by
    refine (moved_any f hcf cap tq ⟨gk, ga, gb⟩ n _ hgt (zH fun z h0 h1 w1 hb => hf.out z h0 h1 w1 (hbl.trans (hb.mono (by simp; omega))))).mono ?_
    rintro e w' ⟨he, hb⟩
    exact ⟨by rw [he, hN.out], hb⟩
   clear HG HO hd0 hz0 f0 fz0 ho0 hO0 hD0 hE0 hx0 hx1 halg
   go_wp2_with fail
   go_region_law (first | (go_simp; refine hcall.mono ?_; rintro e w4 ⟨rfl, hb4⟩; have hz4 := hb4.size; have k4 := (((Alt.refl_ (fun _ => False) wr).alloc_ (.cells #[.int .i64 gk, .int .i64 ga, .int .i64 gb] 49)).drewN_ 1).new_ hb4; have hx4 := hx.alt k4 (fun h => h); have hx4q := hx4; obtain ⟨m0, m1, m2, m3⟩ := hx4q; have hx4b := hx4.alt ((Alt.refl_ (fun _ => False) w4).alloc_ (.cells #[.int .i64 nk, .int .i64 na, .int .i64 nb] 49)) (fun h => h); obtain ⟨j0, j1, j2, j3⟩ := hx4b) | (refine step_appG _ (by rfl) _ _ (by rfl) (by rfl) ((((hown.alloc (.cells #[.int .i64 gk, .int .i64 ga, .int .i64 gb] 49)).drewN 1).below hb4 (.inl lR)).alloc _) (by rfl) (RG_one _ nk na nb _ _ rfl) (by omega) (by simp at hz4 ⊢; omega) ?_; intro A5 c5 w5 hown5 hg5 hat5 hk5; have k5 := ((k4.alloc_ (.cells #[.int .i64 nk, .int .i64 na, .int .i64 nb] 49)).mono_ (T := fun i => (Value.slice A (ng + k) c).ownBlock = some i) (fun _ _ h => h.elim)).grow_ hg5 (fun _ _ h => h); have hx5 := hx.alt k5 hne; have hx5q := hx5; obtain ⟨n0, n1, n2, n3⟩ := hx5q; have f5 := hfz.alt k5 hx.lt hne; have f52 := f5 2))
   all_goals
    have f6 := f5.set ⟨w.heap.size, 2, none⟩ (.slice A5 (ng + k + 1) c5)
    have hx6 := hx5.setG A5 (ng + k + 1) c5
    have hne5 : ¬ (Value.slice A5 (ng + k + 1) c5).ownBlock = some w.heap.size := by
     rcases hat5 with h | h
     ·rw [h]; exact hne
     ·rw [h]; intro hc; injection hc with hc; simp at hz4 hc; omega
    have hown6 := hown5.far1 ⟨w.heap.size, 2, none⟩ (.slice A5 (ng + k + 1) c5) hne5
    have hat6 : (Value.slice A5 (ng + k + 1) c5).ownBlock = R ∨ ∀ g, (Value.slice A5 (ng + k + 1) c5).ownBlock = some g → w.heap.size + 4 ≤ g := by
     rcases hat5 with h | h
     ·rw [h]; exact hat
     ·refine .inr fun g hg => ?_
      rw [h] at hg; injection hg with hg; simp at hz4 hg; omega
    have hal6 := (hal.trans_ k5 (fun i hi hc => by
     rw [hs0] at hi
     rcases hat with h | h
     ·exact .inr (h.symm.trans hc)
     ·have := h i hc; omega)).set_ ⟨w.heap.size, 2, none⟩ (.slice A5 (ng + k + 1) c5) (fun _ => .inl rfl)
    rw [List.append_assoc, ← hN.out, ← hG.out] at hown6
    clear hN hG hM
    go_wp2
    go_roundw
    case rel => exact ⟨k + 1, _, _, by omega, by go_num, hx6, f6, hown6.now, hat6, hal6⟩
    case measure => simp [intOf]; omega
  ·obtain rfl : mg = k := Nat.le_antisymm (Nat.le_of_not_lt hlt) hk
   have hS : ∀ j, w.heap.size < j → ¬ (j = w.heap.size ∨ R = some j) := fun j hj hc => by
    rcases hc with hc | hc
    ·omega
    ·have := hRlt j hc; omega
   have hd1 := hd0.alt hal (hS _ (by omega))
   have hz1 := hz0.alt hal (hS _ (by omega))
   have fz1 := fz0.alt hal (by rw [hs0]; omega) (hS _ (by omega))
   have hO1 := hO0.alt hal (fun g hg => by simp [Value.ownBlock] at hg; exact hS g (by omega))
   have hE1 := hE0.alt hal (fun hn b o hb hc => by
    have := hdlo.2 hn b o hb
    rcases hc with hc | hc
    ·omega
    ·have := hRlt b hc; omega)
   have halw := hal0.trans_ hal (fun _ _ h => h)
   have hAb : ∀ g, (Value.slice A (ng + mg) c).ownBlock = some g → g ≠ w.heap.size + 3 ∧ g ≠ w.heap.size + 2 ∧ g < wr.heap.size := fun g hg => by
    have h3 := (hown.lt g hg).2.2
    rcases hat with h | h
    ·have := hRlt g (h.symm.trans hg); omega
    ·have := h g hg; omega
   clear l0 l1 l2 l3 hx0 hd0 hz0 f0 fz0 ho0 hO0 hD0 hE0 HG hal0 hal hs0 hfz
   have hq := hd1; obtain ⟨l0, l1, l2, l3⟩ := hq
   go_wp2
   obtain ⟨w1, rfl⟩ : ∃ w1, w1 = wr := ⟨_, rfl⟩
   go_loopw [8, 33] (fun o i wr2 => ∃ (k : Nat) (O : Option Addr) (c2 : Nat), k ≤ mo ∧ i = .int .i64 k ∧ o = .slice O k c2 ∧ Own wr2 w.heap.size wr2.heap.size (.slice O k c2) k (mvo tq os k) ∧
    (∀ g, (Value.slice O k c2).ownBlock = some g → g = w.heap.size + 3 ∨ w1.heap.size ≤ g) ∧ Alt (fun i => i = w.heap.size + 3) w1 wr2) (fun _ i _ => mo - (intOf i).toNat)
   case atStart => exact ⟨0, _, _, Nat.zero_le _, rfl, rfl, hO1.now, fun g hg => by simp [Value.ownBlock] at hg; omega, Alt.refl_ _ _⟩
   case round =>
    obtain ⟨k, O, c2, hk2, rfl, rfl, hO, hOb, hal2⟩ := hrel
    have hsz2 := hal2.size
    clear l0 l1 l2 l3
    by_cases hlt2 : k < mo
    ·obtain ⟨kb, ob, rfl, hkb, q1⟩ := (hE1.alt hal2 (fun hn b o hb hc => by
      have := hdlo.2 hn b o hb; omega)).at_ hlt2
     have hbo := hos k hlt2
     have hOk := zH (HO.out k hlt2)
     have halx := halw.trans_ hal2 (fun i hi hc => by omega)
     have hbl2 : Below lo w wr := halx.below_ hlo (fun i hi hc => by
      rcases hc with hc | hc
      ·omega
      ·have := hRlt i hc; omega)
     obtain ⟨Wk, hWk⟩ := lT (mvo tq os k)
     rw [hWk.out] at hO hOk
     generalize gi os k = z at *
     clear hx hd1 hz1 fz1 hO1 hE1 hown hat HO halx
     go_wp2_with fail
     refine (hf.out z hbo.1 hbo.2 _ hbl2).mono ?_
     rintro e w2 ⟨rfl, hb1⟩
     have hzz := hb1.size
     go_wp2_with (at_builtin; go_loud (refine Zbn _ rfl _ _ rfl rfl ((hO.below hb1 (.inl lR)).alloc _) rfl (Zbj _ _ _ _ rfl) (by omega) (by simp; omega) ?_; intro A5 c5 w5 hown5 hg5 hat5 hk5))
     have k5 := (((Alt.refl_ (fun _ => False) wr).new_ hb1).alloc_ (.cells #[.int .i64 (tq z)] 3)).mono_ (T := fun i => (Value.slice O k c2).ownBlock = some i) (fun _ _ h => h.elim) |>.grow_ hg5 (fun _ _ h => h)
     have hOb5 : ∀ g, (Value.slice A5 (k + 1) c5).ownBlock = some g → g = w.heap.size + 3 ∨ w1.heap.size ≤ g := fun g hg => by
      rcases hat5 with h | h
      ·exact hOb g (h.symm.trans hg)
      ·rw [h] at hg; injection hg with hg; simp at hg; omega
     have hal5 := hal2.trans_ k5 (fun i hi hc => by have := hOb i hc; omega)
     rw [← hOk.out] at hown5
     clear hOk hWk
     go_wp2
     go_roundw
     case rel => exact ⟨k + 1, _, _, by omega, by go_num, rfl, hown5, hOb5, hal5⟩
     case measure => simp [intOf]; omega
    ·obtain rfl : mo = k := Nat.le_antisymm (Nat.le_of_not_lt hlt2) hk2
     have hz2 := hz1.alt hal2 (by omega)
     have fz2 := fz1.alt hal2 hz1.lt (by omega)
     have hx2 := hx.alt hal2 (by omega)
     have hG2 := hown.alt hal2 (fun g hg hc => (hAb g hg).1 hc)
     have hap : Apart (.slice A (ng + mg) c) (.slice O mo c2) := fun g h1 h2 => by
      have := hAb g h1
      have := hOb g h2
      omega
     have hatF : (Value.slice A (ng + mg) c).ownBlock = (Value.slice Ag ng cg).ownBlock ∨ ∀ g, (Value.slice A (ng + mg) c).ownBlock = some g → w.heap.size ≤ g := by
      rw [hR.out]
      rcases hat with h | h
      ·exact .inl h
      ·exact .inr fun g hg => by have := h g hg; omega
     have hG3 := (hG2.alt (Zbh (Alt.refl_ (fun i => i = w.heap.size + 2) wr) (fun _ => rfl) x y A (ng + mg) c Ao no co) (fun g hg hc => (hAb g hg).2.1 hc)).now
     have hO3 := (hO.alt (Zbh (Alt.refl_ (fun i => i = w.heap.size + 2) wr) (fun _ => rfl) x y A (ng + mg) c Ao no co) (fun g hg hc => by have := hOb g hg; have := hx.lt; omega)).now
     have hgr := (Zbh (b := w.heap.size + 2) (halw.trans_ hal2 (fun i hi hc => by omega)) (fun h => by omega) x y A (ng + mg) c Ao no co).grownBy_ (r := (Value.slice Ag ng cg).ownBlock) (fun i hi hc => by
      rw [hR.out]
      rcases hc with hc | hc
      ·omega
      ·exact hc)
     clear hat hx hd1 hz1 fz1 hO1 hE1 hown hG2 hO hal2 halw
     have hq := hx2; obtain ⟨k0, k1, k2, k3⟩ := hq
     have hq := hz2; obtain ⟨r0, r1, r2, r3⟩ := hq
     have g0 := fz2 0; have g1 := fz2 1; have g2 := fz2 2; have g3 := fz2 3
     go_wp2
     have hq9 := BxC.set4 hz2 x y A (ng + mg) c Ao no co
     obtain ⟨q0, q1, q2, q3⟩ := hq9
     refine bodyPost_ret (v := .tuple #[.agg #[.int .i64 x, .int .i64 y, .slice A (ng + mg) c, .slice Ao no co], .slice O mo c2]) (by simp [results, Tryz.results47, go_sem, q0, q1, q2, q3]) rfl ?_
     exact ⟨A, c, O, c2, rfl, hG3, hO3, hap, hatF, hgr⟩
theorem GateIs.mono {g : G3} {n m : Int} (h : GateIs g n) (hm : n ≤ m) : GateIs g m := by
 cases h with
 | xor_ hk a0 a1 b0 b1 => exact .xor_ hk a0 (by omega) b0 (by omega)
 | and_ hk a0 a1 b0 b1 => exact .and_ hk a0 (by omega) b0 (by omega)
 | not_ hk a0 a1 b0 => exact .not_ hk a0 (by omega) b0
 | one_ hk a0 b0 => exact .one_ hk a0 b0
theorem Zcs {x y : Int} {gs : List G3} {os : List Int} {ng : Nat} (h : circB x y gs os = true) (hl : gs.length = ng) : ∀ k, k < ng → GateIs (gg gs k) (x + y + ng) := fun k hk => by
 subst hl
 exact (Zbx (Zao h).2.2.2.2.1 hk).mono (by omega)
theorem circB_gate_at {x y : Int} {gs : List G3} {os : List Int} {ng : Nat} (h : circB x y gs os = true) (hl : gs.length = ng) : ∀ k : Nat, k < ng → GateIs (gg gs k) (x + y + k) := fun k hk => by
 subst hl
 exact Zbx (Zao h).2.2.2.2.1 hk
theorem circB_outs {x y : Int} {gs : List G3} {os : List Int} {ng no : Nat} (h : circB x y gs os = true) (hl : gs.length = ng) (ho : os.length = no) : ∀ k, k < no → 0 ≤ gi os k ∧ gi os k < x + y + ng := fun k hk => by
 subst hl
 have := allB_iff.1 (Zao h).2.2.2.2.2 (gi os k) (gi_mem (by omega))
 omega
theorem CloneG_any (A : Option Addr) (n c : Nat) (gs : List G3) (w : World) (ha : RG w A n gs) (hn : n ≤ 2097152) :
 Calls Tryz.prog 46 #[.slice A n c] w fun e w' => ∃ A' c', e = .returned (.slice A' n c') ∧ OwnG w' w.heap.size w'.heap.size (.slice A' n c') n gs ∧ Below w.heap.size w w' := by
 have hl := ha.len
 rcases A with _ | ad
 ·have h0 : n = 0 := by
   rcases Nat.eq_zero_or_pos n with h | h
   ·exact h
   ·obtain ⟨b, o, h', _⟩ := ha.2 h
    cases h'
  subst h0
  obtain rfl : gs = [] := List.eq_nil_of_length_eq_zero hl
  have he := fun W => Lib.run_eql_slice_nil (P := Tryz.prog) W (t := 24) (e := 49) none 0 c 0 0 Tryz.underlying24
  go_enter Tryz.func46, Tryz.ntmps46
  go_wp2
  go_ret
  exact ⟨_, _, rfl, OwnG.none_ _ _ _, Below.refl _ _⟩
 ·have he := fun W => Lib.run_eql_slice_nil (P := Tryz.prog) W (t := 24) (e := 49) (some ad) n c 0 0 Tryz.underlying24
  have hB : Below w.heap.size w (w.alloc (.cells #[] 49)) := bA
  have h0 := OwnG_new0 w w.heap.size lR
  go_enter Tryz.func46, Tryz.ntmps46
  go_wp2_with (at_builtin; refine Zbi _ rfl _ _ rfl rfl h0 rfl (ha.alloc _) (by omega) (by simp) ?_; intro A' c' w1 hown hg hat hk)
  simp only [Nat.zero_add, List.nil_append] at hown
  go_wp2
  go_ret
  exact ⟨_, _, by simp, hown, Zcn hB h0 hg (by simp) lR⟩
end Go.Proofs.YtnhmfedegfcflaaGreatDoor
