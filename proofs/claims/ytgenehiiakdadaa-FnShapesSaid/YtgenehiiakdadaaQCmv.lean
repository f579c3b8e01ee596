/- Contract of ciMoved: gates moved by a list of wires. -/
import Derived.Test.YtgenehiiakdadaaQAo
import Derived.Test.YtgenehiiakdadaaQNum
namespace Go.Proofs.Ytgenehiiakdadaa
open Go.RowKit
set_option linter.unusedVariables false
set_option linter.unusedSimpArgs false

theorem OwnC.growG {w w' : World} {lo hi : Nat} {Ag Ag' : Option Addr} {ng cg ng' cg' : Nat} {Ao : Option Addr} {no co : Nat} {gs gs' : List G3} {os : List Int} (h : OwnC w lo hi Ag ng cg Ao no co gs os) (ho : OwnG w' lo w'.heap.size (.slice Ag' ng' cg') ng' gs') (hg : w.grownBy w' (Value.slice Ag ng cg).ownBlock)
    (hat : (Value.slice Ag' ng' cg').ownBlock = (Value.slice Ag ng cg).ownBlock ∨ (Value.slice Ag' ng' cg').ownBlock = some w.heap.size) : OwnC w' lo w'.heap.size Ag' ng' cg' Ao no co gs' os := by
  have ha := h.2.2
  refine ⟨ho, ⟨(h.2.1.1.kept hg ?_), fun g hg' => Nat.lt_of_lt_of_le (h.2.1.lt g hg').2.2 hg.size⟩, fun g h1 h2 => ?_⟩
  · cases hv : (Value.slice Ao no co).ownBlock with
    | none => exact .inl rfl
    | some g => exact .inr (fun he => ha g he.symm hv)
  · rcases hat with h3 | h3
    · exact ha g (h3 ▸ h1) h2
    · rw [h3] at h1; injection h1 with h1; have := h.2.1.lt g h2; omega
theorem OwnC.growI {w w' : World} {lo hi : Nat} {Ag : Option Addr} {ng cg : Nat} {Ao Ao' : Option Addr} {no co no' co' : Nat} {gs : List G3} {os os' : List Int} (h : OwnC w lo hi Ag ng cg Ao no co gs os) (ho : Own w' lo w'.heap.size (.slice Ao' no' co') no' os') (hg : w.grownBy w' (Value.slice Ao no co).ownBlock)
    (hat : (Value.slice Ao' no' co').ownBlock = (Value.slice Ao no co).ownBlock ∨ (Value.slice Ao' no' co').ownBlock = some w.heap.size) : OwnC w' lo w'.heap.size Ag ng cg Ao' no' co' gs os' := by
  have ha := h.2.2
  refine ⟨⟨(h.1.1.kept hg ?_), fun g hg' => Nat.lt_of_lt_of_le (h.1.lt g hg').2.2 hg.size⟩, ho, fun g h1 h2 => ?_⟩
  · cases hv : (Value.slice Ag ng cg).ownBlock with
    | none => exact .inl rfl
    | some g => exact .inr (fun he => ha g hv he.symm)
  · rcases hat with h3 | h3
    · exact ha g h1 (h3 ▸ h2)
    · rw [h3] at h2; injection h2 with h2; have := h.1.lt g h1; omega
theorem RG_one (w : World) (k a b : Int) (t : TypeId) (g : Nat) (hg : w.heap.size = g) : RG (w.alloc (.cells #[.int .i64 k, .int .i64 a, .int .i64 b] t)) (some ⟨g, 0, none⟩) 1 [⟨k, a, b⟩] := by
  subst hg; exact RG_new1 w k a b t
/-- The first k gates moved. -/
def mvs (to : Int → Int) (ds : List G3) (k : Nat) : List G3 := (ds.take k).map (mvG to)
theorem mvs_succ (to : Int → Int) {ds : List G3} {k : Nat} (h : k < ds.length) : mvs to ds (k + 1) = mvs to ds k ++ [mvG to (gg ds k)] := by
  unfold mvs; rw [gg_take_snoc h, List.map_append]; rfl
theorem mvs_len (to : Int → Int) {ds : List G3} {k : Nat} (h : k ≤ ds.length) : (mvs to ds k).length = k := by simp [mvs]; omega
/-- The wires behind k gates. -/
def mws (ws : List Int) (next : Int) (k : Nat) : List Int := ws ++ tab k fun i => next + i
theorem mws_succ (ws : List Int) (next : Int) (k : Nat) : mws ws next (k + 1) = mws ws next k ++ [next + k] := by unfold mws; rw [tab_snoc, List.append_assoc]
theorem mws_len (ws : List Int) (next : Int) (k : Nat) : (mws ws next k).length = ws.length + k := by simp [mws, tab_len]
theorem mws_at {ws : List Int} {next : Int} {k : Nat} {z : Int} (h0 : 0 ≤ z) (h : z < ws.length + k) : gi (mws ws next k) z.toNat = wmap ws next z := gi_tabs h0 h

set_option maxRecDepth 100000 in
set_option maxHeartbeats 3000000 in
theorem ciMoved_any (Dg : Option Addr) (mg dg : Nat) (A : Option Addr) (n c : Nat) (ds : List G3) (ws : List Int) (next : Int) (w : World) (hd : RG w Dg mg ds) (ha : RI w A n ws) (hgat : ∀ k : Nat, k < mg → GateIs (gg ds k) ((n : Int) + k)) (hmg : mg ≤ 100000) (hn : n ≤ 100000) (hx : 0 ≤ next ∧ next ≤ 1000000) :
    Calls Try.prog 31 #[.slice Dg mg dg, .slice A n c, .int .i64 next] w fun e w' =>
      ∃ Ag cg Ao co, e = .returned (.tuple #[.slice Ag mg cg, .slice Ao (n + mg) co]) ∧ OwnC w' w.heap.size w'.heap.size Ag mg cg Ao (n + mg) co (mvs (wmap ws next) ds mg) (mws ws next mg) ∧ Below w.heap.size w w' := by
  have hlm := hd.len
  have hln := ha.len
  have HG : Hid (∀ k, k < mg → mvs (wmap ws next) ds (k + 1) = mvs (wmap ws next) ds k ++ [mvG (wmap ws next) (gg ds k)]) := Lib.hid fun k hk => mvs_succ _ (by omega)
  have HW : Hid (∀ k, mws ws next (k + 1) = mws ws next k ++ [next + k]) := Lib.hid (mws_succ ws next)
  have HL : Hid (∀ k, (mws ws next k).length = n + k) := Lib.hid fun k => by rw [mws_len, hln]
  have HA : Hid (∀ k : Nat, ∀ z : Int, 0 ≤ z → z < (n : Int) + k → gi (mws ws next k) z.toNat = wmap ws next z) := Lib.hid fun k z h0 h1 => mws_at h0 (by rw [hln]; exact h1)
  have hm0 : mvs (wmap ws next) ds 0 = [] := rfl
  have hw0 : mws ws next 0 = ws := by simp [mws, tab_zero]
  go_enter Try.func31, Try.ntmps31
  go_wp2_with fail
  refine (l1Own_any A n c ws _ ha (by omega)).mono ?_
  rintro e w1 ⟨A1, c1, rfl, hown1, hb1⟩
  have hst : OwnC w1 w.heap.size w1.heap.size none 0 0 A1 n c1 (mvs (wmap ws next) ds 0) (mws ws next 0) := by
    rw [hm0, hw0]; exact ⟨OwnG.none_ _ _ _, hown1, Apart.noneG _ _ _⟩
  go_wp2
  go_loopw [8, 1, 2, 15] (fun o ww nx i wr => ∃ (k : Nat) (Ag : Option Addr) (cg : Nat) (Ao : Option Addr) (co : Nat), k ≤ mg ∧ i = .int .i64 k ∧ nx = .int .i64 (next + k) ∧ o = .slice Ag k cg ∧ ww = .slice Ao (n + k) co ∧ OwnC wr w.heap.size wr.heap.size Ag k cg Ao (n + k) co (mvs (wmap ws next) ds k) (mws ws next k) ∧ Below w.heap.size w wr) (fun _ _ _ i _ => mg - (intOf i).toNat)
  case atStart => exact ⟨0, _, _, _, _, Nat.zero_le _, rfl, by simp, rfl, rfl, hst, hb1⟩
  case round =>
    obtain ⟨k, Ag, cg, Ao, co, hk, rfl, rfl, rfl, rfl, hO, hb⟩ := hrel
    clear hst hown1 hb1 hm0 hw0
    have hz := hb.size
    by_cases hlt : k < mg
    · obtain ⟨kb, ob, rfl, hkb, q1, q2, q3⟩ := (hd.below hb (Nat.le_refl _)).at_ hlt
      have hgt := hgat k hlt
      have hG := Lib.hid (HG.out k hlt)
      have hW := Lib.hid (HW.out k)
      have hL := HL.out k
      have hA := Lib.hid (HA.out k)
      obtain ⟨M, hM⟩ : ∃ M, Hid (mvs (wmap ws next) ds k = M) := ⟨_, Lib.hid rfl⟩
      obtain ⟨Wk, hWk⟩ : ∃ Wk, Hid (mws ws next k = Wk) := ⟨_, Lib.hid rfl⟩
      rw [hM.out] at hO hG
      rw [hWk.out] at hO hW hL hA
      generalize gg ds k = GG at *
      obtain ⟨gk, ga, gb⟩ := GG
      dsimp only at q1 q2 q3
      cases hgt with
      | xor_ hk0 a0 a1 b0 b1 =>
        dsimp only at hk0 a0 a1 b0 b1
        subst hk0
        obtain ⟨za, hza⟩ : ∃ za, Hid (wmap ws next ga = za) := ⟨_, Lib.hid rfl⟩
        have hra := Lib.hid (hA.out ga a0 a1)
        rw [hza.out] at hra
        obtain ⟨ia, rfl⟩ : ∃ ia : Nat, ga = ia := ⟨ga.toNat, by omega⟩
        have hia : ia < n + k := by omega
        obtain ⟨zb, hzb⟩ : ∃ zb, Hid (wmap ws next gb = zb) := ⟨_, Lib.hid rfl⟩
        have hrb := Lib.hid (hA.out gb b0 b1)
        rw [hzb.out] at hrb
        obtain ⟨ib, rfl⟩ : ∃ ib : Nat, gb = ib := ⟨gb.toNat, by omega⟩
        have hib : ib < n + k := by omega
        have hG' : Hid (mvs (wmap ws next) ds (k + 1) = M ++ [⟨0, za, zb⟩]) := Lib.hid (by rw [hG.out]; simp [mvG, hza.out, hzb.out])
        have hB1 := hb.alloc hz (.cells #[.int .i64 0, .int .i64 (ia : Int), .int .i64 (ib : Int)] 58)
        have hO1 := hO.below ((Below.refl wr.heap.size wr).alloc (Nat.le_refl _) (.cells #[.int .i64 0, .int .i64 (ia : Int), .int .i64 (ib : Int)] 58)) (.inl (Nat.le_refl _))
        obtain ⟨gq, rfl, hgq1, hgq2, hgq3⟩ := hO.2.1.some_ (by omega)
        obtain ⟨ca, _⟩ := hO1.2.1.cellAt (k := ia) (by omega)
        have ca' := Lib.hid hra.out
        rw [show gi Wk ia = za from ca'.out] at ca
        have hO1b := hO.below ((Below.refl wr.heap.size wr).alloc (Nat.le_refl _) (.cells #[.int .i64 0, .int .i64 za, .int .i64 (ib : Int)] 58)) (.inl (Nat.le_refl _))
        obtain ⟨cb, _⟩ := hO1b.2.1.cellAt (k := ib) (by omega)
        rw [show gi Wk ib = zb from hrb.out] at cb
        have hB2 := (hb.alloc hz (.cells #[.int .i64 0, .int .i64 za, .int .i64 zb] 58)).alloc (by simp; omega) (.cells #[.int .i64 0, .int .i64 za, .int .i64 zb] 58)
        have hO2 := (hO.below ((Below.refl wr.heap.size wr).alloc (Nat.le_refl _) (.cells #[.int .i64 0, .int .i64 za, .int .i64 zb] 58)) (.inl (Nat.le_refl _))).below ((Below.refl (wr.alloc (.cells #[.int .i64 0, .int .i64 za, .int .i64 zb] 58)).heap.size (wr.alloc (.cells #[.int .i64 0, .int .i64 za, .int .i64 zb] 58))).alloc (Nat.le_refl _) (.cells #[.int .i64 0, .int .i64 za, .int .i64 zb] 58)) (.inl (Nat.le_refl _))
        clear hb hO hB1 hO1 hgat HG HW HL HA
        go_wp2_with (first
          | (at_builtin; refine wpList_appG _ rfl _ _ rfl rfl hO2.1 rfl (RG_one _ _ _ _ _ _ (by simp)) (by omega) (by first | (simp; done) | (simp; omega)) ?_; intro A5 c5 w5 hown5 hg5 hat5 hk5; have hO5 := hO2.growG hown5 hg5 hat5; have hb5 := below_appG hB2 hO2.1 hg5 (by first | (simp; done) | (simp; omega)) (Nat.le_refl _); have hbB := hb5.alloc hb5.size (.cells #[.int .i64 (next + k)] 3); have hOB := hO5.below ((Below.refl w5.heap.size w5).alloc (Nat.le_refl _) (.cells #[.int .i64 (next + k)] 3)) (.inl (Nat.le_refl _)); have hz5 := hb5.size; clear hown5 hg5 hat5 hk5)
          | (at_builtin; refine wpList_appI _ rfl _ _ rfl rfl hOB.2.1 rfl (RI_one _ _ _ _ (by simp)) (by omega) (by first | (simp; done) | (simp; omega)) ?_; intro A6 c6 w6 hown6 hg6 hat6 hk6; have hO6 := hOB.growI hown6 hg6 hat6; have hb6 := below_app hbB hOB.2.1 hg6 (by first | (simp; done) | (simp; omega)) (Nat.le_refl _); clear hown6 hg6 hat6 hk6))
        rw [← hG'.out, ← hW.out] at hO6
        clear hO2 hB2 hO5 hb5 hOB hbB hG hG' hW hM hWk hL hA
        go_wp2
        go_roundw
        case rel => exact ⟨k + 1, _, _, _, _, by omega, by go_num, by congr 1; omega, rfl, rfl, hO6, hb6⟩
        case measure => simp [intOf]; omega
      | and_ hk0 a0 a1 b0 b1 =>
        dsimp only at hk0 a0 a1 b0 b1
        subst hk0
        obtain ⟨za, hza⟩ : ∃ za, Hid (wmap ws next ga = za) := ⟨_, Lib.hid rfl⟩
        have hra := Lib.hid (hA.out ga a0 a1)
        rw [hza.out] at hra
        obtain ⟨ia, rfl⟩ : ∃ ia : Nat, ga = ia := ⟨ga.toNat, by omega⟩
        have hia : ia < n + k := by omega
        obtain ⟨zb, hzb⟩ : ∃ zb, Hid (wmap ws next gb = zb) := ⟨_, Lib.hid rfl⟩
        have hrb := Lib.hid (hA.out gb b0 b1)
        rw [hzb.out] at hrb
        obtain ⟨ib, rfl⟩ : ∃ ib : Nat, gb = ib := ⟨gb.toNat, by omega⟩
        have hib : ib < n + k := by omega
        have hG' : Hid (mvs (wmap ws next) ds (k + 1) = M ++ [⟨1, za, zb⟩]) := Lib.hid (by rw [hG.out]; simp [mvG, hza.out, hzb.out])
        have hB1 := hb.alloc hz (.cells #[.int .i64 1, .int .i64 (ia : Int), .int .i64 (ib : Int)] 58)
        have hO1 := hO.below ((Below.refl wr.heap.size wr).alloc (Nat.le_refl _) (.cells #[.int .i64 1, .int .i64 (ia : Int), .int .i64 (ib : Int)] 58)) (.inl (Nat.le_refl _))
        obtain ⟨gq, rfl, hgq1, hgq2, hgq3⟩ := hO.2.1.some_ (by omega)
        obtain ⟨ca, _⟩ := hO1.2.1.cellAt (k := ia) (by omega)
        have ca' := Lib.hid hra.out
        rw [show gi Wk ia = za from ca'.out] at ca
        have hO1b := hO.below ((Below.refl wr.heap.size wr).alloc (Nat.le_refl _) (.cells #[.int .i64 1, .int .i64 za, .int .i64 (ib : Int)] 58)) (.inl (Nat.le_refl _))
        obtain ⟨cb, _⟩ := hO1b.2.1.cellAt (k := ib) (by omega)
        rw [show gi Wk ib = zb from hrb.out] at cb
        have hB2 := (hb.alloc hz (.cells #[.int .i64 1, .int .i64 za, .int .i64 zb] 58)).alloc (by simp; omega) (.cells #[.int .i64 1, .int .i64 za, .int .i64 zb] 58)
        have hO2 := (hO.below ((Below.refl wr.heap.size wr).alloc (Nat.le_refl _) (.cells #[.int .i64 1, .int .i64 za, .int .i64 zb] 58)) (.inl (Nat.le_refl _))).below ((Below.refl (wr.alloc (.cells #[.int .i64 1, .int .i64 za, .int .i64 zb] 58)).heap.size (wr.alloc (.cells #[.int .i64 1, .int .i64 za, .int .i64 zb] 58))).alloc (Nat.le_refl _) (.cells #[.int .i64 1, .int .i64 za, .int .i64 zb] 58)) (.inl (Nat.le_refl _))
        clear hb hO hB1 hO1 hgat HG HW HL HA
        go_wp2_with (first
          | (at_builtin; refine wpList_appG _ rfl _ _ rfl rfl hO2.1 rfl (RG_one _ _ _ _ _ _ (by simp)) (by omega) (by first | (simp; done) | (simp; omega)) ?_; intro A5 c5 w5 hown5 hg5 hat5 hk5; have hO5 := hO2.growG hown5 hg5 hat5; have hb5 := below_appG hB2 hO2.1 hg5 (by first | (simp; done) | (simp; omega)) (Nat.le_refl _); have hbB := hb5.alloc hb5.size (.cells #[.int .i64 (next + k)] 3); have hOB := hO5.below ((Below.refl w5.heap.size w5).alloc (Nat.le_refl _) (.cells #[.int .i64 (next + k)] 3)) (.inl (Nat.le_refl _)); have hz5 := hb5.size; clear hown5 hg5 hat5 hk5)
          | (at_builtin; refine wpList_appI _ rfl _ _ rfl rfl hOB.2.1 rfl (RI_one _ _ _ _ (by simp)) (by omega) (by first | (simp; done) | (simp; omega)) ?_; intro A6 c6 w6 hown6 hg6 hat6 hk6; have hO6 := hOB.growI hown6 hg6 hat6; have hb6 := below_app hbB hOB.2.1 hg6 (by first | (simp; done) | (simp; omega)) (Nat.le_refl _); clear hown6 hg6 hat6 hk6))
        rw [← hG'.out, ← hW.out] at hO6
        clear hO2 hB2 hO5 hb5 hOB hbB hG hG' hW hM hWk hL hA
        go_wp2
        go_roundw
        case rel => exact ⟨k + 1, _, _, _, _, by omega, by go_num, by congr 1; omega, rfl, rfl, hO6, hb6⟩
        case measure => simp [intOf]; omega
      | not_ hk0 a0 a1 b0 =>
        dsimp only at hk0 a0 a1 b0
        subst hk0
        subst b0
        obtain ⟨za, hza⟩ : ∃ za, Hid (wmap ws next ga = za) := ⟨_, Lib.hid rfl⟩
        have hra := Lib.hid (hA.out ga a0 a1)
        rw [hza.out] at hra
        obtain ⟨ia, rfl⟩ : ∃ ia : Nat, ga = ia := ⟨ga.toNat, by omega⟩
        have hia : ia < n + k := by omega
        have hG' : Hid (mvs (wmap ws next) ds (k + 1) = M ++ [⟨2, za, 0⟩]) := Lib.hid (by rw [hG.out]; simp [mvG, hza.out])
        have hB1 := hb.alloc hz (.cells #[.int .i64 2, .int .i64 (ia : Int), .int .i64 0] 58)
        have hO1 := hO.below ((Below.refl wr.heap.size wr).alloc (Nat.le_refl _) (.cells #[.int .i64 2, .int .i64 (ia : Int), .int .i64 0] 58)) (.inl (Nat.le_refl _))
        obtain ⟨gq, rfl, hgq1, hgq2, hgq3⟩ := hO.2.1.some_ (by omega)
        obtain ⟨ca, _⟩ := hO1.2.1.cellAt (k := ia) (by omega)
        have ca' := Lib.hid hra.out
        rw [show gi Wk ia = za from ca'.out] at ca
        have hB2 := (hb.alloc hz (.cells #[.int .i64 2, .int .i64 za, .int .i64 0] 58)).alloc (by simp; omega) (.cells #[.int .i64 2, .int .i64 za, .int .i64 0] 58)
        have hO2 := (hO.below ((Below.refl wr.heap.size wr).alloc (Nat.le_refl _) (.cells #[.int .i64 2, .int .i64 za, .int .i64 0] 58)) (.inl (Nat.le_refl _))).below ((Below.refl (wr.alloc (.cells #[.int .i64 2, .int .i64 za, .int .i64 0] 58)).heap.size (wr.alloc (.cells #[.int .i64 2, .int .i64 za, .int .i64 0] 58))).alloc (Nat.le_refl _) (.cells #[.int .i64 2, .int .i64 za, .int .i64 0] 58)) (.inl (Nat.le_refl _))
        clear hb hO hB1 hO1 hgat HG HW HL HA
        go_wp2_with (first
          | (at_builtin; refine wpList_appG _ rfl _ _ rfl rfl hO2.1 rfl (RG_one _ _ _ _ _ _ (by simp)) (by omega) (by first | (simp; done) | (simp; omega)) ?_; intro A5 c5 w5 hown5 hg5 hat5 hk5; have hO5 := hO2.growG hown5 hg5 hat5; have hb5 := below_appG hB2 hO2.1 hg5 (by first | (simp; done) | (simp; omega)) (Nat.le_refl _); have hbB := hb5.alloc hb5.size (.cells #[.int .i64 (next + k)] 3); have hOB := hO5.below ((Below.refl w5.heap.size w5).alloc (Nat.le_refl _) (.cells #[.int .i64 (next + k)] 3)) (.inl (Nat.le_refl _)); have hz5 := hb5.size; clear hown5 hg5 hat5 hk5)
          | (at_builtin; refine wpList_appI _ rfl _ _ rfl rfl hOB.2.1 rfl (RI_one _ _ _ _ (by simp)) (by omega) (by first | (simp; done) | (simp; omega)) ?_; intro A6 c6 w6 hown6 hg6 hat6 hk6; have hO6 := hOB.growI hown6 hg6 hat6; have hb6 := below_app hbB hOB.2.1 hg6 (by first | (simp; done) | (simp; omega)) (Nat.le_refl _); clear hown6 hg6 hat6 hk6))
        rw [← hG'.out, ← hW.out] at hO6
        clear hO2 hB2 hO5 hb5 hOB hbB hG hG' hW hM hWk hL hA
        go_wp2
        go_roundw
        case rel => exact ⟨k + 1, _, _, _, _, by omega, by go_num, by congr 1; omega, rfl, rfl, hO6, hb6⟩
        case measure => simp [intOf]; omega
      | one_ hk0 a0 b0 =>
        dsimp only at hk0 a0 b0
        subst hk0
        subst a0
        subst b0
        have hG' : Hid (mvs (wmap ws next) ds (k + 1) = M ++ [⟨3, 0, 0⟩]) := Lib.hid (by rw [hG.out]; simp [mvG])
        have hB1 := hb.alloc hz (.cells #[.int .i64 3, .int .i64 0, .int .i64 0] 58)
        have hO1 := hO.below ((Below.refl wr.heap.size wr).alloc (Nat.le_refl _) (.cells #[.int .i64 3, .int .i64 0, .int .i64 0] 58)) (.inl (Nat.le_refl _))
        have hB2 := (hb.alloc hz (.cells #[.int .i64 3, .int .i64 0, .int .i64 0] 58)).alloc (by simp; omega) (.cells #[.int .i64 3, .int .i64 0, .int .i64 0] 58)
        have hO2 := (hO.below ((Below.refl wr.heap.size wr).alloc (Nat.le_refl _) (.cells #[.int .i64 3, .int .i64 0, .int .i64 0] 58)) (.inl (Nat.le_refl _))).below ((Below.refl (wr.alloc (.cells #[.int .i64 3, .int .i64 0, .int .i64 0] 58)).heap.size (wr.alloc (.cells #[.int .i64 3, .int .i64 0, .int .i64 0] 58))).alloc (Nat.le_refl _) (.cells #[.int .i64 3, .int .i64 0, .int .i64 0] 58)) (.inl (Nat.le_refl _))
        clear hb hO hB1 hO1 hgat HG HW HL HA
        go_wp2_with (first
          | (at_builtin; refine wpList_appG _ rfl _ _ rfl rfl hO2.1 rfl (RG_one _ _ _ _ _ _ (by simp)) (by omega) (by first | (simp; done) | (simp; omega)) ?_; intro A5 c5 w5 hown5 hg5 hat5 hk5; have hO5 := hO2.growG hown5 hg5 hat5; have hb5 := below_appG hB2 hO2.1 hg5 (by first | (simp; done) | (simp; omega)) (Nat.le_refl _); have hbB := hb5.alloc hb5.size (.cells #[.int .i64 (next + k)] 3); have hOB := hO5.below ((Below.refl w5.heap.size w5).alloc (Nat.le_refl _) (.cells #[.int .i64 (next + k)] 3)) (.inl (Nat.le_refl _)); have hz5 := hb5.size; clear hown5 hg5 hat5 hk5)
          | (at_builtin; refine wpList_appI _ rfl _ _ rfl rfl hOB.2.1 rfl (RI_one _ _ _ _ (by simp)) (by omega) (by first | (simp; done) | (simp; omega)) ?_; intro A6 c6 w6 hown6 hg6 hat6 hk6; have hO6 := hOB.growI hown6 hg6 hat6; have hb6 := below_app hbB hOB.2.1 hg6 (by first | (simp; done) | (simp; omega)) (Nat.le_refl _); clear hown6 hg6 hat6 hk6))
        rw [← hG'.out, ← hW.out] at hO6
        clear hO2 hB2 hO5 hb5 hOB hbB hG hG' hW hM hWk hL hA
        go_wp2
        go_roundw
        case rel => exact ⟨k + 1, _, _, _, _, by omega, by go_num, by congr 1; omega, rfl, rfl, hO6, hb6⟩
        case measure => simp [intOf]; omega
    · obtain rfl : mg = k := Nat.le_antisymm (Nat.le_of_not_lt hlt) hk
      go_wp2
      go_ret2
      exact ⟨_, _, _, _, rfl, hO, hb⟩

end Go.Proofs.Ytgenehiiakdadaa
