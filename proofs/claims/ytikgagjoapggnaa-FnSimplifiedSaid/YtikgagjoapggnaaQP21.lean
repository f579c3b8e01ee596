/- DropDead of the reference. Lengths below 2^21. -/
import Derived.Test.YtikgagjoapggnaaQP19
import Derived.Test.YtikgagjoapggnaaQP20
import Derived.Test.YtikgagjoapggnaaQP07
namespace Go.Proofs.Ytikgagjoapggnaa
open Go.RowKit
set_option linter.unusedVariables false
set_option linter.unusedSimpArgs false
attribute [local go_sem] sepAt sepUpon pureAt pureUpon
def RetDr (w : World) (x y : Int) (hs : List G3) (ps : List Int) (e : Ending) (w' : World) : Prop :=
  ∃ G cG A c, e = .returned (.agg #[.int .i64 x, .int .i64 y, .slice G hs.length cG, .slice A ps.length c]) ∧ OwnC w' w.heap.size w'.heap.size G hs.length cG A ps.length c hs ps ∧ Below w.heap.size w w'
theorem RetDr.mk_ {w w' : World} {x y : Int} {hs : List G3} {ps : List Int} {e : Ending} {n m cG c : Nat} {G A : Option Addr} (hn : hs.length = n) (hm : ps.length = m) (he : e = .returned (.agg #[.int .i64 x, .int .i64 y, .slice G n cG, .slice A m c])) (ho : OwnC w' w.heap.size w'.heap.size G n cG A m c hs ps) (hb : Below w.heap.size w w') : RetDr w x y hs ps e w' := by
  subst hn; subst hm; exact ⟨G, cG, A, c, he, ho, hb⟩
theorem RetDr.open_ {w w' : World} {x y : Int} {hs : List G3} {ps : List Int} {e : Ending} {n m : Nat} (h : RetDr w x y hs ps e w') (hn : hs.length = n) (hm : ps.length = m) : ∃ G cG A c, e = .returned (.agg #[.int .i64 x, .int .i64 y, .slice G n cG, .slice A m c]) ∧ OwnC w' w.heap.size w'.heap.size G n cG A m c hs ps ∧ Below w.heap.size w w' := by
  subst hn; subst hm; exact h
theorem stp_len (X : Nat) (gs : List G3) (k : Nat) (L : List Int) : (stp X gs k L).length ≤ L.length + 2 := by
  unfold stp; split
  · have h1 := puts_le L (prt (gg gs k)); have h2 := prt_le (gg gs k); omega
  · omega
theorem usd_len (X : Nat) (gs : List G3) (k : Nat) (L : List Int) : (usd X gs k L).length ≤ L.length + 2 * k := by
  induction k generalizing L with
  | zero => exact Nat.le_refl _
  | succ k ih =>
    have h1 := ih (stp X gs k L)
    have h2 := stp_len X gs k L
    simp only [usd]; omega
theorem usedL_len (X : Nat) (gs : List G3) (os : List Int) : (usedL X gs os).length ≤ os.length + 2 * gs.length := by
  have h1 := usd_len X gs gs.length (puts [] os)
  have h2 := puts_le [] os
  simp only [List.length_nil] at h2
  unfold usedL; omega
theorem drs_no {X : Nat} {gs : List G3} {U : List Int} {k : Nat} (h : inL U ((X : Int) + k) = false) : (drs X gs U (k + 1)).1 = (drs X gs U k).1 ∧ (drs X gs U (k + 1)).2 = (drs X gs U k).2 ++ [-1] := by
  simp only [drs, h]; exact ⟨rfl, rfl⟩
theorem drs_yes {X : Nat} {gs : List G3} {U : List Int} {k : Nat} (h : inL U ((X : Int) + k) = true) : (drs X gs U (k + 1)).1 = (drs X gs U k).1 ++ [mvG (fun w => gi (drs X gs U k).2 w.toNat) (gg gs k)] ∧ (drs X gs U (k + 1)).2 = (drs X gs U k).2 ++ [(X : Int) + (drs X gs U k).1.length] := by
  simp only [drs, h]; exact ⟨rfl, rfl⟩
theorem MsI.appF {W w6 : World} {lo b : Nat} {x y : Int} {G F' F : Option Addr} {k cG n cF c' : Nat} {gs : List G3} {fs : List Int} {v : Int} (h : MsI W lo b x y G k cG gs F n cF fs) (ho : Own w6 lo w6.heap.size (.slice F' (n + 1) c') (n + 1) (fs ++ [v])) (hg : W.grownBy w6 (Value.slice F n cF).ownBlock)
    (hat : (Value.slice F' (n + 1) c').ownBlock = (Value.slice F n cF).ownBlock ∨ (Value.slice F' (n + 1) c').ownBlock = some W.heap.size) : MsI w6 lo b x y G k cG gs F' (n + 1) c' (fs ++ [v]) := by
  have ka := Alt.of_grown (S := fun i => (Value.slice F n cF).ownBlock = some i) hg (fun _ h => h)
  have hg6 := (h.g.alt ka (fun g hg hc => h.ap g hg hc)).now
  have hz := ka.size
  refine ⟨h.bx.alt ka h.r4, h.f4.alt ka h.lt4 h.r4, hg6, ho, fun g h1 h2 => ?_, h.g4, fun hc => ?_, h.lo4, by have := h.lt4; omega⟩
  · rcases hat with h3 | h3
    · exact h.ap g h1 (h3.symm.trans h2)
    · rw [h3] at h2; injection h2 with h2; have := h.g.lt g h1; omega
  · rcases hat with h3 | h3
    · exact h.r4 (h3.symm.trans hc)
    · rw [h3] at hc; injection hc with hc; have := h.lt4; omega
set_option maxRecDepth 100000 in
set_option maxHeartbeats 3000000 in
theorem siDrop_any (x y : Int) (Ag : Option Addr) (ng cg : Nat) (Ao : Option Addr) (no co : Nat) (gs : List G3) (os : List Int) (X : Nat) (w : World) (hr : RG w Ag ng gs ∧ RI w Ao no os) (hng : ng ≤ 3000) (hno : no ≤ 40) (hx : 0 ≤ x ∧ x ≤ 20) (hy : 0 ≤ y ∧ y ≤ 20) (hXe : Hid (x + y = (X : Int))) (hgt : ∀ k : Nat, k < ng → GateIs (gg gs k) ((X : Int) + k)) (hao : allB 0 (((X + ng : Nat) : Int) - 1) os = true) :
    Calls Try.prog 57 #[.agg #[.int .i64 x, .int .i64 y, .slice Ag ng cg, .slice Ao no co]] w (RetDr w x y (drs X gs (usedL X gs os) ng).1 (pick (drs X gs (usedL X gs os) ng).2 os)) := by
  have hlg := hr.1.len
  have hlo := hr.2.len
  have hB1 : Below w.heap.size w (w.alloc (.cells #[.int .i64 x, .int .i64 y, .slice Ag ng cg, .slice Ao no co] 26)) := (Below.refl _ _).alloc (Nat.le_refl _) _
  have hB : Below w.heap.size w ((w.alloc (.cells #[.int .i64 x, .int .i64 y, .slice Ag ng cg, .slice Ao no co] 26)).alloc (.cells #[.int .i64 0, .int .i64 0, .slice none 0 0, .slice none 0 0] 26)) := hB1.alloc (by simp) _
  have hx0 : BxC ((w.alloc (.cells #[.int .i64 x, .int .i64 y, .slice Ag ng cg, .slice Ao no co] 26)).alloc (.cells #[.int .i64 0, .int .i64 0, .slice none 0 0, .slice none 0 0] 26)) w.heap.size x y Ag ng cg Ao no co := (BxC.new w _).below ((Below.refl _ _).alloc (Nat.le_refl _) _)
  have hr0 : BxC ((w.alloc (.cells #[.int .i64 x, .int .i64 y, .slice Ag ng cg, .slice Ao no co] 26)).alloc (.cells #[.int .i64 0, .int .i64 0, .slice none 0 0, .slice none 0 0] 26)) (w.heap.size + 1) 0 0 none 0 0 none 0 0 := by simpa using BxC.new (x := 0) (y := 0) (Ag := none) (ng := 0) (cg := 0) (Ao := none) (no := 0) (co := 0) (w.alloc (.cells #[.int .i64 x, .int .i64 y, .slice Ag ng cg, .slice Ao no co] 26)) 26
  have f0 : Fz ((w.alloc (.cells #[.int .i64 x, .int .i64 y, .slice Ag ng cg, .slice Ao no co] 26)).alloc (.cells #[.int .i64 0, .int .i64 0, .slice none 0 0, .slice none 0 0] 26)) (w.heap.size + 1) := by simpa using Fz.new (w.alloc (.cells #[.int .i64 x, .int .i64 y, .slice Ag ng cg, .slice Ao no co] 26)) #[.int .i64 0, .int .i64 0, .slice none 0 0, .slice none 0 0] 26
  have hs0 : ((w.alloc (.cells #[.int .i64 x, .int .i64 y, .slice Ag ng cg, .slice Ao no co] 26)).alloc (.cells #[.int .i64 0, .int .i64 0, .slice none 0 0, .slice none 0 0] 26)).heap.size = w.heap.size + 2 := by simp
  have HX0 : (X : Int) ≤ 40 := by have := hXe.out; omega
  have hUl := usedL_len X gs os
  obtain ⟨U, hU⟩ : ∃ U, Hid (usedL X gs os = U) := ⟨_, Lib.hid rfl⟩
  rw [hU.out] at hUl ⊢
  obtain ⟨nU, hnU⟩ : ∃ n, U.length = n := ⟨_, rfl⟩
  rw [hnU, hlo, hlg] at hUl
  have HnU := Lib.hid hnU; clear hnU
  have HPl : Hid ((pick (drs X gs U ng).2 os).length = no) := Lib.hid (by rw [pick_len]; exact hlo)
  go_enter Try.func57, Try.ntmps57
  have hq := hx0; obtain ⟨k0, k1, k2, k3⟩ := hq
  go_wp2_with fail
  refine (ciUsed_any x y Ag ng cg Ao no co gs os X _ ⟨hr.1.below hB (Nat.le_refl _), hr.2.below hB (Nat.le_refl _)⟩ hng hno hx hy hXe hgt).mono ?_
  rintro e v1 hT
  rw [hU.out] at hT
  obtain ⟨AU, cU, rfl, hUo, hb1⟩ := hT.open_ HnU.out
  clear k0 k1 k2 k3
  have hx1 := hx0.below hb1
  have hr1 := hr0.below hb1
  have f1 := f0.below hb1 (by rw [hs0]; omega)
  have hBv := hB.trans (hb1.mono hB.size)
  have hz1 := hb1.size
  rw [hs0] at hz1
  have hUr := hUo.reads
  clear hx0 hr0 f0 hb1 hB hB1 hs0 hUo
  have hq := hx1; obtain ⟨k0, k1, k2, k3⟩ := hq
  have hbA : Below v1.heap.size v1 (v1.alloc (.cells #[.int .i64 x, .int .i64 y, .slice none 0 0, .slice none 0 0] 26)) := (Below.refl _ _).alloc (Nat.le_refl _) _
  have hsA : (v1.alloc (.cells #[.int .i64 x, .int .i64 y, .slice none 0 0, .slice none 0 0] 26)).heap.size = v1.heap.size + 1 := by simp
  have hcA : BxC (v1.alloc (.cells #[.int .i64 x, .int .i64 y, .slice none 0 0, .slice none 0 0] 26)) v1.heap.size x y none 0 0 none 0 0 := BxC.new _ _
  have fA := Fz.new v1 #[.int .i64 x, .int .i64 y, .slice none 0 0, .slice none 0 0] 26
  have hxA := hx1.below hbA
  have hq := hxA; obtain ⟨q0, q1, q2, q3⟩ := hq
  go_wp2_with fail
  refine (ciInputs_any x y Ag ng cg Ao no co _ hx hy).mono ?_
  rintro e v2 ⟨rfl, hb2⟩
  rw [hXe.out]
  go_wp2_with fail
  refine (gdRange_any 0 X _ (by omega) (by omega)).mono ?_
  rintro e v3 hT
  obtain ⟨F0, c0, rfl, hF, hb3⟩ := hT.open_ (spn_len 0 X)
  have hz2 := hb2.size
  rw [hsA] at hz2
  have hz3 := hb3.size
  have hb23 := hb2.trans (hb3.mono (by omega))
  have hI0 : MsI v3 v1.heap.size v1.heap.size x y none 0 0 [] F0 X c0 (spn 0 X) := ⟨hcA.below hb23, fA.below hb23 (by omega), OwnG.none_ _ _ _, hF.lo_ (by omega), Apart.noneG _ _ _, by simp [Value.ownBlock], fun hc => by have := hF.lt _ hc; omega, Nat.le_refl _, by omega⟩
  have hb0 := hbA.trans (hb23.mono (by omega))
  have hxv := hx1.below hb0
  have hq := hxv; obtain ⟨t0, t1, t2, t3⟩ := hq
  clear k0 k1 k2 k3 q0 q1 q2 q3 hcA fA hbA hsA hb2 hb3 hb23 hF hxA
  go_wp2
  clear t0 t1 t2 t3 hxv
  go_loopw [5, 21] (fun f i wr => ∃ (k : Nat) (G : Option Addr) (kg cG : Nat) (F : Option Addr) (cF : Nat), k ≤ ng ∧ i = .int .i64 k ∧ f = .slice F (X + k) cF ∧ MsI wr v1.heap.size v1.heap.size x y G kg cG (drs X gs U k).1 F (X + k) cF (drs X gs U k).2 ∧ Below v1.heap.size v1 wr) (fun _ i _ => ng - (intOf i).toNat)
  case atStart => exact ⟨0, _, _, _, _, _, Nat.zero_le _, rfl, rfl, hI0, hb0⟩
  case round =>
    obtain ⟨k, G, kg, cG, F, cF, hk, rfl, rfl, hI, hb⟩ := hrel
    clear hI0 hb0 hz2 hz3
    obtain ⟨wo, rfl⟩ : ∃ wo : World, wo = wr := ⟨_, rfl⟩
    have hbw : Below w.heap.size w wo := hBv.trans (hb.mono (by omega))
    have hzo := hb.size
    have hdl := drs_len X gs U k
    have hkl := hI.g.len
    by_cases hlt : k < ng
    · obtain ⟨b, o, rfl, hbB, c1, c2, c3⟩ := (hr.1.below hbw (Nat.le_refl _)).at_ hlt
      have hgk := hgt k hlt
      obtain ⟨hs, hhs⟩ : ∃ hs, Hid ((drs X gs U k).1 = hs) := ⟨_, Lib.hid rfl⟩
      obtain ⟨fs, hfs⟩ : ∃ fs, Hid ((drs X gs U k).2 = fs) := ⟨_, Lib.hid rfl⟩
      rw [hhs.out, hfs.out] at hI hdl
      rw [hhs.out] at hkl
      rw [hkl] at hdl
      obtain ⟨hkk, hfl⟩ := hdl
      have hxo := hx1.bel hb (by omega)
      have hbA : Below wo.heap.size wo (wo.alloc (.cells #[.int .i64 (gg gs k).k, .int .i64 (gg gs k).a, .int .i64 (gg gs k).b] 50)) := (Below.refl _ _).alloc (Nat.le_refl _) _
      have hIA := hI.below hbA
      have hxA := hxo.below hbA
      have hgA := BxG.new (k := (gg gs k).k) (a := (gg gs k).a) (c := (gg gs k).b) wo 50
      have fgA := Fz.new wo #[.int .i64 (gg gs k).k, .int .i64 (gg gs k).a, .int .i64 (gg gs k).b] 50
      have hsA : (wo.alloc (.cells #[.int .i64 (gg gs k).k, .int .i64 (gg gs k).a, .int .i64 (gg gs k).b] 50)).heap.size = wo.heap.size + 1 := by simp
      have hwA : IntKind.i64.wrap ((X : Int) + (k : Int)) = (X : Int) + k := IntWalk.i64_in _ (by omega)
      have hq := hxA; obtain ⟨k0, k1, k2, k3⟩ := hq
      have hq := hgA; obtain ⟨q0, q1, q2⟩ := hq
      cases hu : inL U ((X : Int) + k) with
      | false =>
        have HS := Lib.hid (drs_no (gs := gs) hu)
        have HI := Lib.hid hu; clear hu
        go_wp2_with fail
        refine (ciInputs_any x y (some ⟨b, o, none⟩) ng cg Ao no co _ hx hy).mono ?_
        rintro e w4 ⟨rfl, hb4⟩
        rw [hXe.out]
        have hI4 := hIA.below hb4
        have hz4 := hb4.size
        rw [hsA] at hz4
        have hbo4 := hb.trans ((hbA.trans (hb4.mono (by omega))).mono hzo)
        clear hIA hxA hgA fgA hbA hb4 k0 k1 k2 k3 q0 q1 q2 hsA
        go_wp2_with fail
        refine (l1Has_any AU nU cU U ((X : Int) + k) _ (hUr.below hbo4 (Nat.le_refl _)) (by omega)).mono ?_
        rintro e w5 ⟨rfl, rfl⟩
        rw [HI.out]
        have hA := hI4.below ((Below.refl w4.heap.size w4).alloc (Nat.le_refl _) (.cells #[.int .i64 (-1)] 3))
        have hbA := hbo4.alloc (by omega) (.cells #[.int .i64 (-1)] 3)
        go_wp2_with (at_builtin; refine wpList_app _ rfl _ _ rfl rfl hA.f rfl (RI_new1 _ _ _) (by omega) (by first | (simp; done) | (simp; omega)) ?_; intro F' c' w6 hown6 hg6 hat6; have hI6 := MsI.appF hA hown6 hg6 hat6; have hb6 := below_app hbA hA.f hg6 (by first | (simp; done) | (simp; omega)) (Nat.le_refl _); clear hown6 hg6 hat6)
        have hI7 : MsI w6 v1.heap.size v1.heap.size x y G kg cG (drs X gs U (k + 1)).1 F' (X + (k + 1)) c' (drs X gs U (k + 1)).2 := by rw [HS.out.1, HS.out.2, hhs.out, hfs.out]; exact hI6
        clear hI6 hA hbA hI4
        go_roundw
        case rel => exact ⟨k + 1, _, _, _, _, _, by omega, by go_num, rfl, hI7, hb6⟩
        case measure => first | (simp [intOf]; done) | (simp [intOf]; omega)
      | true =>
        have HS := Lib.hid (drs_yes (gs := gs) hu)
        have HI := Lib.hid hu; clear hu
        obtain ⟨M, hM⟩ : ∃ M, Hid (mvG (fun z => gi fs z.toNat) (gg gs k) = M) := ⟨_, Lib.hid rfl⟩
        have HS1 : Hid ((drs X gs U (k + 1)).1 = hs ++ [M]) := Lib.hid (by rw [HS.out.1, hhs.out, hfs.out, hM.out])
        have HS2 : Hid ((drs X gs U (k + 1)).2 = fs ++ [(X : Int) + kg]) := Lib.hid (by rw [HS.out.2, hhs.out, hfs.out, hkl])
        have HN : Hid (x + y + (kg : Int) = (X : Int) + kg) := Lib.hid (by have := hXe.out; omega)
        clear HS
        go_wp2_with fail
        refine (ciInputs_any x y (some ⟨b, o, none⟩) ng cg Ao no co _ hx hy).mono ?_
        rintro e w4 ⟨rfl, hb4⟩
        rw [hXe.out]
        have hI4 := hIA.below hb4
        have hg4 := hgA.below hb4
        have fg4 := fgA.below hb4 (by rw [hsA]; omega)
        have hz4 := hb4.size
        rw [hsA] at hz4
        have hbA4 := hbA.trans (hb4.mono (by omega))
        have hbo4 := hb.trans (hbA4.mono hzo)
        clear hIA hxA hgA fgA hbA hb4 k0 k1 k2 k3 q0 q1 q2 hsA
        have hFw : ∀ g, (Value.slice F (X + k) cF).ownBlock = some g → g < wo.heap.size := fun g hg => (hI.f.lt g hg).2.2
        go_wp2_with fail
        refine (l1Has_any AU nU cU U ((X : Int) + k) _ (hUr.below hbo4 (Nat.le_refl _)) (by omega)).mono ?_
        rintro e w5 ⟨rfl, rfl⟩
        rw [HI.out]
        obtain ⟨g, hg⟩ : ∃ g, g = gg gs k := ⟨_, rfl⟩
        rw [← hg] at hgk hM hg4 c1 c2 c3
        have HG := Lib.hid hg.symm; clear hg
        obtain ⟨gk, ga, gb⟩ := g
        dsimp only at hg4 c1 c2 c3
        have hq := hg4; obtain ⟨q0, q1, q2⟩ := hq
        have e0 := fg4 0; have e1 := fg4 1; have e2 := fg4 2
        cases hgk with
        | one_ hk' a0 b0 =>
          dsimp only at hk' a0 b0
          subst hk'
          subst a0
          subst b0
          have hMe : Hid (M = ⟨3, 0, 0⟩) := Lib.hid (by rw [← hM.out]; simp [mvG])
          have hI2 := hI4
          have hg2 : BxG w4 wo.heap.size M.k M.a M.b := by rw [hMe.out]; exact hg4
          have fg2 := fg4
          have hbo2 := hbo4
          have hq := hI2.bx; obtain ⟨p0, p1, p2, p3⟩ := hq
          go_wp2_with fail
          refine (ciWires_any x y G kg cG none 0 0 _ hx hy (by omega)).mono ?_
          rintro e w7 ⟨rfl, hb7⟩
          rw [HN.out]
          have hI7 := hI2.below hb7
          have hg7 := hg2.below hb7
          have hlt2 : wo.heap.size < (w4).heap.size := by first | (simp; done) | (simp; omega) | omega
          have fg7 := fg2.below hb7 hlt2
          have hz7 := hb7.size
          have hbo7 := hbo2.trans (hb7.mono (by have := hbo2.size; omega))
          have hzv := hbo7.size
          clear hI2 hg2 fg2 hbo2 hb7 p0 p1 p2 p3 q0 q1 q2 e0 e1 e2 hI4 hg4 fg4 hbo4 hbA4
          have hbA7 := (Below.refl w7.heap.size w7).alloc (Nat.le_refl _) (.cells #[.int .i64 ((X : Int) + kg)] 3)
          have hA7 := hI7.below hbA7
          have hgA7 := hg7.below hbA7
          have hbB7 := hbo7.alloc (by omega) (.cells #[.int .i64 ((X : Int) + kg)] 3)
          clear hI7 hg7 hbA7
          go_wp2_with (at_builtin; first | (refine wpList_app _ rfl _ _ rfl rfl hA7.f rfl (RI_new1 _ _ _) (by omega) (by first | (simp; done) | (simp; omega)) ?_; intro F' cF' w8 hown8 hg8 hat8; have hI8 := MsI.appF hA7 hown8 hg8 hat8; have hgb8 := hgA7.alt_ (Alt.of_grown (S := fun i => (Value.slice F (X + k) cF).ownBlock = some i) hg8 (fun _ h => h)) (fun hc => absurd (hFw _ hc) (Nat.lt_irrefl _)); have hb8 := below_app hbB7 hA7.f hg8 (by first | (simp; done) | (simp; omega)) (Nat.le_refl _); have hz8 := hb8.size; have hq := hI8.bx; obtain ⟨p0, p1, p2, p3⟩ := hq; have hq := hgb8; obtain ⟨q0, q1, q2⟩ := hq; have hA8 := hI8.below ((Below.refl w8.heap.size w8).alloc (Nat.le_refl _) (.cells #[.int .i64 M.k, .int .i64 M.a, .int .i64 M.b] 50)); have hbB8 := hb8.alloc (by omega) (.cells #[.int .i64 M.k, .int .i64 M.a, .int .i64 M.b] 50); clear hown8 hg8 hat8 hA7 hgA7 hbB7) | (refine wpList_appG _ rfl _ _ rfl rfl hA8.g rfl (RG_new1 _ _ _ _ _) (by omega) (by first | (simp; done) | (simp; omega)) ?_; intro G' c' w9 hown9 hg9 hat9 hk9; have ha := MsI.app hA8 hown9 hg9 hat9; have hb9 := below_appG hbB8 hA8.g hg9 (by first | (simp; done) | (simp; omega)) (Nat.le_refl _); obtain ⟨hx9, f9, hI9⟩ := ha; obtain ⟨j0, j1, j2, j3⟩ := hx9; have e9 := f9 2; clear hown9 hg9 hat9 hk9))
          have hI10 : MsI (w9.setCell ⟨v1.heap.size, 2, none⟩ (.slice G' (kg + 1) c')) v1.heap.size v1.heap.size x y G' (kg + 1) c' (drs X gs U (k + 1)).1 F' (X + (k + 1)) cF' (drs X gs U (k + 1)).2 := by rw [HS1.out, HS2.out]; exact hI9
          have hb10 := hb9.setCell (p := ⟨v1.heap.size, 2, none⟩) (Nat.le_refl _) (.slice G' (kg + 1) c')
          clear hI9 hb9 hA8 hbB8 hI8 hgb8
          go_roundw
          case rel => exact ⟨k + 1, _, _, _, _, _, by omega, by go_num, rfl, hI10, hb10⟩
          case measure => first | (simp [intOf]; done) | (simp [intOf]; omega)
        | not_ hk' a0 a1 b0 =>
          dsimp only at hk' a0 a1 b0
          subst hk'
          subst b0
          obtain ⟨A, rfl⟩ : ∃ A : Nat, ga = A := ⟨ga.toNat, by omega⟩
          have hAk : A < X + k := by omega
          have hA1 : (A : Int) < (X : Int) + (k : Int) := by omega
          have hA2 : (A : Int) < ((X + k : Nat) : Int) := by omega
          obtain ⟨va, hva⟩ : ∃ va, Hid (gi fs A = va) := ⟨_, Lib.hid rfl⟩
          obtain ⟨fB, rfl, _⟩ := hI4.f.some_ (by omega)
          obtain ⟨ca, _⟩ := hI4.f.cellAt (k := A) (by omega)
          rw [hva.out] at ca
          have hMe : Hid (M = ⟨2, va, 0⟩) := Lib.hid (by rw [← hM.out, ← hva.out]; simp [mvG])
          have hb2e : Below wo.heap.size wo (w4.setCell ⟨wo.heap.size, 1, none⟩ (.int .i64 va)) := hbA4.setCell (p := ⟨wo.heap.size, 1, none⟩) (Nat.le_refl _) (.int .i64 va)
          have hI2 := hI.below hb2e
          have hg2 : BxG (w4.setCell ⟨wo.heap.size, 1, none⟩ (.int .i64 va)) wo.heap.size M.k M.a M.b := by rw [hMe.out]; exact hg4.setA va
          have fg2 := fg4.set ⟨wo.heap.size, 1, none⟩ (.int .i64 va)
          have hbo2 := hb.trans (hb2e.mono hzo)
          have hq := hI2.bx; obtain ⟨p0, p1, p2, p3⟩ := hq
          go_wp2_with fail
          refine (ciWires_any x y G kg cG none 0 0 _ hx hy (by omega)).mono ?_
          rintro e w7 ⟨rfl, hb7⟩
          rw [HN.out]
          have hI7 := hI2.below hb7
          have hg7 := hg2.below hb7
          have hlt2 : wo.heap.size < ((w4.setCell ⟨wo.heap.size, 1, none⟩ (.int .i64 va))).heap.size := by first | (simp; done) | (simp; omega) | omega
          have fg7 := fg2.below hb7 hlt2
          have hz7 := hb7.size
          have hbo7 := hbo2.trans (hb7.mono (by have := hbo2.size; omega))
          have hzv := hbo7.size
          clear hI2 hg2 fg2 hbo2 hb7 p0 p1 p2 p3 q0 q1 q2 e0 e1 e2 hI4 hg4 fg4 hbo4 hbA4
          have hbA7 := (Below.refl w7.heap.size w7).alloc (Nat.le_refl _) (.cells #[.int .i64 ((X : Int) + kg)] 3)
          have hA7 := hI7.below hbA7
          have hgA7 := hg7.below hbA7
          have hbB7 := hbo7.alloc (by omega) (.cells #[.int .i64 ((X : Int) + kg)] 3)
          clear hI7 hg7 hbA7
          go_wp2_with (at_builtin; first | (refine wpList_app _ rfl _ _ rfl rfl hA7.f rfl (RI_new1 _ _ _) (by omega) (by first | (simp; done) | (simp; omega)) ?_; intro F' cF' w8 hown8 hg8 hat8; have hI8 := MsI.appF hA7 hown8 hg8 hat8; have hgb8 := hgA7.alt_ (Alt.of_grown (S := fun i => (Value.slice (some ⟨fB, 0, none⟩) (X + k) cF).ownBlock = some i) hg8 (fun _ h => h)) (fun hc => absurd (hFw _ hc) (Nat.lt_irrefl _)); have hb8 := below_app hbB7 hA7.f hg8 (by first | (simp; done) | (simp; omega)) (Nat.le_refl _); have hz8 := hb8.size; have hq := hI8.bx; obtain ⟨p0, p1, p2, p3⟩ := hq; have hq := hgb8; obtain ⟨q0, q1, q2⟩ := hq; have hA8 := hI8.below ((Below.refl w8.heap.size w8).alloc (Nat.le_refl _) (.cells #[.int .i64 M.k, .int .i64 M.a, .int .i64 M.b] 50)); have hbB8 := hb8.alloc (by omega) (.cells #[.int .i64 M.k, .int .i64 M.a, .int .i64 M.b] 50); clear hown8 hg8 hat8 hA7 hgA7 hbB7) | (refine wpList_appG _ rfl _ _ rfl rfl hA8.g rfl (RG_new1 _ _ _ _ _) (by omega) (by first | (simp; done) | (simp; omega)) ?_; intro G' c' w9 hown9 hg9 hat9 hk9; have ha := MsI.app hA8 hown9 hg9 hat9; have hb9 := below_appG hbB8 hA8.g hg9 (by first | (simp; done) | (simp; omega)) (Nat.le_refl _); obtain ⟨hx9, f9, hI9⟩ := ha; obtain ⟨j0, j1, j2, j3⟩ := hx9; have e9 := f9 2; clear hown9 hg9 hat9 hk9))
          have hI10 : MsI (w9.setCell ⟨v1.heap.size, 2, none⟩ (.slice G' (kg + 1) c')) v1.heap.size v1.heap.size x y G' (kg + 1) c' (drs X gs U (k + 1)).1 F' (X + (k + 1)) cF' (drs X gs U (k + 1)).2 := by rw [HS1.out, HS2.out]; exact hI9
          have hb10 := hb9.setCell (p := ⟨v1.heap.size, 2, none⟩) (Nat.le_refl _) (.slice G' (kg + 1) c')
          clear hI9 hb9 hA8 hbB8 hI8 hgb8
          go_roundw
          case rel => exact ⟨k + 1, _, _, _, _, _, by omega, by go_num, rfl, hI10, hb10⟩
          case measure => first | (simp [intOf]; done) | (simp [intOf]; omega)
        | xor_ hk' a0 a1 b0 b1 =>
          dsimp only at hk' a0 a1 b0 b1
          subst hk'
          obtain ⟨A, rfl⟩ : ∃ A : Nat, ga = A := ⟨ga.toNat, by omega⟩
          obtain ⟨B, rfl⟩ : ∃ B : Nat, gb = B := ⟨gb.toNat, by omega⟩
          have hAk : A < X + k := by omega
          have hBk : B < X + k := by omega
          have hA1 : (A : Int) < (X : Int) + (k : Int) := by omega
          have hA2 : (A : Int) < ((X + k : Nat) : Int) := by omega
          have hB1 : (B : Int) < (X : Int) + (k : Int) := by omega
          have hB2 : (B : Int) < ((X + k : Nat) : Int) := by omega
          obtain ⟨va, hva⟩ : ∃ va, Hid (gi fs A = va) := ⟨_, Lib.hid rfl⟩
          obtain ⟨vb, hvb⟩ : ∃ vb, Hid (gi fs B = vb) := ⟨_, Lib.hid rfl⟩
          obtain ⟨fB, rfl, _⟩ := hI4.f.some_ (by omega)
          obtain ⟨ca, _⟩ := hI4.f.cellAt (k := A) (by omega)
          rw [hva.out] at ca
          have hb1e : Below wo.heap.size wo (w4.setCell ⟨wo.heap.size, 1, none⟩ (.int .i64 va)) := hbA4.setCell (p := ⟨wo.heap.size, 1, none⟩) (Nat.le_refl _) (.int .i64 va)
          have hI1e := hI.below hb1e
          obtain ⟨cb, _⟩ := hI1e.f.cellAt (k := B) (by omega)
          rw [hvb.out] at cb
          have hq := hg4.setA va; obtain ⟨u0, u1, u2⟩ := hq
          have hMe : Hid (M = ⟨0, va, vb⟩) := Lib.hid (by rw [← hM.out, ← hva.out, ← hvb.out]; simp [mvG])
          have hb2e : Below wo.heap.size wo ((w4.setCell ⟨wo.heap.size, 1, none⟩ (.int .i64 va)).setCell ⟨wo.heap.size, 2, none⟩ (.int .i64 vb)) := hb1e.setCell (p := ⟨wo.heap.size, 2, none⟩) (Nat.le_refl _) (.int .i64 vb)
          have hI2 := hI.below hb2e
          have hg2 : BxG ((w4.setCell ⟨wo.heap.size, 1, none⟩ (.int .i64 va)).setCell ⟨wo.heap.size, 2, none⟩ (.int .i64 vb)) wo.heap.size M.k M.a M.b := by rw [hMe.out]; exact (hg4.setA va).setB vb
          have fg2 := (fg4.set ⟨wo.heap.size, 1, none⟩ (.int .i64 va)).set ⟨wo.heap.size, 2, none⟩ (.int .i64 vb)
          have hbo2 := hb.trans (hb2e.mono hzo)
          have hq := hI2.bx; obtain ⟨p0, p1, p2, p3⟩ := hq
          go_wp2_with fail
          refine (ciWires_any x y G kg cG none 0 0 _ hx hy (by omega)).mono ?_
          rintro e w7 ⟨rfl, hb7⟩
          rw [HN.out]
          have hI7 := hI2.below hb7
          have hg7 := hg2.below hb7
          have hlt2 : wo.heap.size < (((w4.setCell ⟨wo.heap.size, 1, none⟩ (.int .i64 va)).setCell ⟨wo.heap.size, 2, none⟩ (.int .i64 vb))).heap.size := by first | (simp; done) | (simp; omega) | omega
          have fg7 := fg2.below hb7 hlt2
          have hz7 := hb7.size
          have hbo7 := hbo2.trans (hb7.mono (by have := hbo2.size; omega))
          have hzv := hbo7.size
          clear hI2 hg2 fg2 hbo2 hb7 p0 p1 p2 p3 q0 q1 q2 e0 e1 e2 hI4 hg4 fg4 hbo4 hbA4
          have hbA7 := (Below.refl w7.heap.size w7).alloc (Nat.le_refl _) (.cells #[.int .i64 ((X : Int) + kg)] 3)
          have hA7 := hI7.below hbA7
          have hgA7 := hg7.below hbA7
          have hbB7 := hbo7.alloc (by omega) (.cells #[.int .i64 ((X : Int) + kg)] 3)
          clear hI7 hg7 hbA7
          go_wp2_with (at_builtin; first | (refine wpList_app _ rfl _ _ rfl rfl hA7.f rfl (RI_new1 _ _ _) (by omega) (by first | (simp; done) | (simp; omega)) ?_; intro F' cF' w8 hown8 hg8 hat8; have hI8 := MsI.appF hA7 hown8 hg8 hat8; have hgb8 := hgA7.alt_ (Alt.of_grown (S := fun i => (Value.slice (some ⟨fB, 0, none⟩) (X + k) cF).ownBlock = some i) hg8 (fun _ h => h)) (fun hc => absurd (hFw _ hc) (Nat.lt_irrefl _)); have hb8 := below_app hbB7 hA7.f hg8 (by first | (simp; done) | (simp; omega)) (Nat.le_refl _); have hz8 := hb8.size; have hq := hI8.bx; obtain ⟨p0, p1, p2, p3⟩ := hq; have hq := hgb8; obtain ⟨q0, q1, q2⟩ := hq; have hA8 := hI8.below ((Below.refl w8.heap.size w8).alloc (Nat.le_refl _) (.cells #[.int .i64 M.k, .int .i64 M.a, .int .i64 M.b] 50)); have hbB8 := hb8.alloc (by omega) (.cells #[.int .i64 M.k, .int .i64 M.a, .int .i64 M.b] 50); clear hown8 hg8 hat8 hA7 hgA7 hbB7) | (refine wpList_appG _ rfl _ _ rfl rfl hA8.g rfl (RG_new1 _ _ _ _ _) (by omega) (by first | (simp; done) | (simp; omega)) ?_; intro G' c' w9 hown9 hg9 hat9 hk9; have ha := MsI.app hA8 hown9 hg9 hat9; have hb9 := below_appG hbB8 hA8.g hg9 (by first | (simp; done) | (simp; omega)) (Nat.le_refl _); obtain ⟨hx9, f9, hI9⟩ := ha; obtain ⟨j0, j1, j2, j3⟩ := hx9; have e9 := f9 2; clear hown9 hg9 hat9 hk9))
          have hI10 : MsI (w9.setCell ⟨v1.heap.size, 2, none⟩ (.slice G' (kg + 1) c')) v1.heap.size v1.heap.size x y G' (kg + 1) c' (drs X gs U (k + 1)).1 F' (X + (k + 1)) cF' (drs X gs U (k + 1)).2 := by rw [HS1.out, HS2.out]; exact hI9
          have hb10 := hb9.setCell (p := ⟨v1.heap.size, 2, none⟩) (Nat.le_refl _) (.slice G' (kg + 1) c')
          clear hI9 hb9 hA8 hbB8 hI8 hgb8
          go_roundw
          case rel => exact ⟨k + 1, _, _, _, _, _, by omega, by go_num, rfl, hI10, hb10⟩
          case measure => first | (simp [intOf]; done) | (simp [intOf]; omega)
        | and_ hk' a0 a1 b0 b1 =>
          dsimp only at hk' a0 a1 b0 b1
          subst hk'
          obtain ⟨A, rfl⟩ : ∃ A : Nat, ga = A := ⟨ga.toNat, by omega⟩
          obtain ⟨B, rfl⟩ : ∃ B : Nat, gb = B := ⟨gb.toNat, by omega⟩
          have hAk : A < X + k := by omega
          have hBk : B < X + k := by omega
          have hA1 : (A : Int) < (X : Int) + (k : Int) := by omega
          have hA2 : (A : Int) < ((X + k : Nat) : Int) := by omega
          have hB1 : (B : Int) < (X : Int) + (k : Int) := by omega
          have hB2 : (B : Int) < ((X + k : Nat) : Int) := by omega
          obtain ⟨va, hva⟩ : ∃ va, Hid (gi fs A = va) := ⟨_, Lib.hid rfl⟩
          obtain ⟨vb, hvb⟩ : ∃ vb, Hid (gi fs B = vb) := ⟨_, Lib.hid rfl⟩
          obtain ⟨fB, rfl, _⟩ := hI4.f.some_ (by omega)
          obtain ⟨ca, _⟩ := hI4.f.cellAt (k := A) (by omega)
          rw [hva.out] at ca
          have hb1e : Below wo.heap.size wo (w4.setCell ⟨wo.heap.size, 1, none⟩ (.int .i64 va)) := hbA4.setCell (p := ⟨wo.heap.size, 1, none⟩) (Nat.le_refl _) (.int .i64 va)
          have hI1e := hI.below hb1e
          obtain ⟨cb, _⟩ := hI1e.f.cellAt (k := B) (by omega)
          rw [hvb.out] at cb
          have hq := hg4.setA va; obtain ⟨u0, u1, u2⟩ := hq
          have hMe : Hid (M = ⟨1, va, vb⟩) := Lib.hid (by rw [← hM.out, ← hva.out, ← hvb.out]; simp [mvG])
          have hb2e : Below wo.heap.size wo ((w4.setCell ⟨wo.heap.size, 1, none⟩ (.int .i64 va)).setCell ⟨wo.heap.size, 2, none⟩ (.int .i64 vb)) := hb1e.setCell (p := ⟨wo.heap.size, 2, none⟩) (Nat.le_refl _) (.int .i64 vb)
          have hI2 := hI.below hb2e
          have hg2 : BxG ((w4.setCell ⟨wo.heap.size, 1, none⟩ (.int .i64 va)).setCell ⟨wo.heap.size, 2, none⟩ (.int .i64 vb)) wo.heap.size M.k M.a M.b := by rw [hMe.out]; exact (hg4.setA va).setB vb
          have fg2 := (fg4.set ⟨wo.heap.size, 1, none⟩ (.int .i64 va)).set ⟨wo.heap.size, 2, none⟩ (.int .i64 vb)
          have hbo2 := hb.trans (hb2e.mono hzo)
          have hq := hI2.bx; obtain ⟨p0, p1, p2, p3⟩ := hq
          go_wp2_with fail
          refine (ciWires_any x y G kg cG none 0 0 _ hx hy (by omega)).mono ?_
          rintro e w7 ⟨rfl, hb7⟩
          rw [HN.out]
          have hI7 := hI2.below hb7
          have hg7 := hg2.below hb7
          have hlt2 : wo.heap.size < (((w4.setCell ⟨wo.heap.size, 1, none⟩ (.int .i64 va)).setCell ⟨wo.heap.size, 2, none⟩ (.int .i64 vb))).heap.size := by first | (simp; done) | (simp; omega) | omega
          have fg7 := fg2.below hb7 hlt2
          have hz7 := hb7.size
          have hbo7 := hbo2.trans (hb7.mono (by have := hbo2.size; omega))
          have hzv := hbo7.size
          clear hI2 hg2 fg2 hbo2 hb7 p0 p1 p2 p3 q0 q1 q2 e0 e1 e2 hI4 hg4 fg4 hbo4 hbA4
          have hbA7 := (Below.refl w7.heap.size w7).alloc (Nat.le_refl _) (.cells #[.int .i64 ((X : Int) + kg)] 3)
          have hA7 := hI7.below hbA7
          have hgA7 := hg7.below hbA7
          have hbB7 := hbo7.alloc (by omega) (.cells #[.int .i64 ((X : Int) + kg)] 3)
          clear hI7 hg7 hbA7
          go_wp2_with (at_builtin; first | (refine wpList_app _ rfl _ _ rfl rfl hA7.f rfl (RI_new1 _ _ _) (by omega) (by first | (simp; done) | (simp; omega)) ?_; intro F' cF' w8 hown8 hg8 hat8; have hI8 := MsI.appF hA7 hown8 hg8 hat8; have hgb8 := hgA7.alt_ (Alt.of_grown (S := fun i => (Value.slice (some ⟨fB, 0, none⟩) (X + k) cF).ownBlock = some i) hg8 (fun _ h => h)) (fun hc => absurd (hFw _ hc) (Nat.lt_irrefl _)); have hb8 := below_app hbB7 hA7.f hg8 (by first | (simp; done) | (simp; omega)) (Nat.le_refl _); have hz8 := hb8.size; have hq := hI8.bx; obtain ⟨p0, p1, p2, p3⟩ := hq; have hq := hgb8; obtain ⟨q0, q1, q2⟩ := hq; have hA8 := hI8.below ((Below.refl w8.heap.size w8).alloc (Nat.le_refl _) (.cells #[.int .i64 M.k, .int .i64 M.a, .int .i64 M.b] 50)); have hbB8 := hb8.alloc (by omega) (.cells #[.int .i64 M.k, .int .i64 M.a, .int .i64 M.b] 50); clear hown8 hg8 hat8 hA7 hgA7 hbB7) | (refine wpList_appG _ rfl _ _ rfl rfl hA8.g rfl (RG_new1 _ _ _ _ _) (by omega) (by first | (simp; done) | (simp; omega)) ?_; intro G' c' w9 hown9 hg9 hat9 hk9; have ha := MsI.app hA8 hown9 hg9 hat9; have hb9 := below_appG hbB8 hA8.g hg9 (by first | (simp; done) | (simp; omega)) (Nat.le_refl _); obtain ⟨hx9, f9, hI9⟩ := ha; obtain ⟨j0, j1, j2, j3⟩ := hx9; have e9 := f9 2; clear hown9 hg9 hat9 hk9))
          have hI10 : MsI (w9.setCell ⟨v1.heap.size, 2, none⟩ (.slice G' (kg + 1) c')) v1.heap.size v1.heap.size x y G' (kg + 1) c' (drs X gs U (k + 1)).1 F' (X + (k + 1)) cF' (drs X gs U (k + 1)).2 := by rw [HS1.out, HS2.out]; exact hI9
          have hb10 := hb9.setCell (p := ⟨v1.heap.size, 2, none⟩) (Nat.le_refl _) (.slice G' (kg + 1) c')
          clear hI9 hb9 hA8 hbB8 hI8 hgb8
          go_roundw
          case rel => exact ⟨k + 1, _, _, _, _, _, by omega, by go_num, rfl, hI10, hb10⟩
          case measure => first | (simp [intOf]; done) | (simp [intOf]; omega)
    · obtain rfl : ng = k := Nat.le_antisymm (Nat.le_of_not_lt hlt) hk
      have hq := hI.bx; obtain ⟨p0, p1, p2, p3⟩ := hq
      have hxr := hx1.bel hb (by omega)
      have hq := hxr; obtain ⟨k0, k1, k2, k3⟩ := hq
      go_wp2_with fail
      refine (ciPick_any F Ao (X + ng) cF no co (drs X gs U ng).2 os _ hI.f.reads (hr.2.below hbw (Nat.le_refl _)) (by omega) (by omega) hao).mono ?_
      rintro e w5 hT
      obtain ⟨A5, c5, rfl, ho5, hb5⟩ := hT.open_ HPl.out
      have hI5 := hI.below hb5
      have hz5 := hb5.size
      have hbl5 := hb.trans (hb5.mono (by omega))
      have hB5 := hbw.trans (hb5.mono (by have := hbw.size; omega))
      have hr5 := hr1.bel hbl5 (by omega)
      have f5 := f1.below hbl5 (by omega)
      clear p0 p1 p2 p3 k0 k1 k2 k3 hxr
      have hq := hI5.bx; obtain ⟨p0, p1, p2, p3⟩ := hq
      have e3 := hI5.f4 3
      have hO7 := hI5.bx.setO A5 no c5
      have ka : Alt (fun i => i = v1.heap.size) w5 (w5.setCell ⟨v1.heap.size, 3, none⟩ (.slice A5 no c5)) := (Alt.refl_ _ w5).set_ _ _ (fun _ => rfl)
      have hB7 := hB5.setCell (p := ⟨v1.heap.size, 3, none⟩) (by show w.heap.size ≤ v1.heap.size; omega) (.slice A5 no c5)
      have hr7 := hr5.alt ka (by omega)
      have f7 := f5.alt ka hr5.lt (by omega)
      have hG7 := hI5.g.alt ka (fun g hg hc => hI5.g4 (hc ▸ hg))
      have hO57 := ho5.alt ka (fun g hg hc => by have := ho5.lt g hg; have := hI.lt4; omega)
      have hap7 : Apart (.slice G kg cG) (.slice A5 no c5) := fun g h1 h2 => by
        have h3 := hI.g.lt g h1
        have h4 := ho5.lt g h2
        omega
      have hC7 : OwnC (w5.setCell ⟨v1.heap.size, 3, none⟩ (.slice A5 no c5)) v1.heap.size w5.heap.size G kg cG A5 no c5 (drs X gs U ng).1 (pick (drs X gs U ng).2 os) := ⟨hG7, hO57.lo_ (by have := hI.lt4; omega), hap7⟩
      obtain ⟨n0, n1, n2, n3⟩ := hO7
      have hq := hr7; obtain ⟨r0, r1, r2, r3⟩ := hq
      have g0 := f7 0; have g1 := f7 1; have g2 := f7 2; have g3 := f7 3
      clear hI hI5 hG7 hO57 ka
      go_wp2
      have hq9 := BxC.set4 (hr7) x y G kg cG A5 no c5
      obtain ⟨q0, q1, q2, q3⟩ := hq9
      refine bodyPost_ret (v := .agg #[.int .i64 x, .int .i64 y, .slice G kg cG, .slice A5 no c5]) (by simp [results, Try.results57, go_sem, q0, q1, q2, q3]) rfl ?_
      exact RetDr.mk_ hkl HPl.out rfl (by rw [set4_size]; exact ((hC7.set4 (.inl (by omega)) _ _ _ _ _ _ _ _).lo_ (by omega)) |> fun h => h.hi_ (by simp)) (below_set4 hB7 (by omega) _ _ _ _ _ _ _ _)
end Go.Proofs.Ytikgagjoapggnaa
