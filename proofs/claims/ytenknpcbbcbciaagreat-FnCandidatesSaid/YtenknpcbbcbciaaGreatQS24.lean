/- The widths of the lines that a test takes. Thirty lines at most, texts below 2^21 bytes. -/
import Derived.Test.YtenknpcbbcbciaaGreatQS23
namespace Go.Proofs.YtenknpcbbcbciaaGreat
open Go.RowKit
set_option linter.unusedVariables false
set_option linter.unusedSimpArgs false
attribute [local go_sem] sepAt sepUpon pureAt pureUpon
structure Two (w : World) (b : Nat) (x y : Int) : Prop where
 c0 : w.cell? ⟨b, 0, none⟩ = some (.int .i64 x)
 c1 : w.cell? ⟨b, 1, none⟩ = some (.int .i64 y)
 fz : Fz w b
 lt : b < w.heap.size
theorem Two.below {w w' : World} {b B : Nat} {x y : Int} (h : Two w b x y) (k : Below B w w') (hB : w.heap.size ≤ B) : Two w' b x y :=
 ⟨(k.cell (p := ⟨b, 0, none⟩) (by have := h.lt; show b < B; omega)).trans h.c0, (k.cell (p := ⟨b, 1, none⟩) (by have := h.lt; show b < B; omega)).trans h.c1, h.fz.below k (by have := h.lt; omega), Nat.lt_of_lt_of_le h.lt k.size⟩
theorem Two.alt {S : Nat → Prop} {w w' : World} {b : Nat} {x y : Int} (h : Two w b x y) (k : Alt S w w') (hb : ¬ S b) : Two w' b x y :=
 ⟨k.cell_ h.c0 hb, k.cell_ h.c1 hb, h.fz.alt k h.lt hb, Nat.lt_of_lt_of_le h.lt k.size⟩
def RetWid (w : World) (l : List Ln) (e : Ending) (w' : World) : Prop :=
 ∃ A n c, e = .returned (.tuple #[.slice A n c, .bool (decide (goodP l))]) ∧ (goodP l → n = l.length ∧ Own w' w.heap.size w'.heap.size (.slice A n c) n (wids sW l)) ∧ Below w.heap.size w w'
theorem RetWid.bad {w w' : World} {l : List Ln} {e : Ending} (hb : Below w.heap.size w w') (hg : ¬ goodP l) (he : e = .returned (.tuple #[.slice none 0 0, .bool false])) : RetWid w l e w' :=
 ⟨none, 0, 0, by rw [he, decide_eq_false hg], fun h => absurd h hg, hb⟩
theorem not_good {l : List Ln} {k : Nat} (hk : k < l.length) (h : sW (l.take k) (wids sW (l.take k)) (lx l k) = 0) : ¬ goodP l := fun hg => by
 have h1 := allW_take (k := k + 1) (by omega) hg.2.1
 rw [Zdg hk] at h1
 exact (allW_snoc.1 h1).2 h
set_option maxRecDepth 100000 in
set_option maxHeartbeats 3000000 in
theorem widths_any (A : Option Addr) (n c : Nat) (l : List Ln) (w : World) (ha : RLn w A n l) (hn : n ≤ 2097152) (hcap : n ≤ c) (hsh : ∀ x ∈ l, shortL x) :
 Calls Tryz.prog 92 #[.slice A n c] w (RetWid w l) := by
 have hl := ha.len
 by_cases h30 : 30 < n
 ·have h30' : (30 : Int) < n := by omega
  have hg : ¬ goodP l := fun h => by have := h.1; omega
  go_enter Tryz.func92, Tryz.ntmps92
  go_wp2
  go_ret2
  exact RetWid.bad (Below.refl _ _) hg rfl
 have h30' : ¬ (30 : Int) < n := by omega
 have hB0 : Below w.heap.size w (w.alloc (.cells #[] 3)) := bA
 have hown0 := (Zcc w w.heap.size lR).now
 have hB1 := hB0.alloc (by simp) (.cells #[.int .i64 0, .int .i64 0] 121)
 have htw : Two ((w.alloc (.cells #[] 3)).alloc (.cells #[.int .i64 0, .int .i64 0] 121)) (w.heap.size + 1) 0 0 := by
  have hs : (w.alloc (.cells #[] 3)).heap.size = w.heap.size + 1 := by simp
  rw [← hs]
  exact ⟨Zaf _ _ 0 _ rfl, Zaf _ _ 1 _ rfl, Fz.new _ _ _, by simp⟩
 have hown1 := (hown0.alloc (.cells #[.int .i64 0, .int .i64 0] 121)).now
 clear hown0 hB0
 go_enter Tryz.func92, Tryz.ntmps92
 go_wp2
 go_loopw [4, 6, 21] (fun o z i wr => ∃ (k : Nat) (O : Option Addr) (oc q : Nat), k ≤ n ∧ i = .int .i64 k ∧ o = .slice O k oc ∧ z = .int .i64 q ∧ Hid (q = outsC (l.take k)) ∧ q ≤ k ∧ Hid (allW (l.take k)) ∧ Own wr w.heap.size wr.heap.size (.slice O k oc) k (wids sW (l.take k)) ∧ (Value.slice O k oc).ownBlock ≠ some (w.heap.size + 1) ∧ (∃ x y, Hid (x = sumI (insL (l.take k) 0)) ∧ Hid (y = sumI (insL (l.take k) 1)) ∧ (0 ≤ x ∧ x ≤ 10 * k) ∧ (0 ≤ y ∧ y ≤ 10 * k) ∧ Two wr (w.heap.size + 1) x y) ∧ Below w.heap.size w wr) (fun _ _ i _ => n - (intOf i).toNat)
 case atStart => exact ⟨0, _, _, 0, Nat.zero_le _, rfl, rfl, rfl, zH rfl, Nat.le_refl _, zH (by simp [allW, wids, widsFrom]), hown1, by simp [Value.ownBlock], ⟨0, 0, zH rfl, zH rfl, by omega, by omega, htw⟩, hB1⟩
 case round =>
  obtain ⟨k, O, oc, q, hk, rfl, rfl, rfl, hq, hqk, hW, hown, hOb, ⟨x, y, hx, hy, hxb, hyb, htw⟩, hb⟩ := hrel
  clear hown1 hB1
  by_cases hlt : k < n
  ·obtain ⟨b, o, P, pq, rfl, hbB, hat, hxr⟩ := (ha.below hb lR).at_ hlt
   have hrl : RLn wr (some ⟨b, o, none⟩) k (l.take k) := (ha.below hb lR).take hk
   have hshx := hsh (lx l k) (by rw [lx_lt (by omega)]; exact List.getElem_mem _)
   have hIW : Hid (iW (l.take k) (wids sW (l.take k)) (lx l k) = sW (l.take k) (wids sW (l.take k)) (lx l k)) := zH (step_same hW.out _)
   have hbad : Hid (sW (l.take k) (wids sW (l.take k)) (lx l k) = 0 → ¬ goodP l) := zH (not_good (by omega))
   have hwb := wids_bd (l.take k)
   have hwl : (wids sW (l.take k)).length = k := hown.len
   have hT1 : Hid (l.take (k + 1) = l.take k ++ [lx l k]) := zH (Zdg (by omega))
   obtain ⟨W, hWd⟩ := lT (wids sW (l.take k))
   rw [hWd.out] at hown hIW hbad hwb hwl
   obtain ⟨X, hX⟩ := lT (lx l k)
   rw [hX.out] at hat hxr hshx hIW hbad hT1
   obtain ⟨L, hL⟩ := lT (l.take k)
   rw [hL.out] at hrl hIW hbad hT1 hq hW hx hy
   have hk30 : k < 30 := by omega
   obtain ⟨hs1, hs2, hs3, hs4⟩ := hshx
   have hs1' : X.name.length ≤ 2097152 := hs1
   have al : Below wr.heap.size wr (wr.alloc (.cells #[.int .i64 X.kind, .string (bs X.name), .string (bs X.op), .slice P X.parts.length pq, .int .i64 X.party, .int .i64 X.width, .int .i64 X.value] 89)) := bA
   have hone := LnAt.new wr X P pq 89
   have hsz : (wr.alloc (.cells #[.int .i64 X.kind, .string (bs X.name), .string (bs X.op), .slice P X.parts.length pq, .int .i64 X.party, .int .i64 X.width, .int .i64 X.value] 89)).heap.size = wr.heap.size + 1 := by simp
   have hfo : ∀ q, (wr.alloc (.cells #[.int .i64 X.kind, .string (bs X.name), .string (bs X.op), .slice P X.parts.length pq, .int .i64 X.party, .int .i64 X.width, .int .i64 X.value] 89)).frozen? ⟨wr.heap.size, q, none⟩ = false := Fz.new wr _ _
   obtain ⟨c0, c1, c2, c3, c4, c5, c6⟩ := hat
   have hs5 := htw.lt
   have hza := hb.size
   clear ha
   go_wp2_with fail
   generalize hwa : wr.alloc (.cells #[.int .i64 X.kind, .string (bs X.name), .string (bs X.op), .slice P X.parts.length pq, .int .i64 X.party, .int .i64 X.width, .int .i64 X.value] 89) = wa at *
   clear hwa
   have hrl' := hrl.below al lR
   have hown' := hown.below al (.inl lR)
   have htw' := htw.below al lR
   have hb' := hb.trans (al.mono hza)
   have hxr' := hxr.below al lR
   have hzw : wa.heap.size = wr.heap.size + 1 := hsz
   have hnew := (Zcc wa (wr.heap.size + 1) (by omega)).now
   rw [hzw] at hnew
   have hbn : Below (wr.heap.size + 1) wa (wa.alloc (.cells #[] 3)) := (Below.refl _ _).alloc (by omega) _
   clear c0 c1 c2 c3 c4 c5 c6 hrl hown htw hb hxr al hzw
   generalize wr.heap.size = S0 at *
   go_loopw [9, 30] (fun r i w3 => ∃ (j : Nat) (R : Option Addr) (rc : Nat) (v : List Int), j ≤ X.parts.length ∧ i = .int .i64 j ∧ r = .slice R j rc ∧ Hid (pw (iFind L) W (X.parts.take j) = some v) ∧ Own w3 (S0 + 1) w3.heap.size (.slice R j rc) j v ∧ Below (S0 + 1) wa w3) (fun _ i _ => X.parts.length - (intOf i).toNat)
   case atStart => exact ⟨0, _, _, [], Nat.zero_le _, rfl, rfl, zH rfl, hnew, hbn⟩
   case round =>
    obtain ⟨j, R, rc, v, hj, rfl, rfl, hpw, hown2, hb2⟩ := hrel
    clear hnew hbn
    have hz2 := hb2.size
    have hlift := hb2.mono (B' := wa.heap.size) (by omega)
    by_cases hjl : j < X.parts.length
    ·obtain ⟨pb, po, hP, hpb, hpc⟩ := (hxr'.below hb2 (by omega)).at_ hjl
     subst hP
     have hl3 := hrl'.below hb2 (by omega)
     have hLl := hl3.len
     have hfb := iFind_bd L (sx X.parts j)
     have hkc : k ≤ c := by omega
     have hnone : Hid (iFind L (sx X.parts j) < 0 → pw (iFind L) W X.parts = none) := zH (fun h => pw_none hjl (by rw [show X.parts[j] = sx X.parts j by simp [sx, hjl]]; exact h))
     have hsnoc : Hid (X.parts.take (j + 1) = X.parts.take j ++ [sx X.parts j]) := zH (by rw [List.take_succ_eq_append_getElem hjl]; simp [sx, hjl])
     obtain ⟨s, hs⟩ := lT (sx X.parts j)
     rw [hs.out] at hpc hfb hnone hsnoc
     go_wp2_with fail
     refine (lineOf_any (some ⟨b, o, none⟩) k c L s _ hl3 (by omega)).mono ?_
     rintro e w4 ⟨rfl, hb4⟩
     have hb24 := hb2.trans (hb4.mono (by omega))
     have hz4 := hb4.size
     by_cases hneg : iFind L s < 0
     ·have HG : Hid (¬ goodP l) := zH (hbad.out (by rw [← hIW.out]; simp only [iW, hnone.out hneg]))
      go_wp2
      go_ret2
      exact RetWid.bad (hb'.trans (hb24.mono (by omega))) HG.out rfl
     ·obtain ⟨F, hF⟩ := Int.eq_ofNat_of_zero_le (show 0 ≤ iFind L s by omega)
      have hFk : F < k := by omega
      have HP : Hid (pw (iFind L) W (X.parts.take (j + 1)) = some (v ++ [gi W F])) := zH (by
       rw [hsnoc.out, pw_snoc, hpw.out]; simp [hF])
      have hown4 := hown'.below hb24 (.inl (by omega))
      obtain ⟨g, hO, hg1, hg2, hg3⟩ := hown4.some_ (show 0 < k by omega)
      subst hO
      have cF := hown4.cellAt hFk
      have hown24 := hown2.below hb4 (.inl lR)
      have hnF : ¬ (F : Int) < 0 := by omega
      rw [hF]
      obtain ⟨u, hu⟩ := lT (gi W F)
      rw [hu.out] at cF HP
      have hA := hown24.alloc (.cells #[.int .i64 u] 3)
      clear hF hneg hfb hpc hnone hown4
      go_wp2_with (at_builtin; refine Zae _ rfl _ _ rfl rfl hA rfl (RI_new1 _ _ _) (by omega) oM ?_; intro A5 c5 w5 hown5 hg5 hat5 hk5)
      have hb5 := Zah (hb24.alloc (by omega) (.cells #[.int .i64 u] 3)) hA hg5 (by simp; omega) lR
      go_wp2
      go_roundw
      case rel => exact ⟨j + 1, A5, c5, v ++ [u], by omega, by go_num, rfl, HP, hown5, hb5⟩
      case measure => simp [intOf]; omega
    ·obtain rfl : j = X.parts.length := by omega
     have hpwA : Hid (pw (iFind L) W X.parts = some v) := zH (by have := hpw.out; rwa [List.take_of_length_le lR] at this)
     have hvb := pw_bd hwb (by omega) _ _ hpwA.out
     have hone2 := hone.below hb2 (by omega)
     have hl2 := hrl'.below hb2 (by omega)
     have hown9 := hown'.below hb2 (.inl (by omega))
     have htw9 := htw'.below hb2 (by omega)
     have hB9 := hb'.trans (hb2.mono (by omega))
     obtain ⟨c0, c1, c2, c3, c4, c5, c6⟩ := hone2
     simp only [Nat.zero_add] at c1 c2 c3 c4 c5 c6
     go_wp2_with fail
     refine (lineWidth_any X P pq R X.parts.length rc v wr hown2.reads hvb hs1 hs2 hs3).mono ?_
     rintro e w5 ⟨rfl, hb5⟩
     obtain ⟨u, hu⟩ := lT (lineW X v)
     rw [hu.out]
     have hval : Hid (sW L W X = if u = 0 ∨ (¬ X.name = [] ∧ ¬ iFind L X.name < 0) then 0 else u) := zH (by rw [← hIW.out, iW_line, hpwA.out, ← hu.out])
     have hone5 := hone.below (hb2.trans (hb5.mono (by omega))) (by omega)
     have hl5 := hl2.below hb5 lR
     have hown5 := hown9.below hb5 (.inl lR)
     have htw5 := htw9.below hb5 lR
     have hB5 := hB9.trans (hb5.mono hB9.size)
     have hz5 := hb5.size
     clear c0 c1 c2 c3 c4 c5 c6 hl2 hown9 htw9 hone hrl' hown' htw' hxr' hown2 hb5 hB9 hvb
     obtain ⟨c0, c1, c2, c3, c4, c5, c6⟩ := hone5
     simp only [Nat.zero_add] at c1 c2 c3 c4 c5 c6
     by_cases hu0 : u = 0
     ·subst hu0
      have HG : Hid (¬ goodP l) := zH (hbad.out (by rw [hval.out]; simp))
      go_wp2_with fail
      go_quiet (fail)
      go_wp2
      go_ret2
      exact RetWid.bad (Zaa hB5 _) HG.out rfl
     ·have hu1 : (u == 0) = false := by simp [hu0]
      by_cases hn0 : X.name = []
      ·have HN := zH hn0
       have tn := bs_is hn0
       have tn2 := Zdl hn0
       clear hn0
       go_wp2_with fail
       have HS : Hid (sW L W X = u) := zH (by rw [hval.out, if_neg]; rintro (h | h); exact hu0 h; exact h.1 HN.out)
       go_quiet (fail)
       have hb7 : Below w5.heap.size w5 (w5.drewN nq) := Zai nq
       have hWL : Hid (wids sW L = W) := zH (by rw [← hL.out]; exact hWd.out)
       have hub : 0 ≤ u ∧ u ≤ 10 := by rw [← HS.out]; exact sW_bd hwb
       have HA : Hid (allW (l.take (k + 1))) := zH (by rw [hT1.out]; exact allW_snoc.2 ⟨hW.out, by rw [hWL.out, HS.out]; exact hu0⟩)
       have HWn : Hid (wids sW (l.take (k + 1)) = W ++ [u]) := zH (by rw [hT1.out, Zdz, hWL.out, HS.out])
       have c0 := Zab c0 hb7
       have c4 := Zab c4 hb7
       by_cases hk1 : X.kind = 1
       ·have hin := lineW_in (x := X) (w := v) (by rw [hu.out]; exact hu0) hk1
        rw [hu.out] at hin
        have hxw : IntKind.i64.wrap (x + u) = x + u := by rw [IntKind.wrap_i64] <;> omega
        have hyw : IntKind.i64.wrap (y + u) = y + u := by rw [IntKind.wrap_i64] <;> omega
        have HQ : Hid (q = outsC (l.take (k + 1))) := zH (by rw [hT1.out, Zcz, if_neg (by omega), hq.out])
        rcases hin with ⟨hp | hp, huw, _⟩
        ·have HX : Hid (x + u = sumI (insL (l.take (k + 1)) 0)) := zH (by rw [hT1.out, Zbi, if_pos ⟨hk1, hp⟩, Zea, ← hx.out, huw])
         have HY : Hid (y = sumI (insL (l.take (k + 1)) 1)) := zH (by rw [hT1.out, Zbi, if_neg (by omega), hy.out])
         rw [hk1] at c0
         rw [hp] at c4
         clear hk1 hp huw
         have hown7 := hown5.below hb7 (.inl lR)
         have htw7 := htw5.below hb7 lR
         have hB7 := hB5.trans (hb7.mono hB5.size)
         have hz7 := hb7.size
         have hN0 : (w.heap.size + 1) < (w5.drewN nq).heap.size := by omega
         have hfz7 := htw7.fz 0
         have hcx : (w5.drewN nq).cell? ⟨w.heap.size + 1, 0, none⟩ = some (.int .i64 x) := htw7.c0
         have ka : Alt (fun i => i = w.heap.size + 1) (w5.drewN nq) ((w5.drewN nq).setCell ⟨w.heap.size + 1, 0, none⟩ (.int .i64 (x + u))) := (Alt.refl_ (fun i => i = w.heap.size + 1) (w5.drewN nq)).set_ ⟨w.heap.size + 1, 0, none⟩ _ (fun _ => rfl)
         have hown8 := hown7.alt ka (fun g hg e => hOb (e ▸ hg))
         have htw8 : Two ((w5.drewN nq).setCell ⟨w.heap.size + 1, 0, none⟩ (.int .i64 (x + u))) (w.heap.size + 1) (x + u) y := ⟨World.cell?_setCell_same _ _ _ htw7.c0, (World.cell?_setCell_other _ _ _ _ (by simp)).trans htw7.c1, htw7.fz.set _ _, by simpa using htw7.lt⟩
         have hB8 := hB7.setCell (p := ⟨w.heap.size + 1, 0, none⟩) (by show w.heap.size ≤ w.heap.size + 1; omega) (.int .i64 (x + u))
         have hz8 : ((w5.drewN nq).setCell ⟨w.heap.size + 1, 0, none⟩ (.int .i64 (x + u))).heap.size = (w5.drewN nq).heap.size := by simp
         have hA8 := hown8.alloc (.cells #[.int .i64 u] 3)
         have htA := htw8.below ((Below.refl _ _).alloc lR (.cells #[.int .i64 u] 3)) lR
         go_wp2_with (at_builtin; refine Zae _ rfl _ _ rfl rfl hA8 rfl (Zaj _ _ _ _ (by simp)) (by omega) oM ?_; intro A6 c6 w6 hown6 hg6 hat6 hk6)
         have hB9 := Zah (hB8.alloc oN (.cells #[.int .i64 u] 3)) hA8 hg6 oN lR
         have htw9 := htA.alt (Alt.of_grown (S := fun i => (Value.slice O k oc).ownBlock = some i) hg6 (fun i hi => hi)) hOb
         have hOb9 : (Value.slice A6 (k + 1) c6).ownBlock ≠ some (w.heap.size + 1) := fun hc => by
          rcases hat6 with h | h
          ·exact hOb (h ▸ hc)
          ·rw [h] at hc; injection hc with hc; simp at hc; omega
         go_wp2
         go_roundw
         case rel => exact ⟨k + 1, A6, c6, q, by omega, by go_num, rfl, by go_num, HQ, by omega, HA, (by rw [HWn.out]; exact hown6), hOb9, ⟨x + u, y, HX, HY, by omega, by omega, htw9⟩, hB9⟩
         case measure => simp [intOf]; omega
        ·have HX : Hid (x = sumI (insL (l.take (k + 1)) 0)) := zH (by rw [hT1.out, Zbi, if_neg (by omega), hx.out])
         have HY : Hid (y + u = sumI (insL (l.take (k + 1)) 1)) := zH (by rw [hT1.out, Zbi, if_pos ⟨hk1, hp⟩, Zea, ← hy.out, huw])
         rw [hk1] at c0
         rw [hp] at c4
         clear hk1 hp huw
         have hown7 := hown5.below hb7 (.inl lR)
         have htw7 := htw5.below hb7 lR
         have hB7 := hB5.trans (hb7.mono hB5.size)
         have hz7 := hb7.size
         have hN0 : (w.heap.size + 1) < (w5.drewN nq).heap.size := by omega
         have hfz7 := htw7.fz 1
         have hcx : (w5.drewN nq).cell? ⟨w.heap.size + 1, 1, none⟩ = some (.int .i64 y) := htw7.c1
         have ka : Alt (fun i => i = w.heap.size + 1) (w5.drewN nq) ((w5.drewN nq).setCell ⟨w.heap.size + 1, 1, none⟩ (.int .i64 (y + u))) := (Alt.refl_ (fun i => i = w.heap.size + 1) (w5.drewN nq)).set_ ⟨w.heap.size + 1, 1, none⟩ _ (fun _ => rfl)
         have hown8 := hown7.alt ka (fun g hg e => hOb (e ▸ hg))
         have htw8 : Two ((w5.drewN nq).setCell ⟨w.heap.size + 1, 1, none⟩ (.int .i64 (y + u))) (w.heap.size + 1) x (y + u) := ⟨(World.cell?_setCell_other _ _ _ _ (by simp)).trans htw7.c0, World.cell?_setCell_same _ _ _ htw7.c1, htw7.fz.set _ _, by simpa using htw7.lt⟩
         have hB8 := hB7.setCell (p := ⟨w.heap.size + 1, 1, none⟩) (by show w.heap.size ≤ w.heap.size + 1; omega) (.int .i64 (y + u))
         have hz8 : ((w5.drewN nq).setCell ⟨w.heap.size + 1, 1, none⟩ (.int .i64 (y + u))).heap.size = (w5.drewN nq).heap.size := by simp
         have hA8 := hown8.alloc (.cells #[.int .i64 u] 3)
         have htA := htw8.below ((Below.refl _ _).alloc lR (.cells #[.int .i64 u] 3)) lR
         go_wp2_with (at_builtin; refine Zae _ rfl _ _ rfl rfl hA8 rfl (Zaj _ _ _ _ (by simp)) (by omega) oM ?_; intro A6 c6 w6 hown6 hg6 hat6 hk6)
         have hB9 := Zah (hB8.alloc oN (.cells #[.int .i64 u] 3)) hA8 hg6 oN lR
         have htw9 := htA.alt (Alt.of_grown (S := fun i => (Value.slice O k oc).ownBlock = some i) hg6 (fun i hi => hi)) hOb
         have hOb9 : (Value.slice A6 (k + 1) c6).ownBlock ≠ some (w.heap.size + 1) := fun hc => by
          rcases hat6 with h | h
          ·exact hOb (h ▸ hc)
          ·rw [h] at hc; injection hc with hc; simp at hc; omega
         go_wp2
         go_roundw
         case rel => exact ⟨k + 1, A6, c6, q, by omega, by go_num, rfl, by go_num, HQ, by omega, HA, (by rw [HWn.out]; exact hown6), hOb9, ⟨x, y + u, HX, HY, by omega, by omega, htw9⟩, hB9⟩
         case measure => simp [intOf]; omega
       ·have tk1 : (X.kind == 1) = false := by simp [hk1]
        have HX : Hid (x = sumI (insL (l.take (k + 1)) 0)) := zH (by rw [hT1.out, Zbi, if_neg (fun h => hk1 h.1), hx.out])
        have HY : Hid (y = sumI (insL (l.take (k + 1)) 1)) := zH (by rw [hT1.out, Zbi, if_neg (fun h => hk1 h.1), hy.out])
        by_cases hk6 : X.kind = 6
        ·have HQ : Hid (q + 1 = outsC (l.take (k + 1))) := zH (by rw [hT1.out, Zcz, if_pos hk6, hq.out])
         have hqw : IntKind.i64.wrap ((q : Int) + 1) = ((q + 1 : Nat) : Int) := by rw [IntKind.wrap_i64] <;> omega
         rw [hk6] at c0
         clear hk1 hk6 tk1
         have hown7 := hown5.below hb7 (.inl lR)
         have htw7 := htw5.below hb7 lR
         have hB7 := hB5.trans (hb7.mono hB5.size)
         have hz7 := hb7.size
         have hN0 : (w.heap.size + 1) < (w5.drewN nq).heap.size := by omega
         have hown8 := hown7
         have htw8 := htw7
         have hB8 := hB7
         have hA8 := hown8.alloc (.cells #[.int .i64 u] 3)
         have htA := htw8.below ((Below.refl _ _).alloc lR (.cells #[.int .i64 u] 3)) lR
         go_wp2_with (at_builtin; refine Zae _ rfl _ _ rfl rfl hA8 rfl (Zaj _ _ _ _ (by simp)) (by omega) oM ?_; intro A6 c6 w6 hown6 hg6 hat6 hk6)
         have hB9 := Zah (hB8.alloc oN (.cells #[.int .i64 u] 3)) hA8 hg6 oN lR
         have htw9 := htA.alt (Alt.of_grown (S := fun i => (Value.slice O k oc).ownBlock = some i) hg6 (fun i hi => hi)) hOb
         have hOb9 : (Value.slice A6 (k + 1) c6).ownBlock ≠ some (w.heap.size + 1) := fun hc => by
          rcases hat6 with h | h
          ·exact hOb (h ▸ hc)
          ·rw [h] at hc; injection hc with hc; simp at hc; omega
         go_wp2
         go_roundw
         case rel => exact ⟨k + 1, A6, c6, q + 1, by omega, by go_num, rfl, by go_num, HQ, by omega, HA, (by rw [HWn.out]; exact hown6), hOb9, ⟨x, y, HX, HY, by omega, by omega, htw9⟩, hB9⟩
         case measure => simp [intOf]; omega
        ·have tk6 : (X.kind == 6) = false := by simp [hk6]
         have HQ : Hid (q = outsC (l.take (k + 1))) := zH (by rw [hT1.out, Zcz, if_neg hk6, hq.out])
         clear hk1 hk6
         have hown7 := hown5.below hb7 (.inl lR)
         have htw7 := htw5.below hb7 lR
         have hB7 := hB5.trans (hb7.mono hB5.size)
         have hz7 := hb7.size
         have hN0 : (w.heap.size + 1) < (w5.drewN nq).heap.size := by omega
         have hown8 := hown7
         have htw8 := htw7
         have hB8 := hB7
         have hA8 := hown8.alloc (.cells #[.int .i64 u] 3)
         have htA := htw8.below ((Below.refl _ _).alloc lR (.cells #[.int .i64 u] 3)) lR
         go_wp2_with (at_builtin; refine Zae _ rfl _ _ rfl rfl hA8 rfl (Zaj _ _ _ _ (by simp)) (by omega) oM ?_; intro A6 c6 w6 hown6 hg6 hat6 hk6)
         have hB9 := Zah (hB8.alloc oN (.cells #[.int .i64 u] 3)) hA8 hg6 oN lR
         have htw9 := htA.alt (Alt.of_grown (S := fun i => (Value.slice O k oc).ownBlock = some i) hg6 (fun i hi => hi)) hOb
         have hOb9 : (Value.slice A6 (k + 1) c6).ownBlock ≠ some (w.heap.size + 1) := fun hc => by
          rcases hat6 with h | h
          ·exact hOb (h ▸ hc)
          ·rw [h] at hc; injection hc with hc; simp at hc; omega
         go_wp2
         go_roundw
         case rel => exact ⟨k + 1, A6, c6, q, by omega, by go_num, rfl, by go_num, HQ, by omega, HA, (by rw [HWn.out]; exact hown6), hOb9, ⟨x, y, HX, HY, by omega, by omega, htw9⟩, hB9⟩
         case measure => simp [intOf]; omega
      ·have HN := zH hn0
       have tn := Zac hn0
       have tn2 := Zbd hn0
       clear hn0
       obtain ⟨fi, hfi⟩ := lT (iFind L X.name)
       have hkc : k ≤ c := by omega
       go_wp2_with fail
       refine Zbu (16) [(⟨S0, 0, none⟩, .int .i64 X.kind), (⟨S0, 1, none⟩, .string (bs X.name))] [(12, [], [])] [12] [(12, Res.plain (.int .i64 fi))] (by kernel_rfl) (by kernel_rfl) (by kernel_rfl) (by simp only [cD, cC, and_true]; repeat (any_goals (apply And.intro)); all_goals (first | assumption | go_simp)) ?_
       simp only [List.take_succ_cons, List.take_zero, List.drop_succ_cons, List.drop_zero, List.take_nil, List.drop_nil, List.take, List.drop]
       repeat (first
        | ((first
         | ((with_reducible refine Zan ?_ ?_ ?_)
            ·exact rfl
            ·exact rfl)
         | ((with_reducible refine Zas ?_ ?_ ?_)
            ·exact rfl
            ·exact Zad rfl rfl rfl rfl))
           intro K hK
           apply Exists.intro
           refine ⟨fun w3 hw3 => ?_, ?_⟩
           ·have hcs := hw3
            simp only [cD, cC, and_true] at hcs
            clear hw3
            go_simp
            first | done | exact ⟨rfl, rfl⟩ | rfl
           refine hK _ ?_
           clear hK K
           try simp only [pA, pB, sA, sB, sC])
        | ((with_reducible refine Zar ?_ ?_ ?_)
           ·exact rfl
           ·exact Zak rfl rfl rfl rfl
           simp only [pA, pB, sA, sB, sC]))
       focus
        (with_reducible refine mem_plain (.int .i64 fi) ?_ ?_ ?_ ?_ (hw := ?_))
        ·exact rfl
        ·exact rfl
        ·intro w3 hw3 hc3 hp3
         have hcs := hc3
         simp only [cD, cC, and_true] at hcs
         (go_simp; refine (lineOf_any (some ⟨b, o, none⟩) k c L X.name _ (hl5.below (Zco hw3) lR) (by omega)).mono ?_; rintro e w4 ⟨rfl, hb4⟩; rw [hfi.out]; exact retPost.mk_ (postPlain.mk_ hb4))
        rotate_left
        ·first | exact Zao rfl | exact Zad rfl rfl rfl rfl
        try simp only [pA, pB, sA, sB, sC]
       by_cases hfn : fi < 0
       ·have hfn' : ¬ 0 ≤ fi := by omega
        repeat (first
         | ((first
          | ((with_reducible refine Zan ?_ ?_ ?_)
             ·exact rfl
             ·exact rfl)
          | ((with_reducible refine Zas ?_ ?_ ?_)
             ·exact rfl
             ·exact Zad rfl rfl rfl rfl))
            intro K hK
            apply Exists.intro
            refine ⟨fun w3 hw3 => ?_, ?_⟩
            ·have hcs := hw3
             simp only [cD, cC, and_true] at hcs
             clear hw3
             go_simp
             first | done | exact ⟨rfl, rfl⟩ | rfl
            refine hK _ ?_
            clear hK K
            try simp only [pA, pB, sA, sB, sC])
         | ((with_reducible refine Zar ?_ ?_ ?_)
            ·exact rfl
            ·exact Zak rfl rfl rfl rfl
            simp only [pA, pB, sA, sB, sC]))
        have HS : Hid (sW L W X = u) := zH (by rw [hval.out, if_neg]; rintro (h | h); exact hu0 h; rw [hfi.out] at h; omega)
        refine Zbs ?_
        intro wy hwy hcy hfin hap
        have hb7 := Zco hwy
        have hWL : Hid (wids sW L = W) := zH (by rw [← hL.out]; exact hWd.out)
        have hub : 0 ≤ u ∧ u ≤ 10 := by rw [← HS.out]; exact sW_bd hwb
        have HA : Hid (allW (l.take (k + 1))) := zH (by rw [hT1.out]; exact allW_snoc.2 ⟨hW.out, by rw [hWL.out, HS.out]; exact hu0⟩)
        have HWn : Hid (wids sW (l.take (k + 1)) = W ++ [u]) := zH (by rw [hT1.out, Zdz, hWL.out, HS.out])
        have c0 := Zab c0 hb7
        have c4 := Zab c4 hb7
        by_cases hk1 : X.kind = 1
        ·have hin := lineW_in (x := X) (w := v) (by rw [hu.out]; exact hu0) hk1
         rw [hu.out] at hin
         have hxw : IntKind.i64.wrap (x + u) = x + u := by rw [IntKind.wrap_i64] <;> omega
         have hyw : IntKind.i64.wrap (y + u) = y + u := by rw [IntKind.wrap_i64] <;> omega
         have HQ : Hid (q = outsC (l.take (k + 1))) := zH (by rw [hT1.out, Zcz, if_neg (by omega), hq.out])
         rcases hin with ⟨hp | hp, huw, _⟩
         ·have HX : Hid (x + u = sumI (insL (l.take (k + 1)) 0)) := zH (by rw [hT1.out, Zbi, if_pos ⟨hk1, hp⟩, Zea, ← hx.out, huw])
          have HY : Hid (y = sumI (insL (l.take (k + 1)) 1)) := zH (by rw [hT1.out, Zbi, if_neg (by omega), hy.out])
          rw [hk1] at c0
          rw [hp] at c4
          clear hk1 hp huw
          have hown7 := hown5.below hb7 (.inl lR)
          have htw7 := htw5.below hb7 lR
          have hB7 := hB5.trans (hb7.mono hB5.size)
          have hz7 := hb7.size
          have hN0 : (w.heap.size + 1) < wy.heap.size := by omega
          have hfz7 := htw7.fz 0
          have hcx : wy.cell? ⟨w.heap.size + 1, 0, none⟩ = some (.int .i64 x) := htw7.c0
          have ka : Alt (fun i => i = w.heap.size + 1) wy (wy.setCell ⟨w.heap.size + 1, 0, none⟩ (.int .i64 (x + u))) := (Alt.refl_ (fun i => i = w.heap.size + 1) wy).set_ ⟨w.heap.size + 1, 0, none⟩ _ (fun _ => rfl)
          have hown8 := hown7.alt ka (fun g hg e => hOb (e ▸ hg))
          have htw8 : Two (wy.setCell ⟨w.heap.size + 1, 0, none⟩ (.int .i64 (x + u))) (w.heap.size + 1) (x + u) y := ⟨World.cell?_setCell_same _ _ _ htw7.c0, (World.cell?_setCell_other _ _ _ _ (by simp)).trans htw7.c1, htw7.fz.set _ _, by simpa using htw7.lt⟩
          have hB8 := hB7.setCell (p := ⟨w.heap.size + 1, 0, none⟩) (by show w.heap.size ≤ w.heap.size + 1; omega) (.int .i64 (x + u))
          have hz8 : (wy.setCell ⟨w.heap.size + 1, 0, none⟩ (.int .i64 (x + u))).heap.size = wy.heap.size := by simp
          have hA8 := hown8.alloc (.cells #[.int .i64 u] 3)
          have htA := htw8.below ((Below.refl _ _).alloc lR (.cells #[.int .i64 u] 3)) lR
          go_wp2_with (at_builtin; refine Zae _ rfl _ _ rfl rfl hA8 rfl (Zaj _ _ _ _ (by simp)) (by omega) oM ?_; intro A6 c6 w6 hown6 hg6 hat6 hk6)
          have hB9 := Zah (hB8.alloc oN (.cells #[.int .i64 u] 3)) hA8 hg6 oN lR
          have htw9 := htA.alt (Alt.of_grown (S := fun i => (Value.slice O k oc).ownBlock = some i) hg6 (fun i hi => hi)) hOb
          have hOb9 : (Value.slice A6 (k + 1) c6).ownBlock ≠ some (w.heap.size + 1) := fun hc => by
           rcases hat6 with h | h
           ·exact hOb (h ▸ hc)
           ·rw [h] at hc; injection hc with hc; simp at hc; omega
          go_wp2
          go_roundw
          case rel => exact ⟨k + 1, A6, c6, q, by omega, by go_num, rfl, by go_num, HQ, by omega, HA, (by rw [HWn.out]; exact hown6), hOb9, ⟨x + u, y, HX, HY, by omega, by omega, htw9⟩, hB9⟩
          case measure => simp [intOf]; omega
         ·have HX : Hid (x = sumI (insL (l.take (k + 1)) 0)) := zH (by rw [hT1.out, Zbi, if_neg (by omega), hx.out])
          have HY : Hid (y + u = sumI (insL (l.take (k + 1)) 1)) := zH (by rw [hT1.out, Zbi, if_pos ⟨hk1, hp⟩, Zea, ← hy.out, huw])
          rw [hk1] at c0
          rw [hp] at c4
          clear hk1 hp huw
          have hown7 := hown5.below hb7 (.inl lR)
          have htw7 := htw5.below hb7 lR
          have hB7 := hB5.trans (hb7.mono hB5.size)
          have hz7 := hb7.size
          have hN0 : (w.heap.size + 1) < wy.heap.size := by omega
          have hfz7 := htw7.fz 1
          have hcx : wy.cell? ⟨w.heap.size + 1, 1, none⟩ = some (.int .i64 y) := htw7.c1
          have ka : Alt (fun i => i = w.heap.size + 1) wy (wy.setCell ⟨w.heap.size + 1, 1, none⟩ (.int .i64 (y + u))) := (Alt.refl_ (fun i => i = w.heap.size + 1) wy).set_ ⟨w.heap.size + 1, 1, none⟩ _ (fun _ => rfl)
          have hown8 := hown7.alt ka (fun g hg e => hOb (e ▸ hg))
          have htw8 : Two (wy.setCell ⟨w.heap.size + 1, 1, none⟩ (.int .i64 (y + u))) (w.heap.size + 1) x (y + u) := ⟨(World.cell?_setCell_other _ _ _ _ (by simp)).trans htw7.c0, World.cell?_setCell_same _ _ _ htw7.c1, htw7.fz.set _ _, by simpa using htw7.lt⟩
          have hB8 := hB7.setCell (p := ⟨w.heap.size + 1, 1, none⟩) (by show w.heap.size ≤ w.heap.size + 1; omega) (.int .i64 (y + u))
          have hz8 : (wy.setCell ⟨w.heap.size + 1, 1, none⟩ (.int .i64 (y + u))).heap.size = wy.heap.size := by simp
          have hA8 := hown8.alloc (.cells #[.int .i64 u] 3)
          have htA := htw8.below ((Below.refl _ _).alloc lR (.cells #[.int .i64 u] 3)) lR
          go_wp2_with (at_builtin; refine Zae _ rfl _ _ rfl rfl hA8 rfl (Zaj _ _ _ _ (by simp)) (by omega) oM ?_; intro A6 c6 w6 hown6 hg6 hat6 hk6)
          have hB9 := Zah (hB8.alloc oN (.cells #[.int .i64 u] 3)) hA8 hg6 oN lR
          have htw9 := htA.alt (Alt.of_grown (S := fun i => (Value.slice O k oc).ownBlock = some i) hg6 (fun i hi => hi)) hOb
          have hOb9 : (Value.slice A6 (k + 1) c6).ownBlock ≠ some (w.heap.size + 1) := fun hc => by
           rcases hat6 with h | h
           ·exact hOb (h ▸ hc)
           ·rw [h] at hc; injection hc with hc; simp at hc; omega
          go_wp2
          go_roundw
          case rel => exact ⟨k + 1, A6, c6, q, by omega, by go_num, rfl, by go_num, HQ, by omega, HA, (by rw [HWn.out]; exact hown6), hOb9, ⟨x, y + u, HX, HY, by omega, by omega, htw9⟩, hB9⟩
          case measure => simp [intOf]; omega
        ·have tk1 : (X.kind == 1) = false := by simp [hk1]
         have HX : Hid (x = sumI (insL (l.take (k + 1)) 0)) := zH (by rw [hT1.out, Zbi, if_neg (fun h => hk1 h.1), hx.out])
         have HY : Hid (y = sumI (insL (l.take (k + 1)) 1)) := zH (by rw [hT1.out, Zbi, if_neg (fun h => hk1 h.1), hy.out])
         by_cases hk6 : X.kind = 6
         ·have HQ : Hid (q + 1 = outsC (l.take (k + 1))) := zH (by rw [hT1.out, Zcz, if_pos hk6, hq.out])
          have hqw : IntKind.i64.wrap ((q : Int) + 1) = ((q + 1 : Nat) : Int) := by rw [IntKind.wrap_i64] <;> omega
          rw [hk6] at c0
          clear hk1 hk6 tk1
          have hown7 := hown5.below hb7 (.inl lR)
          have htw7 := htw5.below hb7 lR
          have hB7 := hB5.trans (hb7.mono hB5.size)
          have hz7 := hb7.size
          have hN0 : (w.heap.size + 1) < wy.heap.size := by omega
          have hown8 := hown7
          have htw8 := htw7
          have hB8 := hB7
          have hA8 := hown8.alloc (.cells #[.int .i64 u] 3)
          have htA := htw8.below ((Below.refl _ _).alloc lR (.cells #[.int .i64 u] 3)) lR
          go_wp2_with (at_builtin; refine Zae _ rfl _ _ rfl rfl hA8 rfl (Zaj _ _ _ _ (by simp)) (by omega) oM ?_; intro A6 c6 w6 hown6 hg6 hat6 hk6)
          have hB9 := Zah (hB8.alloc oN (.cells #[.int .i64 u] 3)) hA8 hg6 oN lR
          have htw9 := htA.alt (Alt.of_grown (S := fun i => (Value.slice O k oc).ownBlock = some i) hg6 (fun i hi => hi)) hOb
          have hOb9 : (Value.slice A6 (k + 1) c6).ownBlock ≠ some (w.heap.size + 1) := fun hc => by
           rcases hat6 with h | h
           ·exact hOb (h ▸ hc)
           ·rw [h] at hc; injection hc with hc; simp at hc; omega
          go_wp2
          go_roundw
          case rel => exact ⟨k + 1, A6, c6, q + 1, by omega, by go_num, rfl, by go_num, HQ, by omega, HA, (by rw [HWn.out]; exact hown6), hOb9, ⟨x, y, HX, HY, by omega, by omega, htw9⟩, hB9⟩
          case measure => simp [intOf]; omega
         ·have tk6 : (X.kind == 6) = false := by simp [hk6]
          have HQ : Hid (q = outsC (l.take (k + 1))) := zH (by rw [hT1.out, Zcz, if_neg hk6, hq.out])
          clear hk1 hk6
          have hown7 := hown5.below hb7 (.inl lR)
          have htw7 := htw5.below hb7 lR
          have hB7 := hB5.trans (hb7.mono hB5.size)
          have hz7 := hb7.size
          have hN0 : (w.heap.size + 1) < wy.heap.size := by omega
          have hown8 := hown7
          have htw8 := htw7
          have hB8 := hB7
          have hA8 := hown8.alloc (.cells #[.int .i64 u] 3)
          have htA := htw8.below ((Below.refl _ _).alloc lR (.cells #[.int .i64 u] 3)) lR
          go_wp2_with (at_builtin; refine Zae _ rfl _ _ rfl rfl hA8 rfl (Zaj _ _ _ _ (by simp)) (by omega) oM ?_; intro A6 c6 w6 hown6 hg6 hat6 hk6)
          have hB9 := Zah (hB8.alloc oN (.cells #[.int .i64 u] 3)) hA8 hg6 oN lR
          have htw9 := htA.alt (Alt.of_grown (S := fun i => (Value.slice O k oc).ownBlock = some i) hg6 (fun i hi => hi)) hOb
          have hOb9 : (Value.slice A6 (k + 1) c6).ownBlock ≠ some (w.heap.size + 1) := fun hc => by
           rcases hat6 with h | h
           ·exact hOb (h ▸ hc)
           ·rw [h] at hc; injection hc with hc; simp at hc; omega
          go_wp2
          go_roundw
          case rel => exact ⟨k + 1, A6, c6, q, by omega, by go_num, rfl, by go_num, HQ, by omega, HA, (by rw [HWn.out]; exact hown6), hOb9, ⟨x, y, HX, HY, by omega, by omega, htw9⟩, hB9⟩
          case measure => simp [intOf]; omega
       ·have hfn' : 0 ≤ fi := by omega
        have HG : Hid (¬ goodP l) := zH (hbad.out (by rw [hval.out, hfi.out, if_pos (.inr ⟨HN.out, by first | exact hfn | exact hfn'⟩)]))
        repeat (first
         | ((first
          | ((with_reducible refine Zan ?_ ?_ ?_)
             ·exact rfl
             ·exact rfl)
          | ((with_reducible refine Zas ?_ ?_ ?_)
             ·exact rfl
             ·exact Zad rfl rfl rfl rfl))
            intro K hK
            apply Exists.intro
            refine ⟨fun w3 hw3 => ?_, ?_⟩
            ·have hcs := hw3
             simp only [cD, cC, and_true] at hcs
             clear hw3
             go_simp
             first | done | exact ⟨rfl, rfl⟩ | rfl
            refine hK _ ?_
            clear hK K
            try simp only [pA, pB, sA, sB, sC])
         | ((with_reducible refine Zar ?_ ?_ ?_)
            ·exact rfl
            ·exact Zak rfl rfl rfl rfl
            simp only [pA, pB, sA, sB, sC]))
        refine Zbs ?_
        intro wy hwy hcy hfin hap
        go_wp2
        go_ret2
        exact RetWid.bad (hB5.trans ((Zco hwy).mono hB5.size)) HG.out rfl
  ·obtain rfl : n = k := Nat.le_antisymm (Nat.le_of_not_lt hlt) hk
   have ht : l.take n = l := List.take_of_length_le (by omega)
   rw [ht] at hq hW hown hx hy
   obtain ⟨d0, d1, _, _⟩ := htw
   have hgo : Hid (goodP l ↔ x ≤ 20 ∧ y ≤ 20 ∧ q ≤ 10) := zH (by
    unfold goodP; rw [← hx.out, ← hy.out, ← hq.out]
    constructor
    ·rintro ⟨_, _, h⟩; exact h
    ·intro h; exact ⟨by omega, hW.out, h⟩)
   by_cases h1 : x ≤ 20
   ·by_cases h2 : y ≤ 20
    ·by_cases h3 : q ≤ 10
     ·have h3' : (q : Int) ≤ 10 := by omega
      have HG : Hid (decide (goodP l) = true) := zH (decide_eq_true (hgo.out.2 ⟨h1, h2, h3⟩))
      go_wp2
      go_ret2
      exact ⟨O, n, oc, by rw [HG.out]; rfl, fun _ => ⟨hl.symm, hown⟩, hb⟩
     ·have h3' : ¬ (q : Int) ≤ 10 := by omega
      have HG : Hid (¬ goodP l) := zH (fun h => h3 (hgo.out.1 h).2.2)
      go_wp2
      go_ret2
      exact ⟨O, n, oc, by rw [decide_eq_false HG.out]; rfl, fun h => absurd h HG.out, hb⟩
    ·have HG : Hid (¬ goodP l) := zH (fun h => h2 (hgo.out.1 h).2.1)
     go_wp2
     go_ret2
     exact ⟨O, n, oc, by rw [decide_eq_false HG.out]; rfl, fun h => absurd h HG.out, hb⟩
   ·have HG : Hid (¬ goodP l) := zH (fun h => h1 (hgo.out.1 h).1)
    go_wp2
    go_ret2
    exact ⟨O, n, oc, by rw [decide_eq_false HG.out]; rfl, fun h => absurd h HG.out, hb⟩
end Go.Proofs.YtenknpcbbcbciaaGreat
namespace Go.Proofs.YtenknpcbbcbciaaGreat
open Go.RowKit
set_option linter.unusedVariables false
set_option linter.unusedSimpArgs false
theorem Zfk (A : Option Addr) (n c : Nat) (l : List Ln) (w : World) (ha : RLn w A n l) (hn : n ≤ 2097152) (hcap : n ≤ c) (hsh : ∀ x ∈ l, shortL x) :
 Calls Tryz.prog 96 #[.slice A n c] w fun e w' => e = .returned (.bool (decide (goodP l))) ∧ Below w.heap.size w w' := by
 go_enter Tryz.func96, Tryz.ntmps96
 go_wp2_with fail
 refine (widths_any A n c l _ ha hn hcap hsh).mono ?_
 rintro e w1 ⟨A1, n1, c1, rfl, _, hb⟩
 go_wp2
 go_ret
 exact ⟨rfl, hb⟩
theorem OutWidths1_any (x : Ln) (P : Option Addr) (q : Nat) (w : World) :
 Calls Tryz.prog 98 #[lnV x P q] w fun e w' => e = .returned (.bool (decide (x.kind = 6))) ∧ Below w.heap.size w w' := by
 by_cases h : x.kind = 6
 ·have HR : Hid (decide (x.kind = 6) = true) := zH (decide_eq_true h)
  have t : (x.kind == 6) = true := by simp [h]
  clear h
  go_enter Tryz.func98, Tryz.ntmps98
  go_wp2
  go_ret
  exact ⟨by rw [HR.out]; rfl, bA⟩
 ·have HR : Hid (decide (x.kind = 6) = false) := zH (decide_eq_false h)
  have t : (x.kind == 6) = false := by simp [h]
  clear h
  go_enter Tryz.func98, Tryz.ntmps98
  go_wp2
  go_ret
  exact ⟨by rw [HR.out]; rfl, bA⟩
theorem InputWidths1_any (x : Ln) (P : Option Addr) (q b : Nat) (p : Int) (w : World) (hc : w.cell? ⟨b, 0, none⟩ = some (.int .i64 p)) :
 Calls Tryz.prog 82 #[lnV x P q, .pointer (some ⟨b, 0, none⟩)] w fun e w' => e = .returned (.bool (decide (x.kind = 1) && decide (x.party = p))) ∧ Below w.heap.size w w' := by
 have hb := World.block_lt_of_cell? w _ hc
 by_cases h : x.kind = 1
 ·have t : (x.kind == 1) = true := by simp [h]
  by_cases h2 : x.party = p
  ·have HR : Hid ((decide (x.kind = 1) && decide (x.party = p)) = true) := zH (by simp [h, h2])
   have t2 : (x.party == p) = true := by simp [h2]
   clear h h2
   go_enter Tryz.func82, Tryz.ntmps82
   go_wp2
   go_ret
   exact ⟨by rw [HR.out]; rfl, bA⟩
  ·have HR : Hid ((decide (x.kind = 1) && decide (x.party = p)) = false) := zH (by simp [h2])
   have t2 : (x.party == p) = false := by simp [h2]
   clear h h2
   go_enter Tryz.func82, Tryz.ntmps82
   go_wp2
   go_ret
   exact ⟨by rw [HR.out]; rfl, bA⟩
 ·have t : (x.kind == 1) = false := by simp [h]
  have HR : Hid ((decide (x.kind = 1) && decide (x.party = p)) = false) := zH (by simp [h])
  clear h
  go_enter Tryz.func82, Tryz.ntmps82
  go_wp2
  go_ret
  exact ⟨by rw [HR.out]; rfl, bA⟩
def byK (p : Ln → Bool) (l : List Ln) (ws : List Int) : Nat → List Int
 | 0 => []
 | k + 1 => if p (lx l k) = true then byK p l ws k ++ [gi ws k] else byK p l ws k
theorem byK_len (p : Ln → Bool) (l : List Ln) (ws : List Int) (k : Nat) : (byK p l ws k).length ≤ k := by
 induction k with
 | zero => simp [byK]
 | succ k ih =>
  unfold byK
  split
  ·simp; omega
  ·omega
def byO (p : Ln → Bool) (l : List Ln) : Option (List Int) := if goodP l then some (byK p l (wids sW l) l.length) else none
set_option maxRecDepth 100000 in
set_option maxHeartbeats 1600000 in
theorem widthsBy_any (f : FuncId) (hcf : ∀ args w, Sem.run Tryz.prog (callFunc f args) w = .ok (.enter f args) w) (cap : Array Value) (p : Ln → Bool) (A : Option Addr) (n c : Nat) (l : List Ln) (w : World) (ha : RLn w A n l) (hn : n ≤ 2097152) (hcap : n ≤ c) (hsh : ∀ x ∈ l, shortL x)
 (hf : Hid (∀ x P q w1, Below w.heap.size w w1 → Calls Tryz.prog f (#[lnV x P q] ++ cap) w1 fun e w' => e = .returned (.bool (p x)) ∧ Below w1.heap.size w1 w')) :
 Calls Tryz.prog 81 #[.slice A n c, .func (.func f) #[] cap] w (RetO w (byO p l)) := by
 have hl := ha.len
 go_enter Tryz.func81, Tryz.ntmps81
 go_wp2_with fail
 refine (widths_any A n c l _ ha hn hcap hsh).mono ?_
 rintro e w1 ⟨A1, n1, c1, rfl, hW, hb1⟩
 by_cases hg : goodP l
 ·have HR : Hid (byO p l = some (byK p l (wids sW l) n)) := zH (by unfold byO; rw [if_pos hg, hl])
  obtain ⟨hn1, hown1⟩ := hW hg
  rw [hl] at hn1
  subst hn1
  rw [decide_eq_true hg]
  have hz1 := hb1.size
  have h30 : n1 ≤ 30 := by have := hg.1; omega
  have hnew := (Zcc w1 w1.heap.size lR).now
  have hbn : Below w1.heap.size w1 (w1.alloc (.cells #[] 3)) := bA
  have HL := zH (byK_len p l (wids sW l))
  have HS : Hid (∀ k, byK p l (wids sW l) (k + 1) = if p (lx l k) = true then byK p l (wids sW l) k ++ [gi (wids sW l) k] else byK p l (wids sW l) k) := zH fun k => rfl
  have H0 : Hid (byK p l (wids sW l) 0 = []) := zH rfl
  generalize byK p l (wids sW l) = Y at *
  generalize wids sW l = ws at *
  clear hW hg
  go_wp2
  go_loopw [8, 21] (fun r i wr => ∃ (k : Nat) (R : Option Addr) (rn rc : Nat), k ≤ n1 ∧ i = .int .i64 k ∧ r = .slice R rn rc ∧ Own wr w1.heap.size wr.heap.size (.slice R rn rc) rn (Y k) ∧ rn ≤ k ∧ Below w1.heap.size w1 wr) (fun _ i _ => n1 - (intOf i).toNat)
  case atStart => exact ⟨0, _, _, _, Nat.zero_le _, rfl, rfl, by rw [H0.out]; exact hnew, Nat.le_refl _, hbn⟩
  case round =>
   obtain ⟨k, R, rn, rc, hk, rfl, rfl, hown, hrn, hb⟩ := hrel
   clear hnew hbn
   have hzr := hb.size
   by_cases hlt : k < n1
   ·have hbw := hb1.trans (hb.mono hz1)
    obtain ⟨b, o, P, q, rfl, hbB, ⟨c0, c1, c2, c3, c4, c5, c6⟩, hx⟩ := (ha.below hbw lR).at_ hlt
    obtain ⟨g, hA, hg1, hg2, hg3⟩ := hown1.some_ (show 0 < n1 by omega)
    subst hA
    have hal := (Below.refl wr.heap.size wr).alloc lR (.cells #[.int .i64 (lx l k).kind, .string (bs (lx l k).name), .string (bs (lx l k).op), .slice P (lx l k).parts.length q, .int .i64 (lx l k).party, .int .i64 (lx l k).width, .int .i64 (lx l k).value] 89)
    have hbA := hbw.trans (hal.mono hbw.size)
    have hS := HS.out k
    clear ha hx
    cases hd : p (lx l k) with
    | true =>
     rw [hd, if_pos rfl] at hS
     have HK := zH hS
     have HQ := zH hd; clear hd hS
     go_wp2_with fail
     refine (hf.out (lx l k) P q _ hbA).mono ?_
     rintro e w3 ⟨rfl, hb3⟩
     rw [HQ.out]
     have hB3 := (hb.alloc hzr (.cells #[.int .i64 (lx l k).kind, .string (bs (lx l k).name), .string (bs (lx l k).op), .slice P (lx l k).parts.length q, .int .i64 (lx l k).party, .int .i64 (lx l k).width, .int .i64 (lx l k).value] 89)).trans (hb3.mono (by simp; omega))
     have hown3 := (hown.alloc (.cells #[.int .i64 (lx l k).kind, .string (bs (lx l k).name), .string (bs (lx l k).op), .slice P (lx l k).parts.length q, .int .i64 (lx l k).party, .int .i64 (lx l k).width, .int .i64 (lx l k).value] 89)).below hb3 (.inl lR)
     have cF := (hown1.below hB3 (.inl lR)).cellAt hlt
     have hz3 := hB3.size
     obtain ⟨u, hu⟩ := lT (gi ws k)
     rw [hu.out] at cF HK
     have hA3 := hown3.alloc (.cells #[.int .i64 u] 3)
     clear c0 c1 c2 c3 c4 c5 c6
     go_wp2_with (at_builtin; refine Zae _ rfl _ _ rfl rfl hA3 rfl (Zaj _ _ _ _ (by simp)) (by omega) oM ?_; intro A5 c5 w5 hown5 hg5 hat5 hk5)
     have hb5 := Zah (hB3.alloc (by omega) (.cells #[.int .i64 u] 3)) hA3 hg5 (by simp; omega) lR
     go_wp2
     go_roundw
     case rel => exact ⟨k + 1, A5, rn + 1, c5, by omega, by go_num, rfl, by rw [HK.out]; exact hown5, by omega, hb5⟩
     case measure => simp [intOf]; omega
    | false =>
     rw [hd, if_neg (by simp)] at hS
     have HK := zH hS
     have HQ := zH hd; clear hd hS
     go_wp2_with fail
     refine (hf.out (lx l k) P q _ hbA).mono ?_
     rintro e w3 ⟨rfl, hb3⟩
     rw [HQ.out]
     have hB3 := (hb.alloc hzr (.cells #[.int .i64 (lx l k).kind, .string (bs (lx l k).name), .string (bs (lx l k).op), .slice P (lx l k).parts.length q, .int .i64 (lx l k).party, .int .i64 (lx l k).width, .int .i64 (lx l k).value] 89)).trans (hb3.mono (by simp; omega))
     have hown3 := (hown.alloc (.cells #[.int .i64 (lx l k).kind, .string (bs (lx l k).name), .string (bs (lx l k).op), .slice P (lx l k).parts.length q, .int .i64 (lx l k).party, .int .i64 (lx l k).width, .int .i64 (lx l k).value] 89)).below hb3 (.inl lR)
     go_wp2
     go_roundw
     case rel => exact ⟨k + 1, R, rn, rc, by omega, by go_num, rfl, by rw [HK.out]; exact hown3.now, by omega, hB3⟩
     case measure => simp [intOf]; omega
   ·obtain rfl : n1 = k := Nat.le_antisymm (Nat.le_of_not_lt hlt) hk
    have hln := hown.len
    go_wp2
    go_ret2
    exact RetO.some_ (hb1.trans (hb.mono hz1)) HR.out hln rfl (hown.lo_ hz1)
 ·have HR : Hid (byO p l = none) := zH (by unfold byO; rw [if_neg hg])
  rw [decide_eq_false hg]
  clear hW hg
  go_wp2
  go_ret2
  exact RetO.none_ hb1 HR.out rfl
end Go.Proofs.YtenknpcbbcbciaaGreat
