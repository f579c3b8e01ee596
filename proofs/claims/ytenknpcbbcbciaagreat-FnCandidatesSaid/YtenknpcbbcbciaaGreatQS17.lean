/- The width of a line, the program's lineWidth, at one kind of lines. Widths of parts from 0 to 10, texts below 2^21 bytes. -/
import Derived.Test.YtenknpcbbcbciaaGreatQS16
import Derived.BigRegion
import Derived.Test.YtenknpcbbcbciaaGreatQS06
namespace Go.Proofs.YtenknpcbbcbciaaGreat
open Go.RowKit
set_option linter.unusedVariables false
set_option linter.unusedSimpArgs false
variable {Qo : OQ}
theorem RetRowQ.lift {w w' : World} {lo b : Nat} {x y : Int} {gs : List G3} {G : Option Nat} {os : List Int} {e : Ending} {o : Obj} (h : RetRowQ Qo lo b x y gs os G (w.alloc o) e w') : RetRowQ Qo lo b x y gs os G w e w' := by
 obtain ⟨G', O, oc, h1, h2, h3, h4⟩ := h
 exact ⟨G', O, oc, h1, h2, ((Mv.refl_ b G w).alloc_ o).trans_ h3, h4.lo_ (by simp)⟩
theorem NL.part {w : World} {b plo np pc k : Nat} {G : Option Nat} {PA : Option Addr} {ps : List (List Int)} (h : NL w b G plo (.slice PA np pc) np ps) (hk : k < np) :
 ∃ g A c, PA = some ⟨g, 0, none⟩ ∧ w.cell? ⟨g, k, none⟩ = some (.slice A (gl ps k).length c) ∧ RM w b G A (gl ps k).length (gl ps k) ∧ OffB b G g ∧ g < w.heap.size := by
 obtain ⟨g, A, m, c, h1, h2, h3, h4, h5, h6, h7⟩ := h.at_ hk
 have hm := h6.len
 subst hm
 subst h1
 have := h.lt g (by simp [Value.ownBlock])
 exact ⟨g, A, c, rfl, h4, h6, ⟨this.2.2.1, this.2.2.2⟩, h3⟩
theorem OffB.size {b : Nat} {G : Option Nat} {w : World} {lo : Nat} {x y : Int} {gs : List G3} (hm : MkQ Qo w lo b x y gs G) : OffB b G w.heap.size :=
 ⟨by have := hm.1; omega, fun hc => by have := hm.lt _ hc; omega⟩
set_option maxHeartbeats 1600000 in
theorem line_2 (lo b : Nat) (x y : Int) (g0 : List G3) (G : Option Nat) (op nm : Str) (pts : List Str) (P : Option Addr) (q : Nat) (pt wd vl : Int) (PA : Option Addr) (np pc plo : Nat) (ps : List (List Int)) (w : World) (hm : MkQ Qo w lo b x y g0 G) (hp : NL w b G plo (.slice PA np pc) np ps) (hx : 0 ≤ x ∧ x ≤ 20) (hy : 0 ≤ y ∧ y ≤ 20) (hg : g0.length ≤ 40000) (hlo : lo ≤ w.heap.size) (h1 : 1 ≤ wd) (h2 : wd ≤ 10) (h3 : 0 ≤ vl) (h4 : vl ≤ 1023) :
 Calls Tryz.prog 133 #[.pointer (some ⟨b, 0, none⟩), .agg #[.int .i64 2, .string (bs nm), .string (bs op), .slice P pts.length q, .int .i64 pt, .int .i64 wd, .int .i64 vl], .slice PA np pc] w (RetRowQ Qo lo b x y (constS (x + y) (bitsN vl.toNat wd.toNat) g0).g (constS (x + y) (bitsN vl.toNat wd.toNat) g0).o G w) := by
 obtain ⟨v, rfl⟩ := Int.eq_ofNat_of_zero_le h3
 obtain ⟨k, rfl⟩ := Int.eq_ofNat_of_zero_le (show 0 ≤ wd by omega)
 rw [Int.toNat_natCast, Int.toNat_natCast]
 go_enter Tryz.func133, Tryz.ntmps133
 go_wp2_with fail
 refine (maker_constant_any lo b x y g0 G v k _ (hm.alloc_ _) hx hy hg (by omega) (by omega) (by omega) (by rw [World.size_alloc]; omega)).mono ?_
 rintro e w2 hT
 have hT2 := hT.lift
 clear hT
 obtain ⟨G2, O, oc, rfl, hm2, hv2, ho2⟩ := hT2
 go_wp2
 go_ret
 exact ⟨G2, O, oc, rfl, hm2, hv2, ho2⟩
set_option maxHeartbeats 1600000 in
theorem line_3 (lo b : Nat) (x y : Int) (g0 : List G3) (G : Option Nat) (op nm : Str) (pts : List Str) (P : Option Addr) (q : Nat) (pt wd vl : Int) (PA : Option Addr) (np pc plo : Nat) (ps : List (List Int)) (w : World) (hm : MkQ Qo w lo b x y g0 G) (hp : NL w b G plo (.slice PA np pc) np ps) (hx : 0 ≤ x ∧ x ≤ 20) (hy : 0 ≤ y ∧ y ≤ 20) (hg : g0.length ≤ 40000) (hlo : lo ≤ w.heap.size) (hn : np = 2) (hb0 : okW (gl ps 0)) (he : (gl ps 1).length = (gl ps 0).length) (ho : opB op = true) (h5 : op = [42] → (gl ps 0).length ≤ 5) :
 Calls Tryz.prog 133 #[.pointer (some ⟨b, 0, none⟩), .agg #[.int .i64 3, .string (bs nm), .string (bs op), .slice P pts.length q, .int .i64 pt, .int .i64 wd, .int .i64 vl], .slice PA np pc] w (RetRowQ Qo lo b x y (twoS (x + y) op (gl ps 0) (gl ps 1) g0 (gl ps 0).length).g (twoS (x + y) op (gl ps 0) (gl ps 1) g0 (gl ps 0).length).o G w) := by
 subst hn
 have hm1 := hm.alloc_ (.cells #[.int .i64 3, .string (bs nm), .string (bs op), .slice P pts.length q, .int .i64 pt, .int .i64 wd, .int .i64 vl] 89)
 have hp1 := hp.alloc_ (.cells #[.int .i64 3, .string (bs nm), .string (bs op), .slice P pts.length q, .int .i64 pt, .int .i64 wd, .int .i64 vl] 89)
 have hv1 := (Mv.refl_ b G w).alloc_ (.cells #[.int .i64 3, .string (bs nm), .string (bs op), .slice P pts.length q, .int .i64 pt, .int .i64 wd, .int .i64 vl] 89)
 have hbx : (w.alloc (.cells #[.int .i64 3, .string (bs nm), .string (bs op), .slice P pts.length q, .int .i64 pt, .int .i64 wd, .int .i64 vl] 89)).cell? ⟨w.heap.size, 2, none⟩ = some (.string (bs op)) := Zaf _ _ 2 _ rfl
 have nx := OffB.size hm
 have hsz : (w.alloc (.cells #[.int .i64 3, .string (bs nm), .string (bs op), .slice P pts.length q, .int .i64 pt, .int .i64 wd, .int .i64 vl] 89)).heap.size = w.heap.size + 1 := by simp
 obtain ⟨pg, A0, d0, hPA, e0, r0, ng, hpg⟩ := hp1.part (k := 0) (by omega)
 obtain ⟨pg', A1, d1, hPA', e1, r1, _, _⟩ := hp1.part (k := 1) (by omega)
 rw [hPA] at hPA'
 simp only [Option.some.injEq, Addr.mk.injEq, and_true] at hPA'
 subst hPA' hPA
 obtain ⟨us, hus⟩ := lT (gl ps 0)
 obtain ⟨vs, hvs⟩ := lT (gl ps 1)
 rw [hus.out] at hb0 he h5 e0 r0 ⊢
 rw [hvs.out] at he e1 r1 ⊢
 obtain ⟨n, hnl⟩ := lT (us.length)
 obtain ⟨hb1, hb2⟩ := hb0
 rw [he] at e1 r1
 rw [hnl.out] at hb1 hb2 h5 e0 e1 r0 r1 ⊢
 clear hp hp1 hm he
 have hlo1 : lo ≤ (w.alloc (.cells #[.int .i64 3, .string (bs nm), .string (bs op), .slice P pts.length q, .int .i64 pt, .int .i64 wd, .int .i64 vl] 89)).heap.size := by omega
 go_enter Tryz.func133, Tryz.ntmps133
 go_wp2_with fail
 go_region_held3 (fun w' => w'.cell? ⟨w.heap.size, 2, none⟩ = some (.string (bs op)) ∧ w'.cell? ⟨pg, 0, none⟩ = some (.slice A0 n d0) ∧ w'.cell? ⟨pg, 1, none⟩ = some (.slice A1 n d1))
  (first | (go_keep; done) | (go_split_ands; exact ⟨hv2_.cellF (by assumption) nx, hv2_.cellF (by assumption) ng, hv2_.cellF (by assumption) ng⟩) | (go_split_ands; (repeat' apply And.intro) <;> (repeat (refine (World.cell?_setCell_other _ _ _ _ (by first | (simp; done) | (simp; omega))).trans ?_)) <;> assumption))
  (first | (go_at_call 152; refine (maker_two_any lo b x y g0 G A0 A1 n d0 d1 us vs _ (hm1.drewN_ 1) (r0.below_ (Zai 1) lR) (r1.below_ (Zai 1) lR) hx hy hg hb1 hb2 (Nat.le_trans hlo1 lR) op ho h5).mono ?_; rintro e w2 ⟨G2, O, oc, rfl, hm2, hv2_, ho2⟩; have hv2 := (hv1.drewN_ 1).trans_ hv2_))
 go_wp2
 go_ret
 exact ⟨G2, O, oc, rfl, hm2, hv2, ho2.lo_ (by simp; try omega)⟩
set_option maxHeartbeats 1600000 in
theorem line_5 (lo b : Nat) (x y : Int) (g0 : List G3) (G : Option Nat) (op nm : Str) (pts : List Str) (P : Option Addr) (q : Nat) (pt wd vl : Int) (PA : Option Addr) (np pc plo : Nat) (ps : List (List Int)) (w : World) (hm : MkQ Qo w lo b x y g0 G) (hp : NL w b G plo (.slice PA np pc) np ps) (hx : 0 ≤ x ∧ x ≤ 20) (hy : 0 ≤ y ∧ y ≤ 20) (hg : g0.length ≤ 40000) (hlo : lo ≤ w.heap.size) (hn : np = 3) (h0 : (gl ps 0).length = 1) (hb0 : okW (gl ps 1)) (he : (gl ps 2).length = (gl ps 1).length) :
 Calls Tryz.prog 133 #[.pointer (some ⟨b, 0, none⟩), .agg #[.int .i64 5, .string (bs nm), .string (bs op), .slice P pts.length q, .int .i64 pt, .int .i64 wd, .int .i64 vl], .slice PA np pc] w (RetRowQ Qo lo b x y (chs (x + y) g0 (gi (gl ps 0) 0) (gl ps 1) (gl ps 2) (gl ps 1).length).g (chs (x + y) g0 (gi (gl ps 0) 0) (gl ps 1) (gl ps 2) (gl ps 1).length).o G w) := by
 subst hn
 have hm1 := hm.alloc_ (.cells #[.int .i64 5, .string (bs nm), .string (bs op), .slice P pts.length q, .int .i64 pt, .int .i64 wd, .int .i64 vl] 89)
 have hp1 := hp.alloc_ (.cells #[.int .i64 5, .string (bs nm), .string (bs op), .slice P pts.length q, .int .i64 pt, .int .i64 wd, .int .i64 vl] 89)
 have hv1 := (Mv.refl_ b G w).alloc_ (.cells #[.int .i64 5, .string (bs nm), .string (bs op), .slice P pts.length q, .int .i64 pt, .int .i64 wd, .int .i64 vl] 89)
 have hsz : (w.alloc (.cells #[.int .i64 5, .string (bs nm), .string (bs op), .slice P pts.length q, .int .i64 pt, .int .i64 wd, .int .i64 vl] 89)).heap.size = w.heap.size + 1 := by simp
 obtain ⟨pg, A0, d0, hPA, e0, r0, ng, hpg⟩ := hp1.part (k := 0) (by omega)
 obtain ⟨pg', A1, d1, hPA', e1, r1, _, _⟩ := hp1.part (k := 1) (by omega)
 rw [hPA] at hPA'
 simp only [Option.some.injEq, Addr.mk.injEq, and_true] at hPA'
 subst hPA'
 obtain ⟨pg', A2, d2, hPA', e2, r2, _, _⟩ := hp1.part (k := 2) (by omega)
 rw [hPA] at hPA'
 simp only [Option.some.injEq, Addr.mk.injEq, and_true] at hPA'
 subst hPA' hPA
 obtain ⟨sb, so, rfl, hsb, s0⟩ := r0.1.at_ (k := 0) (by omega)
 have nsb : OffB b G sb := r0.2 (by omega) _ _ rfl
 obtain ⟨s, hs⟩ := lT (gi (gl ps 0) 0)
 rw [hs.out] at s0 ⊢
 rw [h0] at e0
 rw [Nat.add_zero] at s0
 obtain ⟨us, hus⟩ := lT (gl ps 1)
 obtain ⟨vs, hvs⟩ := lT (gl ps 2)
 rw [hus.out] at hb0 he e1 r1 ⊢
 rw [hvs.out] at he e2 r2 ⊢
 obtain ⟨n, hnl⟩ := lT (us.length)
 obtain ⟨hb1, hb2⟩ := hb0
 rw [he] at e2 r2
 rw [hnl.out] at hb1 hb2 e1 e2 r1 r2 ⊢
 have HOc : (chs (x + y) g0 s us vs n).o.length = n := chs_o _ _ _ _ _ _
 obtain ⟨CG, CO, hCC⟩ : ∃ CG CO, Hid (chs (x + y) g0 s us vs n = ⟨CG, CO⟩) := ⟨_, _, zH rfl⟩
 have hcall := fun w3 h1 h2 h3 h4 => maker_chooseQ_any (Qo := Qo) lo b x y g0 G A1 A2 n d1 d2 s us vs w3 h1 h2 h3 hx hy (by omega) (by omega) h4
 rw [hCC.out] at HOc hcall ⊢
 dsimp only at HOc hcall ⊢
 clear hp hp1 hm he r0 h0
 have hlo1 : lo ≤ (w.alloc (.cells #[.int .i64 5, .string (bs nm), .string (bs op), .slice P pts.length q, .int .i64 pt, .int .i64 wd, .int .i64 vl] 89)).heap.size := by omega
 go_enter Tryz.func133, Tryz.ntmps133
 go_wp2_with fail
 go_region_held3 (fun w' => w'.cell? ⟨pg, 0, none⟩ = some (.slice (some ⟨sb, so, none⟩) 1 d0) ∧ w'.cell? ⟨sb, so, none⟩ = some (.int .i64 s) ∧ w'.cell? ⟨pg, 1, none⟩ = some (.slice A1 n d1) ∧ w'.cell? ⟨pg, 2, none⟩ = some (.slice A2 n d2))
  (first | (go_keep; done) | (go_split_ands; exact ⟨hv2_.cellF (by assumption) ng, hv2_.cellF (by assumption) nsb, hv2_.cellF (by assumption) ng, hv2_.cellF (by assumption) ng⟩) | (go_split_ands; (repeat' apply And.intro) <;> (repeat (refine (World.cell?_setCell_other _ _ _ _ (by first | (simp; done) | (simp; omega))).trans ?_)) <;> assumption))
  (first | (go_at_call 154; refine (hcall _ (hm1.drewN_ 1) (r1.below_ (Zai 1) lR) (r2.below_ (Zai 1) lR) (Nat.le_trans hlo1 lR)).mono ?_; rintro e w2 hT; obtain ⟨G2, O, oc, rfl, hm2, hv2_, ho2⟩ := hT.open_ HOc; have hv2 := (hv1.drewN_ 1).trans_ hv2_))
 have hz2 := hv2_.size
 have hk2 : RetRowQ Qo lo b x y CG CO G w (.returned (.slice O n oc)) w2 := RetRowQ.mk_ HOc rfl hm2 hv2 (ho2.lo_ (by simp; try omega))
 obtain ⟨G3, O3, oc3, h1, h2, h3, h4⟩ := hk2
 go_wp2
 go_ret
 exact ⟨G3, O3, oc3, h1, h2, h3, h4⟩
set_option maxHeartbeats 1600000 in
theorem line_6 (kd : Int) (lo b : Nat) (x y : Int) (g0 : List G3) (G : Option Nat) (op nm : Str) (pts : List Str) (P : Option Addr) (q : Nat) (pt wd vl : Int) (PA : Option Addr) (np pc plo : Nat) (ps : List (List Int)) (w : World) (hm : MkQ Qo w lo b x y g0 G) (hp : NL w b G plo (.slice PA np pc) np ps) (hx : 0 ≤ x ∧ x ≤ 20) (hy : 0 ≤ y ∧ y ≤ 20) (hg : g0.length ≤ 40000) (hlo : lo ≤ w.heap.size) (k2 : ¬ kd = 2) (k3 : ¬ kd = 3) (k4 : ¬ kd = 4) (k5 : ¬ kd = 5) (hn : np = 1) (hb0 : okW (gl ps 0)) :
 Calls Tryz.prog 133 #[.pointer (some ⟨b, 0, none⟩), .agg #[.int .i64 kd, .string (bs nm), .string (bs op), .slice P pts.length q, .int .i64 pt, .int .i64 wd, .int .i64 vl], .slice PA np pc] w (RetRowQ Qo lo b x y g0 (gl ps 0) G w) := by
 subst hn
 have t2 : (kd == 2) = false := by simp [k2]
 have t3 : (kd == 3) = false := by simp [k3]
 have t4 : (kd == 4) = false := by simp [k4]
 have t5 : (kd == 5) = false := by simp [k5]
 have hm1 := hm.alloc_ (.cells #[.int .i64 kd, .string (bs nm), .string (bs op), .slice P pts.length q, .int .i64 pt, .int .i64 wd, .int .i64 vl] 89)
 have hp1 := hp.alloc_ (.cells #[.int .i64 kd, .string (bs nm), .string (bs op), .slice P pts.length q, .int .i64 pt, .int .i64 wd, .int .i64 vl] 89)
 have hv1 := (Mv.refl_ b G w).alloc_ (.cells #[.int .i64 kd, .string (bs nm), .string (bs op), .slice P pts.length q, .int .i64 pt, .int .i64 wd, .int .i64 vl] 89)
 obtain ⟨pg, A0, d0, rfl, e0, r0, ng, hpg⟩ := hp1.part (k := 0) (by omega)
 obtain ⟨us, hus⟩ := lT (gl ps 0)
 rw [hus.out] at hb0 e0 r0 ⊢
 obtain ⟨hb1, hb2⟩ := hb0
 clear k2 k3 k4 k5 hp hp1 hm
 go_enter Tryz.func133, Tryz.ntmps133
 go_wp2_with fail
 refine (Clone_any A0 us.length d0 us _ r0.1 (by omega)).mono ?_
 rintro e w2 ⟨A', c', rfl, hown, hb2_⟩
 have hm2 := hm1.below_ hb2_ lR
 have hv2 := hv1.below_ hb2_ lR
 have ho2 := OM.ofOwnQ hm1 hown lR
 have hk2 : RetRowQ Qo lo b x y g0 us G w (.returned (.slice A' us.length c')) w2 := RetRowQ.mk_ rfl rfl hm2 hv2 (ho2.lo_ (by simp; try omega))
 obtain ⟨G3, O3, oc3, h1, h2, h3, h4⟩ := hk2
 go_wp2
 go_ret
 exact ⟨G3, O3, oc3, h1, h2, h3, h4⟩
set_option maxHeartbeats 1600000 in
theorem line_4 (lo b : Nat) (x y : Int) (g0 : List G3) (G : Option Nat) (op nm : Str) (pts : List Str) (P : Option Addr) (q : Nat) (pt wd vl : Int) (PA : Option Addr) (np pc plo : Nat) (ps : List (List Int)) (w : World) (hm : MkQ Qo w lo b x y g0 G) (hp : NL w b G plo (.slice PA np pc) np ps) (hx : 0 ≤ x ∧ x ≤ 20) (hy : 0 ≤ y ∧ y ≤ 20) (hg : g0.length ≤ 40000) (hlo : lo ≤ w.heap.size) (hn : np = 1) (hb0 : okW (gl ps 0)) :
 Calls Tryz.prog 133 #[.pointer (some ⟨b, 0, none⟩), .agg #[.int .i64 4, .string (bs nm), .string (bs op), .slice P pts.length q, .int .i64 pt, .int .i64 wd, .int .i64 vl], .slice PA np pc] w (RetRowQ Qo lo b x y (nots (x + y) (gl ps 0) g0 (gl ps 0).length).g (nots (x + y) (gl ps 0) g0 (gl ps 0).length).o G w) := by
 subst hn
 have hm1 := hm.alloc_ (.cells #[.int .i64 4, .string (bs nm), .string (bs op), .slice P pts.length q, .int .i64 pt, .int .i64 wd, .int .i64 vl] 89)
 have hp1 := hp.alloc_ (.cells #[.int .i64 4, .string (bs nm), .string (bs op), .slice P pts.length q, .int .i64 pt, .int .i64 wd, .int .i64 vl] 89)
 have hsz : (w.alloc (.cells #[.int .i64 4, .string (bs nm), .string (bs op), .slice P pts.length q, .int .i64 pt, .int .i64 wd, .int .i64 vl] 89)).heap.size = w.heap.size + 1 := by simp
 obtain ⟨pg, A0, d0, rfl, e0, r0, ng, hpg⟩ := hp1.part (k := 0) (by omega)
 obtain ⟨us, hus⟩ := lT (gl ps 0)
 rw [hus.out] at hb0 e0 r0 ⊢
 obtain ⟨n, hnl⟩ := lT (us.length)
 obtain ⟨hb1, hb2⟩ := hb0
 rw [hnl.out] at hb1 hb2 e0 r0 ⊢
 have hlift := fun gs os e w' => RetRowQ.lift (Qo := Qo) (w := w) (w' := w') (lo := lo) (b := b) (x := x) (y := y) (gs := gs) (G := G) (os := os) (e := e) (o := (.cells #[.int .i64 4, .string (bs nm), .string (bs op), .slice P pts.length q, .int .i64 pt, .int .i64 wd, .int .i64 vl] 89))
 have HG : Hid (∀ i, (nots (x + y) us g0 i).g.length = g0.length + i) := zH (nots_g (x + y) us g0)
 have HO : Hid (∀ i, (nots (x + y) us g0 i).o.length = i) := zH (nots_o (x + y) us g0)
 have H0 : Hid (nots (x + y) us g0 0 = ⟨g0, []⟩) := zH rfl
 have HS : Hid (∀ i, nots (x + y) us g0 (i + 1) = ⟨(nots (x + y) us g0 i).g ++ [⟨2, gi us i, 0⟩], (nots (x + y) us g0 i).o ++ [x + y + (nots (x + y) us g0 i).g.length]⟩) := zH fun i => rfl
 generalize nots (x + y) us g0 = S at *
 clear hp hp1 hm
 have hst : MkQ Qo ((w.alloc (.cells #[.int .i64 4, .string (bs nm), .string (bs op), .slice P pts.length q, .int .i64 pt, .int .i64 wd, .int .i64 vl] 89)).alloc (.cells #[] 3)) lo b x y (S 0).g G ∧ OM ((w.alloc (.cells #[.int .i64 4, .string (bs nm), .string (bs op), .slice P pts.length q, .int .i64 pt, .int .i64 wd, .int .i64 vl] 89)).alloc (.cells #[] 3)) b G (w.alloc (.cells #[.int .i64 4, .string (bs nm), .string (bs op), .slice P pts.length q, .int .i64 pt, .int .i64 wd, .int .i64 vl] 89)).heap.size (.slice (some ⟨w.heap.size + 1, 0, none⟩) 0 0) 0 (S 0).o ∧ Mv b G G (w.alloc (.cells #[.int .i64 4, .string (bs nm), .string (bs op), .slice P pts.length q, .int .i64 pt, .int .i64 wd, .int .i64 vl] 89)) ((w.alloc (.cells #[.int .i64 4, .string (bs nm), .string (bs op), .slice P pts.length q, .int .i64 pt, .int .i64 wd, .int .i64 vl] 89)).alloc (.cells #[] 3)) ∧ ((w.alloc (.cells #[.int .i64 4, .string (bs nm), .string (bs op), .slice P pts.length q, .int .i64 pt, .int .i64 wd, .int .i64 vl] 89)).alloc (.cells #[] 3)).cell? ⟨pg, 0, none⟩ = some (.slice A0 n d0) := by
  refine ⟨?_, ?_, (Mv.refl_ b G _).alloc_ _, ?_⟩
  ·rw [H0.out]; exact hm1.alloc_ _
  ·rw [H0.out, ← hsz]; exact OM.new0Q hm1 lR
  ·exact Zdj (bA) e0 lR
 obtain ⟨hm0, ho0, hv0, e2⟩ := hst
 clear hm1 e0
 have hlo2 : lo ≤ (w.alloc (.cells #[.int .i64 4, .string (bs nm), .string (bs op), .slice P pts.length q, .int .i64 pt, .int .i64 wd, .int .i64 vl] 89)).heap.size := by omega
 go_enter Tryz.func133, Tryz.ntmps133
 go_wp2_with fail
 generalize hW : w.alloc (.cells #[.int .i64 4, .string (bs nm), .string (bs op), .slice P pts.length q, .int .i64 pt, .int .i64 wd, .int .i64 vl] 89) = W at *
 clear hW e2
 go_loopw [7, 39] (fun o i wr => ∃ (k : Nat) (O : Option Addr) (oc : Nat) (G1 : Option Nat), k ≤ n ∧ i = .int .i64 k ∧ o = .slice O k oc ∧ MkQ Qo wr lo b x y (S k).g G1 ∧ OM wr b G1 W.heap.size (.slice O k oc) k (S k).o ∧ Mv b G G1 W wr) (fun _ i _ => n - (intOf i).toNat)
 case atStart => exact ⟨0, _, _, _, Nat.zero_le _, rfl, rfl, hm0, ho0, hv0⟩
 case round =>
  obtain ⟨k, O, oc, G1, hk, rfl, rfl, hm1, ho1, hv1⟩ := hrel
  clear hm0 ho0 hv0
  have hz1 := hv1.size
  by_cases hlt : k < n
  ·obtain ⟨ka, oa, rfl, hka, ca⟩ := r0.1.at_ hlt
   obtain ⟨va, hva⟩ := lT (gi us k)
   have hgl := HG.out k
   obtain ⟨SG, SO, hSk⟩ : ∃ SG SO, Hid (S k = ⟨SG, SO⟩) := ⟨_, _, zH rfl⟩
   have hS := zH (HS.out k)
   rw [hSk.out] at hm1 ho1 hgl
   rw [hva.out, hSk.out] at hS
   dsimp only at hm1 ho1 hgl hS
   obtain ⟨N, hN⟩ := lT (x + y + (SG.length : Int))
   rw [hN.out] at hS
   clear ca hka
   obtain ⟨ca, na, hka0⟩ := r0.cellV hv1 hlt hva
   go_wp2_with fail
   refine (Zde lo b x y SG G1 va N _ hm1 hx hy oN (by omega) (by have := hN.out; first | omega | (simp; omega))).mono ?_
   rintro e w2 ⟨G2, rfl, hm2, hv2_⟩
   have hv2 := hv1.trans_ hv2_; have ho2 := ho1.mv hv2_; have hz2 := hv2.size; clear hv1 ho1 hm1 hv2_
   have hoA := ho2.alloc_ (.cells #[.int .i64 N] 3); have hmA := hm2.alloc_ (.cells #[.int .i64 N] 3); have hvA := hv2.alloc_ (.cells #[.int .i64 N] 3)
   go_wp2_with (at_builtin; refine Zae _ rfl _ _ rfl rfl hoA.1 rfl (Zaj _ _ _ _ (by simp)) (by omega) oM ?_; intro A5 c5 w5 hown5 hg5 hat5 hk5)
   have ho5 := hoA.appQ hmA hown5 hat5; have hm5 := hmA.app hoA hg5; have hv5 := hvA.app hoA hg5; clear hoA hmA hvA hown5 hg5 hat5 hk5 hv2 ho2 hm2
   have hS1 : Hid (S (k + 1) = ⟨SG ++ [⟨2, va, 0⟩], SO ++ [N]⟩) := zH (by rw [hS.out])
   have hrel1 : MkQ Qo w5 lo b x y (S (k + 1)).g G2 ∧ OM w5 b G2 W.heap.size (.slice A5 (k + 1) c5) (k + 1) (S (k + 1)).o := by rw [hS1.out]; exact ⟨hm5, ho5⟩
   clear hm5 ho5 hS hS1 hSk hgl hN hva
   go_wp2
   go_roundw
   case rel => exact ⟨k + 1, _, _, _, by omega, by go_num, rfl, hrel1.1, hrel1.2, hv5⟩
   case measure => simp [intOf]; omega
  ·obtain rfl : n = k := Nat.le_antisymm (Nat.le_of_not_lt hlt) hk
   have hk2 : RetRowQ Qo lo b x y (S n).g (S n).o G W (.returned (.slice O n oc)) wr := RetRowQ.mk_ (HO.out n) rfl hm1 hv1 ho1
   obtain ⟨G3, O3, oc3, h1, h2, h3, h4⟩ := hlift _ _ _ _ hk2
   go_wp2
   go_ret
   exact ⟨G3, O3, oc3, h1, h2, h3, h4⟩
theorem maker_line_any (X : Ln) (lo b : Nat) (x y : Int) (g0 : List G3) (G : Option Nat) (P : Option Addr) (q : Nat) (PA : Option Addr) (np pc plo : Nat) (ps : List (List Int)) (w : World) (hm : MkQ Qo w lo b x y g0 G) (hp : NL w b G plo (.slice PA np pc) np ps) (hx : 0 ≤ x ∧ x ≤ 20) (hy : 0 ≤ y ∧ y ≤ 20) (hg : g0.length ≤ 40000) (hlo : lo ≤ w.heap.size)
 (hk : ¬ X.kind = 1) (hf : Fit X ps) :
 Calls Tryz.prog 133 #[.pointer (some ⟨b, 0, none⟩), lnV X P q, .slice PA np pc] w (RetRowQ Qo lo b x y (lineG (x + y) X ps g0).g (lineG (x + y) X ps g0).o G w) := by
 obtain ⟨kd, nm, op, pts, pt, wd, vl⟩ := X
 have hl := hp.len
 dsimp only at hk
 unfold Fit at hf
 unfold lineG
 dsimp only at hf ⊢
 rcases hf with ⟨h, _⟩ | ⟨rfl, h1, h2, h3, h4, h5⟩ | ⟨rfl, h1, h2, h3, h4, h5⟩ | ⟨rfl, h1, h2⟩ | ⟨rfl, h1, h2, h3, h4⟩ | ⟨rfl, h1, h2⟩
 ·exact absurd h hk
 ·exact line_2 lo b x y g0 G op nm pts P q pt wd vl PA np pc plo ps w hm hp hx hy hg hlo h1 h2 h3 h4
 ·exact line_3 lo b x y g0 G op nm pts P q pt wd vl PA np pc plo ps w hm hp hx hy hg hlo (by omega) h2 h3 h4 h5
 ·exact line_4 lo b x y g0 G op nm pts P q pt wd vl PA np pc plo ps w hm hp hx hy hg hlo (by omega) h2
 ·exact line_5 lo b x y g0 G op nm pts P q pt wd vl PA np pc plo ps w hm hp hx hy hg hlo (by omega) h2 h3 h4
 ·exact line_6 6 lo b x y g0 G op nm pts P q pt wd vl PA np pc plo ps w hm hp hx hy hg hlo (by decide) (by decide) (by decide) (by decide) (by omega) h2
theorem Zbb (x : Int) (w : World) : Calls Tryz.prog 148 #[.int .i64 x] w fun e w' => e = .returned (.bool (inB 1 10 x)) ∧ w = w' := by
 cases h : inB 1 10 x with
 | true =>
  go_enter Tryz.func148, Tryz.ntmps148
  go_wp2_with fail
  refine (Zap x 1 10 true h _).mono ?_
  rintro e w1 ⟨rfl, rfl⟩
  go_wp2
  go_ret
  exact ⟨rfl, rfl⟩
 | false =>
  go_enter Tryz.func148, Tryz.ntmps148
  go_wp2_with fail
  refine (Zap x 1 10 false h _).mono ?_
  rintro e w1 ⟨rfl, rfl⟩
  go_wp2
  go_ret
  exact ⟨rfl, rfl⟩
theorem Zdk {x : List UInt8} (h : ¬ x = []) : ((⟨#[]⟩ : ByteArray).toList == (bs x).toList) = false := by show ((bs []).toList == (bs x).toList) = false; rw [Zbp, Zbp]; simp; exact h
theorem Zcp {x : List UInt8} (h : ¬ x = []) : ((⟨#[]⟩ : ByteArray).toList != (bs x).toList) = true := by rw [bne, Zdk h]; rfl
theorem eb_is : ((⟨#[]⟩ : ByteArray).toList == (bs []).toList) = true := by show ((bs []).toList == (bs []).toList) = true; simp
theorem Zeg : ((⟨#[]⟩ : ByteArray).toList != (bs []).toList) = false := by rw [bne, eb_is]; rfl
theorem Zdm {x : List UInt8} (h : ¬ x = []) : (([] : List UInt8) == (bs x).toList) = false := by rw [Zbp]; simp; exact h
theorem Zcq {x : List UInt8} (h : ¬ x = []) : (([] : List UInt8) != (bs x).toList) = true := by rw [bne, Zdm h]; rfl
theorem Zci (op : Str) (u : Int) (w : World) (hu : 0 ≤ u ∧ u ≤ 10) (hop : shortS op) : Calls Tryz.prog 149 #[.string (bs op), .int .i64 u] w fun e w' => e = .returned (.int .i64 (twoW op u u)) ∧ w = w' := (resultWidth_any op u w hu hop).mono fun _ _ ⟨h1, h2⟩ => ⟨h1, h2.symm⟩
theorem Zdl {x y : List UInt8} (h : x = y) : ((bs x).toList != y) = false := by rw [Zbp, h]; simp
theorem Zbd {x y : List UInt8} (h : ¬ x = y) : ((bs x).toList != y) = true := by rw [Zbp]; simp [h]
set_option maxRecDepth 100000 in
set_option maxHeartbeats 4000000 in
theorem lineWidth_else (kd : Int) (k1 : ¬ kd = 1) (k2 : ¬ kd = 2) (k3 : ¬ kd = 3) (k4 : ¬ kd = 4) (k5 : ¬ kd = 5) (k6 : ¬ kd = 6) (op nm : Str) (ps : List Str) (P : Option Addr) (q : Nat) (pt wd vl : Int) (B : Option Addr) (m c : Nat) (ws : List Int) (w : World) (hb : RI w B m ws) (hws : ∀ z ∈ ws, 0 ≤ z ∧ z ≤ 10) (hnm : shortS nm) (hop : shortS op) (hm : m ≤ 2097152) :
 Calls Tryz.prog 127 #[.agg #[.int .i64 kd, .string (bs nm), .string (bs op), .slice P ps.length q, .int .i64 pt, .int .i64 wd, .int .i64 vl], .slice B m c] w fun e w' => e = .returned (.int .i64 (lineW ⟨kd, nm, op, ps, pt, wd, vl⟩ ws)) ∧ Below w.heap.size w w' := by
 have hlw := hb.len
 have eb1 := eb_is
 have eb2 := Zeg
 have eb3 : (bs []).toList = [] := Zbp []
 have t1 : (kd == 1) = false := by simp [k1]
 have t2 : (kd == 2) = false := by simp [k2]
 have t3 : (kd == 3) = false := by simp [k3]
 have t4 : (kd == 4) = false := by simp [k4]
 have t5 : (kd == 5) = false := by simp [k5]
 have t6 : (kd == 6) = false := by simp [k6]
 by_cases hn : nm = []
 ·have tn := bs_is hn
  have tn2 := Zdl hn
  have HR : Hid (lineW ⟨kd, nm, op, ps, pt, wd, vl⟩ ws = 0) := zH (by simp [lineW, bareB, partsN, kindW, k1, k2, k3, k4, k5, k6, hn, nmB])
  clear k1 k2 k3 k4 k5 k6 hn
  go_enter Tryz.func127, Tryz.ntmps127
  go_wp2
  all_goals (go_ret; exact ⟨by rw [HR.out]; rfl, fin1⟩)
 ·have tn := Zac hn
  have tn2 := Zbd hn
  cases hB : nmB nm with
  | false =>
   have HB := zH hB
   have HR : Hid (lineW ⟨kd, nm, op, ps, pt, wd, vl⟩ ws = 0) := zH (by simp [lineW, bareB, partsN, kindW, k1, k2, k3, k4, k5, k6, hn, hB])
   clear k1 k2 k3 k4 k5 k6 hn hB
   go_enter Tryz.func127, Tryz.ntmps127
   go_wp2_with fail
   refine (Zag nm _ hnm).mono ?_
   rintro e w9 ⟨rfl, rfl⟩
   rw [HB.out]
   go_wp2
   all_goals (go_ret; exact ⟨by rw [HR.out]; rfl, fin1⟩)
  | true =>
   have HB := zH hB
   by_cases hm0 : m = 0
   ·subst hm0
    by_cases eop : op = []
    ·subst eop
     by_cases ept : pt = 0
     ·subst ept
      by_cases ewd : wd = 0
      ·subst ewd
       by_cases evl : vl = 0
       ·subst evl
        have HR : Hid (lineW ⟨kd, nm, [], ps, 0, 0, 0⟩ ws = 0) := zH (by simp [lineW, kindW, k1, k2, k3, k4, k5, k6])
        clear k1 k2 k3 k4 k5 k6 hn hB
        go_enter Tryz.func127, Tryz.ntmps127
        go_wp2_with fail
        refine (Zag nm _ hnm).mono ?_
        rintro e w9 ⟨rfl, rfl⟩
        rw [HB.out]
        go_wp2
        all_goals (go_ret; exact ⟨by rw [HR.out]; rfl, fin1⟩)
       ·have tovl : (vl == 0) = false := by simp [evl]
        have tnvl : ((0 : Int) == vl) = false := by simp; omega
        have tbvl : ((0 : Int) != vl) = true := by simp; omega
        have tcvl : (vl != 0) = true := by simp; omega
        have HR : Hid (lineW ⟨kd, nm, [], ps, 0, 0, vl⟩ ws = 0) := zH (by simp [lineW, bareB, partsN, kindW, k1, k2, k3, k4, k5, k6, hn, hB, evl])
        clear k1 k2 k3 k4 k5 k6 hn hB evl
        go_enter Tryz.func127, Tryz.ntmps127
        go_wp2_with fail
        refine (Zag nm _ hnm).mono ?_
        rintro e w9 ⟨rfl, rfl⟩
        rw [HB.out]
        go_wp2
        all_goals (go_ret; exact ⟨by rw [HR.out]; rfl, fin1⟩)
      ·have towd : (wd == 0) = false := by simp [ewd]
       have tnwd : ((0 : Int) == wd) = false := by simp; omega
       have tbwd : ((0 : Int) != wd) = true := by simp; omega
       have tcwd : (wd != 0) = true := by simp; omega
       have HR : Hid (lineW ⟨kd, nm, [], ps, 0, wd, vl⟩ ws = 0) := zH (by simp [lineW, bareB, partsN, kindW, k1, k2, k3, k4, k5, k6, hn, hB, ewd])
       clear k1 k2 k3 k4 k5 k6 hn hB ewd
       go_enter Tryz.func127, Tryz.ntmps127
       go_wp2_with fail
       refine (Zag nm _ hnm).mono ?_
       rintro e w9 ⟨rfl, rfl⟩
       rw [HB.out]
       go_wp2
       all_goals (go_ret; exact ⟨by rw [HR.out]; rfl, fin1⟩)
     ·have topt : (pt == 0) = false := by simp [ept]
      have tnpt : ((0 : Int) == pt) = false := by simp; omega
      have tbpt : ((0 : Int) != pt) = true := by simp; omega
      have tcpt : (pt != 0) = true := by simp; omega
      have HR : Hid (lineW ⟨kd, nm, [], ps, pt, wd, vl⟩ ws = 0) := zH (by simp [lineW, bareB, partsN, kindW, k1, k2, k3, k4, k5, k6, hn, hB, ept])
      clear k1 k2 k3 k4 k5 k6 hn hB ept
      go_enter Tryz.func127, Tryz.ntmps127
      go_wp2_with fail
      refine (Zag nm _ hnm).mono ?_
      rintro e w9 ⟨rfl, rfl⟩
      rw [HB.out]
      go_wp2
      all_goals (go_ret; exact ⟨by rw [HR.out]; rfl, fin1⟩)
    ·have to1 := Zdk eop
     have to2 := Zcp eop
     have to3 := Zac eop
     have to4 := Zbd eop
     have to5 := Zdm eop
     have to6 := Zcq eop
     have HR : Hid (lineW ⟨kd, nm, op, ps, pt, wd, vl⟩ ws = 0) := zH (by simp [lineW, bareB, partsN, kindW, k1, k2, k3, k4, k5, k6, hn, hB, eop])
     clear k1 k2 k3 k4 k5 k6 hn hB eop
     go_enter Tryz.func127, Tryz.ntmps127
     go_wp2_with fail
     refine (Zag nm _ hnm).mono ?_
     rintro e w9 ⟨rfl, rfl⟩
     rw [HB.out]
     go_wp2
     all_goals (go_ret; exact ⟨by rw [HR.out]; rfl, fin1⟩)
   ·have tm : ((m : Int) != 0) = true := by simp; omega
    have HR : Hid (lineW ⟨kd, nm, op, ps, pt, wd, vl⟩ ws = 0) := zH (by simp [lineW, bareB, partsN, kindW, k1, k2, k3, k4, k5, k6, hn, hB])
    clear k1 k2 k3 k4 k5 k6 hn hB
    go_enter Tryz.func127, Tryz.ntmps127
    go_wp2_with fail
    refine (Zag nm _ hnm).mono ?_
    rintro e w9 ⟨rfl, rfl⟩
    rw [HB.out]
    go_wp2
    all_goals (go_ret; exact ⟨by rw [HR.out]; rfl, fin1⟩)
end Go.Proofs.YtenknpcbbcbciaaGreat
