/- The contract of AndsByLine. Texts below 2^21 bytes. Plain facts of FnWiresOf: a name's wires are as many as its width says, the lines of gates rise, the gates GtAnd of lines add up. No program in sight. Drawn programs with a name or a gate's number; a name's width; the sum of numbers. Steps of the reference's coMake, and what it returns. No condition. -/
import Derived.Test.YtenknpcbbcbciaaGreatQP35
import Derived.Test.YtenknpcbbcbciaaGreatQP32
import Derived.Test.YtenknpcbbcbciaaGreatQP31
import Derived.Test.YtenknpcbbcbciaaGreatQP23
import Derived.Test.YtenknpcbbcbciaaGreatQP29
namespace Go.Proofs.YtenknpcbbcbciaaGreat
open Go.RowKit
set_option linter.unusedVariables false
set_option linter.unusedSimpArgs false
def anF (l : List Ln) : Option (List Int) := if coB l = true then some (andsK (cc l) l.length) else none
theorem kind_of {g : G3} {n : Int} (h : gateB g n = true) : 0 ≤ g.k ∧ g.k ≤ 3 := by
  unfold gateB at h
  split at h
  · omega
  split at h
  · omega
  · simp only [Bool.and_eq_true, decide_eq_true_eq] at h; omega
theorem kinds_of {n : Int} {gs : List G3} {k : Nat} (h : gatesB n gs k = true) (j : Nat) (hj : j < k) : 0 ≤ (gg gs j).k ∧ (gg gs j).k ≤ 3 := kind_of (List.all_eq_true.1 h j (List.mem_range.2 hj))
theorem OwnG.cap {w : World} {lo hi n c : Nat} {A : Option Addr} {gs : List G3} (h : OwnG w lo hi (.slice A n c) n gs) : n ≤ c := by
  rcases h.1.2 with ⟨hv, h0⟩ | ⟨g, cap, cur, hv, _, _, hc, _⟩
  · omega
  · simp only [Value.slice.injEq, true_and] at hv
    omega
theorem Own.cap {w : World} {lo hi n c : Nat} {A : Option Addr} {xs : List Int} (h : Own w lo hi (.slice A n c) n xs) : n ≤ c := by
  rcases h.1.2 with ⟨hv, h0⟩ | ⟨g, cap, cur, hv, _, _, hc, _⟩
  · omega
  · simp only [Value.slice.injEq, true_and] at hv
    omega
theorem slice_gates (Ag : Option Addr) (n cg a b : Nat) (hab : a ≤ b) (hb : b ≤ n) (hcap : n ≤ cg) : ∃ TA : Option Addr, (∀ (w : World) (gs : List G3), RG w Ag n gs → RG w TA (b - a) (cutG gs a b)) ∧
    ∀ W : World, (Instr.slice 36 (.slice Ag n cg) (some (.int .i64 a)) (some (.int .i64 b)) none).run Tryz.prog W = .ok (.slice TA (b - a) (cg - a)) W := by
  have hu : Tryz.prog.elem 36 = 104 := by kernel_rfl
  refine ⟨if cg = a then Ag else Ag.map (·.add (a * 3)), fun w gs h => ⟨by rw [cutG_len (by rw [h.1]; exact hb) hab], fun hn => ?_⟩, fun W => ?_⟩
  · obtain ⟨q, o, hA, hlt, hc⟩ := h.2 (by omega)
    subst hA
    rw [if_neg (by omega)]
    refine ⟨q, o + a * 3, ?_, hlt, fun j hj => ?_⟩
    · show some ((⟨q, o, none⟩ : Addr).add (a * 3)) = _
      unfold Addr.add
      split
      · rename_i h0; rw [h0]; rfl
      · rfl
    · have h1 := hc (a + j) (by omega)
      rw [cutG_at (by rw [h.1]; exact hb) hj, show o + a * 3 + j * 3 = o + (a + j) * 3 by omega]
      exact h1
  · rw [run_slice_lh W 36 _ _ _ (by rw [hu]; exact Tryz.underlying36) .i64 .i64 (a : Int) (b : Int) (by omega) (by omega) (by omega)]
    rw [hu]
    go_simp
set_option maxRecDepth 100000 in
set_option maxHeartbeats 3200000 in
theorem AndsByLine_any (A : Option Addr) (n c : Nat) (l : List Ln) (w : World) (ha : RLn w A n l) (hn : n ≤ 2097152) (hcap : n ≤ c) (hsh : ∀ x ∈ l, shortL x) :
    Calls Tryz.prog 36 #[.slice A n c] w (RetO w (anF l)) := by
  cases hg : coB l with
  | false =>
    have HR : Hid (anF l = none) := Lib.hid (if_neg (fun h => by rw [hg] at h; cases h))
    go_enter Tryz.func36, Tryz.ntmps36
    go_wp2_with fail
    refine (compileValid_no A n c l _ ha hn hcap hsh hg).mono ?_
    rintro e w1 ⟨rfl, hb1⟩
    have hB := hb1.alloc hb1.size (.cells #[.int .i64 0, .int .i64 0, .slice none 0 0, .slice none 0 0, .slice none 0 0, .slice none 0 0] 63)
    clear hg
    go_wp2
    go_ret2
    exact RetO.none_ hB HR.out rfl
  | true =>
    have HR : Hid (anF l = some (andsK (cc l) l.length)) := Lib.hid (if_pos hg)
    obtain ⟨hgd, hcb⟩ := coB_good hg
    obtain ⟨_, _, hng, _, hgat, _⟩ := circB_parts hcb
    have hkd := Lib.hid (kinds_of hgat)
    have hl := ha.len
    subst hl
    have hn30 := hgd.1
    have hei : Hid (EInv l.length (cc l)) := Lib.hid (cS_es l _ _ l.length)
    go_enter Tryz.func36, Tryz.ntmps36
    go_wp2_with fail
    refine (compileValid_ok A l.length c l _ ha hn hcap hsh hg).mono ?_
    rintro e w1 hT
    obtain ⟨Ag, cg, Oa, oc, Ea, ec, Wa, wc, bl, rfl, hC, hE, hW, hb1⟩ := hT
    have al1 : Below w1.heap.size w1 (w1.alloc (.cells #[.int .i64 (sumI (insL l 0)), .int .i64 (sumI (insL l 1)), .slice Ag (cc l).g.length cg, .slice Oa (cc l).os.length oc, .slice Wa l.length wc, .slice Ea l.length ec] 63)) := (Below.refl _ _).alloc (Nat.le_refl _) _
    have hx : Bx6 (w1.alloc (.cells #[.int .i64 (sumI (insL l 0)), .int .i64 (sumI (insL l 1)), .slice Ag (cc l).g.length cg, .slice Oa (cc l).os.length oc, .slice Wa l.length wc, .slice Ea l.length ec] 63)) w1.heap.size _ _ _ _ _ _ := Bx6.new w1 (.int .i64 (sumI (insL l 0))) (.int .i64 (sumI (insL l 1))) (.slice Ag (cc l).g.length cg) (.slice Oa (cc l).os.length oc) (.slice Wa l.length wc) (.slice Ea l.length ec) 63
    have hE1 := hE.reads.below al1 (Nat.le_refl _)
    have hG1 := hC.1.reads.below al1 (Nat.le_refl _)
    have hcg := hC.1.cap
    have hB1 := hb1.trans (al1.mono hb1.size)
    have hs1 : (w1.alloc (.cells #[.int .i64 (sumI (insL l 0)), .int .i64 (sumI (insL l 1)), .slice Ag (cc l).g.length cg, .slice Oa (cc l).os.length oc, .slice Wa l.length wc, .slice Ea l.length ec] 63)).heap.size = w1.heap.size + 1 := by simp
    have hb1s := hb1.size
    clear hC hE hW al1 hcb hg hgat ha hsh hgd hb1
    obtain ⟨ng, hgl⟩ : ∃ ng, Hid ((cc l).g.length = ng) := ⟨_, Lib.hid rfl⟩
    obtain ⟨s, hs⟩ : ∃ s, Hid (cc l = s) := ⟨_, Lib.hid rfl⟩
    rw [hs.out] at hE1 hG1 hei hkd hng hgl hcg HR hx hB1 hs1 ⊢
    rw [hgl.out] at hE1 hG1 hkd hng hcg hx hB1 hs1 ⊢
    obtain ⟨k0, k1, k2, k3, k4, k5⟩ := hx
    have al2 : Below (w1.alloc (.cells #[.int .i64 (sumI (insL l 0)), .int .i64 (sumI (insL l 1)), .slice Ag ng cg, .slice Oa s.os.length oc, .slice Wa l.length wc, .slice Ea l.length ec] 63)).heap.size (w1.alloc (.cells #[.int .i64 (sumI (insL l 0)), .int .i64 (sumI (insL l 1)), .slice Ag ng cg, .slice Oa s.os.length oc, .slice Wa l.length wc, .slice Ea l.length ec] 63)) ((w1.alloc (.cells #[.int .i64 (sumI (insL l 0)), .int .i64 (sumI (insL l 1)), .slice Ag ng cg, .slice Oa s.os.length oc, .slice Wa l.length wc, .slice Ea l.length ec] 63)).alloc (.cells #[] 3)) := (Below.refl _ _).alloc (Nat.le_refl _) _
    have e2 := cell_bel k2 al2
    have e5 := cell_bel k5 al2
    have hown0 : Own ((w1.alloc (.cells #[.int .i64 (sumI (insL l 0)), .int .i64 (sumI (insL l 1)), .slice Ag ng cg, .slice Oa s.os.length oc, .slice Wa l.length wc, .slice Ea l.length ec] 63)).alloc (.cells #[] 3)) (w1.heap.size + 1) ((w1.alloc (.cells #[.int .i64 (sumI (insL l 0)), .int .i64 (sumI (insL l 1)), .slice Ag ng cg, .slice Oa s.os.length oc, .slice Wa l.length wc, .slice Ea l.length ec] 63)).alloc (.cells #[] 3)).heap.size (.slice (some ⟨(w1.alloc (.cells #[.int .i64 (sumI (insL l 0)), .int .i64 (sumI (insL l 1)), .slice Ag ng cg, .slice Oa s.os.length oc, .slice Wa l.length wc, .slice Ea l.length ec] 63)).heap.size, 0, none⟩) 0 0) 0 (andsK s 0) := by simpa [andsK, tab_zero] using Own_new0 (w1.alloc (.cells #[.int .i64 (sumI (insL l 0)), .int .i64 (sumI (insL l 1)), .slice Ag ng cg, .slice Oa s.os.length oc, .slice Wa l.length wc, .slice Ea l.length ec] 63)) (w1.heap.size + 1) (by omega)
    rw [hs1] at hown0 al2
    have hsV : ((w1.alloc (.cells #[.int .i64 (sumI (insL l 0)), .int .i64 (sumI (insL l 1)), .slice Ag ng cg, .slice Oa s.os.length oc, .slice Wa l.length wc, .slice Ea l.length ec] 63)).alloc (.cells #[] 3)).heap.size = w1.heap.size + 1 + 1 := by simp
    go_wp2
    generalize hVV : (w1.alloc (.cells #[.int .i64 (sumI (insL l 0)), .int .i64 (sumI (insL l 1)), .slice Ag ng cg, .slice Oa s.os.length oc, .slice Wa l.length wc, .slice Ea l.length ec] 63)).alloc (.cells #[] 3) = V at *
    generalize hWW : (w1.alloc (.cells #[.int .i64 (sumI (insL l 0)), .int .i64 (sumI (insL l 1)), .slice Ag ng cg, .slice Oa s.os.length oc, .slice Wa l.length wc, .slice Ea l.length ec] 63)) = W1 at *
    clear hVV hWW
    go_loopw [6, 7, 21] (fun v f i wr => ∃ (k : Nat) (A' : Option Addr) (c' : Nat), k ≤ l.length ∧ i = .int .i64 k ∧ f = .int .i64 (endN s.es k : Nat) ∧ v = .slice A' k c' ∧ Own wr (w1.heap.size + 1) wr.heap.size (.slice A' k c') k (andsK s k) ∧ Below (w1.heap.size + 1) W1 wr) (fun _ _ i _ => l.length - (intOf i).toNat)
    case atStart => exact ⟨0, _, _, Nat.zero_le _, rfl, rfl, rfl, hown0, al2⟩
    case round =>
      clear hown0 al2
      obtain ⟨k, A', c', hk, rfl, rfl, rfl, hown, hbw⟩ := hrel
      by_cases hlt : k < l.length
      · obtain ⟨b, o, rfl, hbB, c1⟩ := (hE1.below hbw (by omega)).at_ hlt
        obtain ⟨n1, n2, n3⟩ := endN_le hei.out hlt
        have hsn : Hid (andsK s (k + 1) = andsK s k ++ [andN s k]) := Lib.hid (andsK_snoc s k)
        have han : Hid (andN s k = gi (cntK (cutG s.g (endN s.es k) (endN s.es (k + 1))) (endN s.es (k + 1) - endN s.es k)) 1) := Lib.hid rfl
        rw [hgl.out] at n2
        rw [n3] at c1
        obtain ⟨a, ha⟩ : ∃ a, Hid (endN s.es k = a) := ⟨_, Lib.hid rfl⟩
        obtain ⟨d, hd⟩ : ∃ d, Hid (endN s.es (k + 1) = d) := ⟨_, Lib.hid rfl⟩
        rw [ha.out] at n1 han ⊢
        rw [hd.out] at n1 n2 han c1
        clear n3
        obtain ⟨TA, hT1, hT2⟩ := slice_gates Ag ng cg a d n1 n2 hcg
        have hr := hT1 wr s.g (hG1.below hbw (by omega))
        have hkc : ∀ j, j < d - a → 0 ≤ (gg (cutG s.g a d) j).k ∧ (gg (cutG s.g a d) j).k ≤ 3 := fun j hj => by rw [cutG_at (by rw [hgl.out]; exact n2) hj]; exact hkd.out _ (by omega)
        have e2w := hbw.cell (p := ⟨w1.heap.size, 2, none⟩) (by show w1.heap.size < w1.heap.size + 1; omega) |>.trans k2
        have hz := hbw.size
        clear hT1 hk
        go_wp2_with fail
        refine (countKinds_any TA (d - a) (cg - a) (cutG s.g a d) _ hr (by omega) hkc).mono ?_
        rintro e w4 hT
        obtain ⟨A4, c4, rfl, ho4, hb4⟩ := RetI.open_ (n := 4) hT (cntK_len _ _)
        obtain ⟨b4, o4, hA4, hb4B, q1⟩ := ho4.reads.at_ (k := 1) (by omega)
        subst hA4
        rw [← han.out] at q1
        obtain ⟨z, hzz⟩ : ∃ z, Hid (andN s k = z) := ⟨_, Lib.hid rfl⟩
        rw [hzz.out] at q1 hsn
        have hown4 := hown.below hb4 (.inl (Nat.le_refl _))
        have hbw4 := hbw.trans (hb4.mono (by omega))
        have hz4 := hb4.size
        have hownA := hown4.alloc (.cells #[.int .i64 z] 3)
        have hbA := hbw4.alloc (by omega) (.cells #[.int .i64 z] 3)
        go_wp2_with (at_builtin; refine wpList_app _ rfl _ _ rfl rfl hownA rfl (RI_one _ _ _ _ (by simp)) (by omega) (by first | omega | (simp; done) | (simp; omega)) ?_; intro A5 c5 w5 hown5 hg5 hat5)
        have hb5 := below_app hbA hownA hg5 (by simp; omega) (by omega)
        rw [← hsn.out] at hown5
        clear hownA hbA hg5 hat5 hown hbw hown4 hbw4 hT hr hkc
        go_wp2
        go_roundw
        case rel => exact ⟨k + 1, _, _, by omega, by go_num, by rw [hd.out], rfl, hown5, hb5⟩
        case measure => simp [intOf]; omega
      · obtain hkl : l.length = k := by omega
        have hBf := hB1.trans (hbw.mono (by have := hb1s; omega))
        rw [hkl] at HR
        go_wp2
        go_ret2
        exact RetO.some_ hBf HR.out (andsK_len _ _) rfl (hown.lo_ (by omega))
theorem wi_wid {l : List Ln} {nm : Str} {ws : List Int} (h : wiF l nm = some ws) : goodP l ∧ 0 ≤ iFind l nm ∧ iFind l nm < l.length ∧ (ws.length : Int) = gi (wids sW l) (iFind l nm).toNat := by
  unfold wiF at h
  by_cases hc : coB l = true ∧ 0 ≤ iFind l nm
  · rw [if_pos hc] at h
    injection h with h
    obtain ⟨hg, _⟩ := coB_good hc.1
    have hlt : iFind l nm < l.length := by
      unfold iFind
      split
      · omega
      · exact (lfind_bd _ _).2
    refine ⟨hg, hc.2, hlt, ?_⟩
    rw [← h]
    exact ((cS_inv _ _ hg.2.1 l.length (Nat.le_refl _)).wid (iFind l nm).toNat (by omega)).1
  · rw [if_neg hc] at h; cases h
theorem idxP_le {p q : Int → Bool} {xs : List Int} (h : ∀ x, q x = true → p x = true) (hf : xs.any q = true) : xs.any p = true ∧ idxP p xs ≤ idxP q xs := by
  obtain ⟨x, hx, hqx⟩ := List.any_eq_true.1 hf
  have hp : xs.any p = true := List.any_eq_true.2 ⟨x, hx, h x hqx⟩
  refine ⟨hp, ?_⟩
  unfold idxP
  rw [if_pos hf, if_pos hp]
  have h1 : xs.findIdx q < xs.length := List.findIdx_lt_length_of_exists ⟨x, hx, hqx⟩
  have h2 := List.findIdx_getElem (w := h1)
  have hle : xs.findIdx p ≤ xs.findIdx q := by
    rcases Nat.lt_or_ge (xs.findIdx q) (xs.findIdx p) with h3 | h3
    · have h4 := List.not_of_lt_findIdx h3
      rw [h _ h2] at h4; cases h4
    · exact h3
  omega
theorem lg_mono {l : List Ln} {k i : Int} (h : lgF l k = some i) (hk : 0 < k) : ∃ j, lgF l (k - 1) = some j ∧ j ≤ i := by
  unfold lgF at h ⊢
  by_cases hc : coB l = true ∧ inB 0 (((cc l).g.length : Int) - 1) k = true
  · rw [if_pos hc] at h
    injection h with h
    have h2 := inB_iff.1 hc.2
    rw [if_pos ⟨hc.1, inB_iff.2 (by omega)⟩]
    refine ⟨_, rfl, ?_⟩
    rw [← h]
    have hei := cS_es l (sumI (insL l 0)) (sumI (insL l 1)) l.length
    have hne : 0 < l.length := by
      rcases Nat.eq_zero_or_pos l.length with h0 | h0
      · have : (cc l).g = [] := by unfold cc; rw [h0]; rfl
        rw [this] at h2; simp at h2; omega
      · exact h0
    have hlast := hei.last (l.length - 1) (by omega)
    have hl := hei.len
    have hf : (cc l).es.any (fun e => decide (k < e)) = true := List.any_eq_true.2 ⟨gi (cc l).es (l.length - 1), gi_mem (by show _ < (cS l _ _ l.length).es.length; omega), by
      have : gi (cc l).es (l.length - 1) = ((cc l).g.length : Int) := hlast
      rw [this]; exact decide_eq_true (by omega)⟩
    exact (idxP_le (fun x hx => by have := of_decide_eq_true hx; exact decide_eq_true (by omega)) hf).2
  · rw [if_neg hc] at h; cases h
theorem tab_takeW {k n : Nat} (f : Nat → Int) (h : k ≤ n) : (tab n f).take k = tab k f := by
  unfold tab
  rw [← List.map_take, List.take_range, Nat.min_eq_left h]
theorem gg_kinds {gs : List G3} {X : Int} (h : gatesB X gs gs.length = true) : ∀ j, 0 ≤ (gg gs j).k ∧ (gg gs j).k ≤ 3 := fun j => by
  rcases Nat.lt_or_ge j gs.length with h1 | h1
  · exact kinds_of h j h1
  · unfold gg; rw [List.getD_eq_getElem?_getD, List.getElem?_eq_none (by omega)]; decide
theorem cut_kinds {gs : List G3} (h : ∀ j, 0 ≤ (gg gs j).k ∧ (gg gs j).k ≤ 3) (a b : Nat) : ∀ j, 0 ≤ (gg (cutG gs a b) j).k ∧ (gg (cutG gs a b) j).k ≤ 3 := fun j => by
  unfold cutG gg
  rw [List.getD_eq_getElem?_getD, List.getElem?_take]
  split
  · rw [List.getElem?_drop, ← List.getD_eq_getElem?_getD]; exact h (a + j)
  · decide
theorem cnt_cut {gs : List G3} (h : ∀ j, 0 ≤ (gg gs j).k ∧ (gg gs j).k ≤ 3) {a b : Nat} (hb : b ≤ gs.length) (hab : a ≤ b) : gi (cntK (cutG gs a b) (b - a)) 1 = gi (cntK gs b) 1 - gi (cntK gs a) 1 := by
  have key : ∀ n, n ≤ b - a → gi (cntK (cutG gs a b) n) 1 = gi (cntK gs (a + n)) 1 - gi (cntK gs a) 1 := by
    intro n
    induction n with
    | zero => intro _; rw [Nat.add_zero, Int.sub_self]; rfl
    | succ n ih =>
      intro hn
      rw [cnt_step (cut_kinds h a b), ih (by omega), ← Nat.add_assoc, cnt_step h, cutG_at hb (by omega)]
      omega
  rw [key (b - a) (Nat.le_refl _), show a + (b - a) = b by omega]
theorem ands_sum {s : Cs} {n : Nat} (he : EInv n s) (h : ∀ j, 0 ≤ (gg s.g j).k ∧ (gg s.g j).k ≤ 3) : ∀ k, k ≤ n → sumI (andsK s k) = gi (cntK s.g (endN s.es k)) 1 := by
  intro k
  induction k with
  | zero => intro _; rfl
  | succ k ih =>
    intro hk
    obtain ⟨h1, h2, _⟩ := endN_le he (by omega : k < n)
    rw [andsK_snoc, sumI_snoc, ih (by omega)]
    unfold andN
    rw [cnt_cut h h2 h1]
    omega
theorem an_sum {l : List Ln} {zs : List Int} (h : anF l = some zs) : coB l = true ∧ zs.length = l.length ∧ sumI zs = gi (cntK (cc l).g (cc l).g.length) 1 ∧ ∀ k, k ≤ zs.length → 0 ≤ sumI (zs.take k) ∧ sumI (zs.take k) ≤ 300 := by
  unfold anF at h
  by_cases hc : coB l = true
  · rw [if_pos hc] at h
    injection h with h
    obtain ⟨hg, hcb⟩ := coB_good hc
    obtain ⟨_, _, hng, _, hgat, _⟩ := circB_parts hcb
    have hk := gg_kinds hgat
    have hei := cS_es l (sumI (insL l 0)) (sumI (insL l 1)) l.length
    have hs := ands_sum (s := cc l) hei hk
    have hend : endN (cc l).es l.length = (cc l).g.length := by
      rcases Nat.eq_zero_or_pos l.length with h0 | h0
      · unfold cc; rw [h0]; rfl
      · obtain ⟨m, hm⟩ : ∃ m, l.length = m + 1 := ⟨l.length - 1, by omega⟩
        have := hei.last m (by omega)
        rw [hm]
        show (gi (cc l).es m).toNat = _
        have e : gi (cc l).es m = ((cc l).g.length : Int) := this
        rw [e]; simp
    have hal := andsK_len (cc l) l.length
    rw [← h]
    refine ⟨hc, hal, by rw [hs l.length (Nat.le_refl _), hend], fun k hkl => ?_⟩
    rw [hal] at hkl
    have ht : (andsK (cc l) l.length).take k = andsK (cc l) k := by
      unfold andsK; exact tab_takeW _ hkl
    rw [ht, hs k hkl]
    have he2 : endN (cc l).es k ≤ (cc l).g.length := by
      cases k with
      | zero => exact Nat.zero_le _
      | succ k => exact (endN_le hei (by omega : k < l.length)).2.1
    have := cntK_bd (cc l).g (endN (cc l).es k) 1
    omega
  · rw [if_neg hc] at h; cases h
attribute [local go_sem] sepAt sepUpon pureAt pureUpon
theorem qSum_any (A : Option Addr) (n c : Nat) (xs : List Int) (w : World) (ha : RI w A n xs) (hn : n ≤ 2097152) (hb : ∀ k, k ≤ n → 0 ≤ sumI (xs.take k) ∧ sumI (xs.take k) ≤ 1000000) :
    Calls Tryz.prog 29 #[.slice A n c] w fun e w' => e = .returned (.int .i64 (sumI xs)) ∧ w = w' := by
  have hl := ha.1
  go_enter Tryz.func29, Tryz.ntmps29
  go_wp2
  go_loopw [3, 8] (fun v i wr => ∃ k : Nat, k ≤ n ∧ i = .int .i64 k ∧ v = .int .i64 (sumI (xs.take k)) ∧ wr = w) (fun _ i _ => n - (intOf i).toNat)
  case atStart => exact ⟨0, Nat.zero_le _, rfl, rfl, rfl⟩
  case round =>
    obtain ⟨k, hk, rfl, rfl, rfl⟩ := hrel
    by_cases hlt : k < n
    · obtain ⟨b, o, rfl, hbB, e1⟩ := ha.at_ hlt
      have hs : Hid (sumI (xs.take (k + 1)) = sumI (xs.take k) + gi xs k) := Lib.hid (by rw [gi_take_snoc (by omega), sumI_snoc])
      have h1 := hb k hk
      have h2 := hb (k + 1) hlt
      rw [hs.out] at h2
      clear hb
      generalize sumI (xs.take k) = S at *
      generalize gi xs k = X at *
      have hw : IntKind.i64.wrap (S + X) = S + X := by rw [IntKind.wrap_i64] <;> omega
      go_wp2
      go_roundw
      case rel => exact ⟨k + 1, by omega, by go_num, by rw [hs.out], by first | rfl | trivial⟩
      case measure => simp [intOf]; omega
    · obtain rfl : n = k := Nat.le_antisymm (Nat.le_of_not_lt hlt) hk
      rw [List.take_of_length_le (by omega)]
      go_wp2
      go_ret
      exact ⟨rfl, rfl⟩
theorem WidthOfName_ok (A : Option Addr) (n c : Nat) (l : List Ln) (nm : Str) (w : World) (ha : RLn w A n l) (hn : n ≤ 2097152) (hcap : n ≤ c) (hsh : ∀ x ∈ l, shortL x) (hg : goodP l) (h0 : 0 ≤ iFind l nm) (h1 : iFind l nm < l.length) :
    Calls Tryz.prog 38 #[.slice A n c, .string (bs nm)] w fun e w' => e = .returned (.tuple #[.int .i64 (gi (wids sW l) (iFind l nm).toNat), .bool true]) ∧ Below w.heap.size w w' := by
  have hl := ha.len
  obtain ⟨i, hi⟩ : ∃ i : Nat, iFind l nm = i := ⟨(iFind l nm).toNat, by omega⟩
  rw [show (iFind l nm).toNat = i by omega]
  go_enter Tryz.func38, Tryz.ntmps38
  go_wp2_with fail
  refine (widths_any A n c l _ ha hn hcap hsh).mono ?_
  rintro e a1 ⟨W, k, d, rfl, hW, b1⟩
  obtain ⟨hk, ho⟩ := hW hg
  rw [decide_eq_true hg]
  subst hk
  have ha1 := ha.below b1 (Nat.le_refl _)
  go_wp2_with fail
  refine (lineOf_any A n c l nm _ ha1 hn).mono ?_
  rintro e a2 ⟨rfl, b2⟩
  have ho2 := ho.below b2 (.inl (Nat.le_refl _))
  rw [hi]
  have hil : i < l.length := by omega
  obtain ⟨g, o, rfl, _, e1⟩ := ho2.reads.at_ hil
  have hb2 := b1.trans (b2.mono b1.size)
  have hni : ¬ (i : Int) < 0 := by omega
  clear ha ha1 ho ho2 hW
  go_wp2
  go_ret2
  exact ⟨rfl, hb2⟩
structure PrB (n c : Nat) (l : List Ln) : Prop where
  n1 : 1 ≤ n
  n40 : n ≤ 40
  cap : n ≤ c
  sh : ∀ x ∈ l, shortL x
theorem OLq.prb {w : World} {lo hi n c : Nat} {A : Option Addr} {l : List Lp} (h : OLq shortL w lo hi (.slice A n c) n l) (h1 : 1 ≤ n) (h2 : n ≤ 40) : PrB n c (l.map Lp.x) := ⟨h1, h2, h.cap, h.short⟩
def RetPn (w : World) (e : Ending) (w' : World) : Prop :=
  ∃ (l : List Ln) (A : Option Addr) (n c : Nat) (nm : Str), e = .returned (.tuple #[.slice A n c, .string (bs nm)]) ∧ RLn w' A n l ∧ PrB n c l ∧ Below w.heap.size w w'
set_option maxRecDepth 100000 in
set_option maxHeartbeats 2000000 in
theorem DrawWidthOfName_any (Y : Option Addr) (n c : Nat) (w : World) (hY : RY w Y n) :
    Calls Tryz.prog 83 #[.slice Y n c] w (RetPn w) := by
  have hc0 := Cur.newW (c := c) hY
  have hA2 : Below w.heap.size w (w.alloc (.cells #[.slice Y n c, .int .i64 0, .int .u64 0] 78)) := (Below.refl _ _).alloc (Nat.le_refl _) _
  have hR : ∀ i, tblkW Y n i → i < w.heap.size := tblkW_lt hY
  have hRb : ¬ tblkW Y n w.heap.size := fun h => by have := hR _ h; omega
  have k0 : Alt (fun i => i = w.heap.size) w (w.alloc (.cells #[.slice Y n c, .int .i64 0, .int .u64 0] 78)) := Alt.of_new hA2
  have hz0 : (w.alloc (.cells #[.slice Y n c, .int .i64 0, .int .u64 0] 78)).heap.size = w.heap.size + 1 := by simp
  generalize tblkW Y n = R at hc0 hR hRb
  go_enter Tryz.func83, Tryz.ntmps83
  go_wp2_with fail
  generalize w.alloc (.cells #[.slice Y n c, .int .i64 0, .int .u64 0] 78) = a0 at *
  refine (anyProgram_any w.heap.size R 0 _ hc0 (by omega) (fun i hi => by have := hR i hi; omega) hRb).mono ?_
  rintro e a1 ⟨l, A, k, d, rfl, hL, hn1, hn40, c1, k1⟩
  have kk1 := k0.trans_ k1 (fun _ _ h => h)
  have hz1 : w.heap.size < a1.heap.size := by have := k1.size; omega
  have al : Below a1.heap.size a1 (a1.alloc (.cells #[.string ⟨#[120]⟩, .string ⟨#[121]⟩, .string ⟨#[117]⟩, .string ⟨#[118]⟩, .string ⟨#[119]⟩, .string ⟨#[122, 122]⟩, .string ⟨#[]⟩] 9)) := (Below.refl _ _).alloc (Nat.le_refl _) _
  have hr := RX_lit a1 [[120], [121], [117], [118], [119], [122, 122], []] 9
  have ka : Alt (fun _ => False) a1 _ := Alt.of_new al
  have c1' := c1.alt ka (fun h => h) (fun _ _ h => h)
  have hL1 := hL.alt ka (fun _ _ _ _ h => h)
  have kk2 := kk1.trans_ ka (fun _ _ h => h.elim)
  clear k0 hA2 hc0 c1 hL k1 kk1 ka al
  go_wp2_with fail
  refine (of_any _ 7 7 [[120], [121], [117], [118], [119], [122, 122], []] w.heap.size R _ _ c1' (by omega) hr (by omega) (by omega) (fun q o e => by simp only [Option.some.injEq, Addr.mk.injEq, and_true] at e; omega)).mono ?_
  rintro e a2 ⟨y, hy, rfl, c2, k2, z2⟩
  have hL2 := hL1.alt k2 (fun i h1 h2 _ h => by omega)
  have kk3 := kk2.trans_ k2 (fun _ _ h => h)
  clear hr z2 hL1 kk2
  go_wp2
  go_ret2
  exact ⟨_, A, k, d, y, rfl, hL2.reads, hL2.prb hn1 hn40, kk3.below_ (Nat.le_refl _) (fun i hi e => by omega)⟩
theorem DrawWiresOf_any (Y : Option Addr) (n c : Nat) (w : World) (hY : RY w Y n) :
    Calls Tryz.prog 30 #[.slice Y n c] w (RetPn w) := by
  go_enter Tryz.func30, Tryz.ntmps30
  go_wp2_with fail
  refine (DrawWidthOfName_any Y n c _ hY).mono ?_
  rintro e a1 ⟨l, A, k, d, nm, rfl, h1, h2, h3⟩
  go_wp2
  go_ret2
  exact ⟨l, A, k, d, nm, rfl, h1, h2, h3⟩
def RetPk (w : World) (e : Ending) (w' : World) : Prop :=
  ∃ (l : List Ln) (A : Option Addr) (n c : Nat) (k : Int), e = .returned (.tuple #[.slice A n c, .int .i64 k]) ∧ -1 ≤ k ∧ k ≤ 300 ∧ RLn w' A n l ∧ PrB n c l ∧ Below w.heap.size w w'
set_option maxRecDepth 100000 in
set_option maxHeartbeats 2000000 in
theorem DrawLineOfGate_any (Y : Option Addr) (n c : Nat) (w : World) (hY : RY w Y n) :
    Calls Tryz.prog 33 #[.slice Y n c] w (RetPk w) := by
  have hc0 := Cur.newW (c := c) hY
  have hA2 : Below w.heap.size w (w.alloc (.cells #[.slice Y n c, .int .i64 0, .int .u64 0] 78)) := (Below.refl _ _).alloc (Nat.le_refl _) _
  have hR : ∀ i, tblkW Y n i → i < w.heap.size := tblkW_lt hY
  have hRb : ¬ tblkW Y n w.heap.size := fun h => by have := hR _ h; omega
  have k0 : Alt (fun i => i = w.heap.size) w (w.alloc (.cells #[.slice Y n c, .int .i64 0, .int .u64 0] 78)) := Alt.of_new hA2
  have hz0 : (w.alloc (.cells #[.slice Y n c, .int .i64 0, .int .u64 0] 78)).heap.size = w.heap.size + 1 := by simp
  generalize tblkW Y n = R at hc0 hR hRb
  go_enter Tryz.func33, Tryz.ntmps33
  go_wp2_with fail
  generalize w.alloc (.cells #[.slice Y n c, .int .i64 0, .int .u64 0] 78) = a0 at *
  refine (anyProgram_any w.heap.size R 0 _ hc0 (by omega) (fun i hi => by have := hR i hi; omega) hRb).mono ?_
  rintro e a1 ⟨l, A, k, d, rfl, hL, hn1, hn40, c1, k1⟩
  have kk1 := k0.trans_ k1 (fun _ _ h => h)
  have hz1 : w.heap.size < a1.heap.size := by have := k1.size; omega
  have al : Below a1.heap.size a1 (a1.alloc (.cells #[.int .i64 0, .int .i64 1, .int .i64 2, .int .i64 5, .int .i64 9, .int .i64 20, .int .i64 (-1), .int .i64 300] 3)) := (Below.refl _ _).alloc (Nat.le_refl _) _
  have hr : RI (a1.alloc (.cells #[.int .i64 0, .int .i64 1, .int .i64 2, .int .i64 5, .int .i64 9, .int .i64 20, .int .i64 (-1), .int .i64 300] 3)) (some ⟨a1.heap.size, 0, none⟩) 8 [0, 1, 2, 5, 9, 20, -1, 300] := by simpa using RI_lit a1 [0, 1, 2, 5, 9, 20, -1, 300] 3
  have ka : Alt (fun _ => False) a1 _ := Alt.of_new al
  have c1' := c1.alt ka (fun h => h) (fun _ _ h => h)
  have hL1 := hL.alt ka (fun _ _ _ _ h => h)
  have kk2 := kk1.trans_ ka (fun _ _ h => h.elim)
  clear k0 hA2 hc0 c1 hL k1 kk1 ka al
  go_wp2_with fail
  refine (among_any _ 8 8 [0, 1, 2, 5, 9, 20, -1, 300] w.heap.size R _ _ c1' (by omega) hr (by omega) (by omega) (fun q o e => by simp only [Option.some.injEq, Addr.mk.injEq, and_true] at e; omega)).mono ?_
  rintro e a2 ⟨y, hy, rfl, c2, k2, z2⟩
  have hL2 := hL1.alt k2 (fun i h1 h2 _ h => by omega)
  have kk3 := kk2.trans_ k2 (fun _ _ h => h)
  have hyb : -1 ≤ y ∧ y ≤ 300 := by
    simp only [List.mem_cons, List.not_mem_nil, or_false] at hy
    omega
  clear hr z2 hL1 kk2
  go_wp2
  go_ret2
  exact ⟨_, A, k, d, y, rfl, hyb.1, hyb.2, hL2.reads, hL2.prb hn1 hn40, kk3.below_ (Nat.le_refl _) (fun i hi e => by omega)⟩
end Go.Proofs.YtenknpcbbcbciaaGreat
namespace Go.Proofs.YtenknpcbbcbciaaGreat
open Go.RowKit
set_option linter.unusedVariables false
set_option linter.unusedSimpArgs false
theorem wpList_appV {w : World} {ops : Array Oper} {rest : List Oper} {o : Oper} {a : Act} {Q : Exit → Act → World → Prop} (hgd : o.guard = none) (s x : Operand)
    (ho : o.op = .call { callee := .builtin .append, args := #[s, x], argTypes := #[61, 61] })
    {lo n c0 bq q : Nat} {A0 : Option Addr} {vals : List Value} {v0 : Value} (hs : a.eval s = .slice A0 n c0) (hown : w.ownsRow lo 24 1 (.slice A0 n c0) n vals) (hx : a.eval x = .slice (some ⟨bq, 0, none⟩) 1 q) (hc : w.cell? ⟨bq, 0, none⟩ = some v0) (h1c : v0.oneCell' = true) (hlen : n ≤ 4194304) (hlo : lo ≤ w.heap.size)
    (h : ∀ A' c' w', w'.ownsRow lo 24 1 (.slice A' (n + 1) c') (n + 1) (vals ++ [v0]) → w.grownBy w' (Value.slice A0 n c0).ownBlock → ((Value.slice A' (n + 1) c').ownBlock = (Value.slice A0 n c0).ownBlock ∨ (Value.slice A' (n + 1) c').ownBlock = some w.heap.size) → wpList Tryz.prog ops Q rest (a.put o.dst (.slice A' (n + 1) c')) w') : wpList Tryz.prog ops Q (o :: rest) a w :=
  wpList_plain hgd fun _ hK => by
    obtain ⟨i, hi0, hz0, hz1, hz2⟩ := info_parts info_ints
    have hrv : RV w (some ⟨bq, 0, none⟩) 1 1 [v0] := by
      refine ⟨rfl, fun _ => ⟨_, rfl, fun j u hu => ?_⟩⟩
      cases j with
      | zero => simp at hu; subst hu; rw [addr_add]; exact hc
      | succ j => simp at hu
    obtain ⟨A', c', w', hrun, h2, h3, h4, h5⟩ := run_appV (P := Tryz.prog) w 61 o.type 24 i (.slice none 0 0) 1 24 Tryz.underlying61 hi0 hz0 hz1 hz2 rfl (by decide) lo n c0 1 q A0 (some ⟨bq, 0, none⟩) _ _ hown hrv (by intro u hu; simp at hu; subst hu; exact h1c) (by unfold maxLen; omega) (by omega) hlo
    unfold Oper.wp execOp
    simp only [ho, resolve, invoke, builtin, Sem.run_bind, Sem.run_pure, Result.andThen_ok, List.map_toArray, List.map_cons, List.map_nil, hs, hx, hrun]
    exact hK _ _ (h A' c' w' h2 h3 h4)
def RetCs (w : World) (l : List Ln) (e : Ending) (w' : World) : Prop :=
  ∃ B Ag cg Oa oc Ea ec Wa wc bl, e = .returned (.agg #[.pointer (some ⟨B, 0, none⟩), .slice Wa l.length wc, .slice Ea l.length ec]) ∧
    BxC w' B (sumI (insL l 0)) (sumI (insL l 1)) Ag (cS l (sumI (insL l 0)) (sumI (insL l 1)) l.length).g.length cg Oa (cS l (sumI (insL l 0)) (sumI (insL l 1)) l.length).os.length oc ∧ B < w'.heap.size ∧ w.heap.size ≤ B ∧
    OwnC w' w.heap.size w'.heap.size Ag (cS l (sumI (insL l 0)) (sumI (insL l 1)) l.length).g.length cg Oa (cS l (sumI (insL l 0)) (sumI (insL l 1)) l.length).os.length oc (cS l (sumI (insL l 0)) (sumI (insL l 1)) l.length).g (cS l (sumI (insL l 0)) (sumI (insL l 1)) l.length).os ∧
    Own w' w.heap.size w'.heap.size (.slice Ea l.length ec) l.length (cS l (sumI (insL l 0)) (sumI (insL l 1)) l.length).es ∧ Wi w' w.heap.size false bl Wa wc l.length (cS l (sumI (insL l 0)) (sumI (insL l 1)) l.length).ws ∧ Below w.heap.size w w'
theorem step_appV {w : World} {ops : Array Oper} {o : Oper} {a : Act} {K : Act → World → Prop} {Q : Exit → Act → World → Prop} {E : Prop} (hgd : o.guard = none) (s x : Operand)
    (ho : o.op = .call { callee := .builtin .append, args := #[s, x], argTypes := #[61, 61] })
    {lo n c0 bq q : Nat} {A0 : Option Addr} {vals : List Value} {v0 : Value} (hs : a.eval s = .slice A0 n c0) (hown : w.ownsRow lo 24 1 (.slice A0 n c0) n vals) (hx : a.eval x = .slice (some ⟨bq, 0, none⟩) 1 q) (hc : w.cell? ⟨bq, 0, none⟩ = some v0) (h1c : v0.oneCell' = true) (hlen : n ≤ 4194304) (hlo : lo ≤ w.heap.size)
    (h : ∀ A' c' w', w'.ownsRow lo 24 1 (.slice A' (n + 1) c') (n + 1) (vals ++ [v0]) → w.grownBy w' (Value.slice A0 n c0).ownBlock → K (a.put o.dst (.slice A' (n + 1) c')) w') :
    if Region.wanted o (yielded ops a.tmps) = true then Oper.wp Tryz.prog o a w K Q else E := by
  have hw : Region.wanted o (yielded ops a.tmps) = true := by simp [Region.wanted, hgd]
  rw [if_pos hw]
  obtain ⟨i, hi0, hz0, hz1, hz2⟩ := info_parts info_ints
  have hrv : RV w (some ⟨bq, 0, none⟩) 1 1 [v0] := by
    refine ⟨rfl, fun _ => ⟨_, rfl, fun j u hu => ?_⟩⟩
    cases j with
    | zero => simp at hu; subst hu; rw [addr_add]; exact hc
    | succ j => simp at hu
  obtain ⟨A', c', w', hrun, h2, h3, h4, h5⟩ := run_appV (P := Tryz.prog) w 61 o.type 24 i (.slice none 0 0) 1 24 Tryz.underlying61 hi0 hz0 hz1 hz2 rfl (by decide) lo n c0 1 q A0 (some ⟨bq, 0, none⟩) _ _ hown hrv (by intro u hu; simp at hu; subst hu; exact h1c) (by unfold maxLen; omega) (by omega) hlo
  unfold Oper.wp execOp
  simp only [ho, resolve, invoke, builtin, Sem.run_bind, Sem.run_pure, Result.andThen_ok, List.map_toArray, List.map_cons, List.map_nil, hs, hx, hrun]
  exact h A' c' w' h2 h3
def Pt (w : World) (S : Nat) (bl : List (Option Nat)) (lo2 : Nat) (A : Option Addr) (c n : Nat) (xss : List (List Int)) : Prop :=
  ∃ vals : List Value, w.ownsRow S 24 1 (.slice A n c) n vals ∧ xss.length = n ∧ ∀ j, j < n → ∃ P d, vals[j]? = some (.slice P (gl xss j).length d) ∧ RI w P (gl xss j).length (gl xss j) ∧ ∀ q o, P = some ⟨q, o, none⟩ → some q ∉ bl ∧ q < S ∧ lo2 ≤ q
theorem Pt.below {w w' : World} {S lo2 n c B : Nat} {bl : List (Option Nat)} {A : Option Addr} {xss : List (List Int)} (h : Pt w S bl lo2 A c n xss) (k : Below B w w') (hB : w.heap.size ≤ B) : Pt w' S bl lo2 A c n xss := by
  obtain ⟨vals, h1, h2, h3⟩ := h
  have ka : Alt (fun i => B ≤ i) w w' := Alt.of_below k fun _ _ h => h
  refine ⟨vals, ownsRow_altV h1 ka (fun g hg hc => by have := (h1.lt g hg).2; omega), h2, fun j hj => ?_⟩
  obtain ⟨P, d, h4, h5, h6⟩ := h3 j hj
  exact ⟨P, d, h4, h5.below k hB, h6⟩
theorem Pt.part {w : World} {S lo2 n c k : Nat} {bl : List (Option Nat)} {A : Option Addr} {xss : List (List Int)} (h : Pt w S bl lo2 A c n xss) (hk : k < n) :
    ∃ g P d, A = some ⟨g, 0, none⟩ ∧ S ≤ g ∧ g < w.heap.size ∧ w.cell? ⟨g, k, none⟩ = some (.slice P (gl xss k).length d) ∧ RI w P (gl xss k).length (gl xss k) ∧ ∀ q o, P = some ⟨q, o, none⟩ → some q ∉ bl ∧ q < S ∧ lo2 ≤ q := by
  obtain ⟨vals, h1, h2, h3⟩ := h
  obtain ⟨g, cap, hv, hgl, hgs⟩ := h1.form (by omega)
  simp only [Value.slice.injEq, true_and] at hv
  obtain ⟨rfl, rfl⟩ := hv
  obtain ⟨P, d, h4, h5, h6⟩ := h3 k hk
  exact ⟨g, P, d, rfl, hgl, hgs, by rw [h1.cellAt k (by omega), h4], h5, h6⟩
theorem Pt.app {w w' : World} {S lo2 n c d c' : Nat} {bl : List (Option Nat)} {A A' P : Option Addr} {xss : List (List Int)} {xs : List Int} {vals : List Value} (h1 : w.ownsRow S 24 1 (.slice A n c) n vals) (h2 : xss.length = n) (h3 : ∀ j, j < n → ∃ P d, vals[j]? = some (.slice P (gl xss j).length d) ∧ RI w P (gl xss j).length (gl xss j) ∧ ∀ q o, P = some ⟨q, o, none⟩ → some q ∉ bl ∧ q < S ∧ lo2 ≤ q)
    (hn : w'.ownsRow S 24 1 (.slice A' (n + 1) c') (n + 1) (vals ++ [.slice P xs.length d])) (hg : w.grownBy w' (Value.slice A n c).ownBlock) (hr : RI w P xs.length xs) (ho : ∀ q o, P = some ⟨q, o, none⟩ → some q ∉ bl ∧ q < S ∧ lo2 ≤ q) : Pt w' S bl lo2 A' c' (n + 1) (xss ++ [xs]) := by
  have ka := Alt.of_grown (S := fun i => (Value.slice A n c).ownBlock = some i) hg (fun _ h => h)
  have hS : ∀ q, q < S → ¬ ((Value.slice A n c).ownBlock = some q) := fun q hq hc => by have := (h1.lt q hc).1; omega
  have hvl : vals.length = n := by simpa using h1.1
  refine ⟨_, hn, by simp [h2], fun j hj => ?_⟩
  by_cases hjn : j < n
  · obtain ⟨P2, d2, h4, h5, h6⟩ := h3 j hjn
    rw [gl_snoc_lt (by omega)]
    exact ⟨P2, d2, by rw [List.getElem?_append_left (by omega)]; exact h4, h5.alt ka (fun _ q o hP => hS q (h6 q o hP).2.1), h6⟩
  · obtain rfl : j = n := by omega
    rw [gl_snoc_eq h2]
    exact ⟨P, d, by rw [List.getElem?_append_right (by omega), hvl, Nat.sub_self]; rfl, hr.alt ka (fun _ q o hP => hS q (ho q o hP).2.1), ho⟩
theorem cs_setW {w : World} {B : Nat} {u0 u1 u2 : Value} (h : CellsAt w B 0 ([u0] ++ [u1, u2])) (v1 : Value) : CellsAt (w.setCell ⟨B, 1, none⟩ v1) B 0 ([u0] ++ [v1, u2]) := by
  obtain ⟨q0, q1, q2, _⟩ := h
  exact ⟨(World.cell?_setCell_other _ _ _ _ (by simp)).trans q0, World.cell?_setCell_same _ _ _ q1, (World.cell?_setCell_other _ _ _ _ (by simp)).trans q2, trivial⟩
theorem cs_setE {w : World} {B : Nat} {u0 u1 u2 : Value} (h : CellsAt w B 0 ([u0] ++ [u1, u2])) (v2 : Value) : CellsAt (w.setCell ⟨B, 2, none⟩ v2) B 0 ([u0] ++ [u1, v2]) := by
  obtain ⟨q0, q1, q2, _⟩ := h
  exact ⟨(World.cell?_setCell_other _ _ _ _ (by simp)).trans q0, (World.cell?_setCell_other _ _ _ _ (by simp)).trans q1, World.cell?_setCell_same _ _ _ q2, trivial⟩
theorem set3_cells {V : World} {B : Nat} {u0 u1 u2 : Value} (r0 : V.cell? ⟨B, 0, none⟩ = some u0) (r1 : V.cell? ⟨B, 1, none⟩ = some u1) (r2 : V.cell? ⟨B, 2, none⟩ = some u2) (v0 v1 v2 : Value) :
    (((V.setCell ⟨B, 0, none⟩ v0).setCell ⟨B, 1, none⟩ v1).setCell ⟨B, 2, none⟩ v2).cell? ⟨B, 0, none⟩ = some v0 ∧ (((V.setCell ⟨B, 0, none⟩ v0).setCell ⟨B, 1, none⟩ v1).setCell ⟨B, 2, none⟩ v2).cell? ⟨B, 1, none⟩ = some v1 ∧ (((V.setCell ⟨B, 0, none⟩ v0).setCell ⟨B, 1, none⟩ v1).setCell ⟨B, 2, none⟩ v2).cell? ⟨B, 2, none⟩ = some v2 := by
  have o : ∀ (w : World) (i j : Nat) (v : Value) (u : Value), i ≠ j → w.cell? ⟨B, i, none⟩ = some u → (w.setCell ⟨B, j, none⟩ v).cell? ⟨B, i, none⟩ = some u := fun w i j v u hij h => (World.cell?_setCell_other _ _ _ _ (by simp <;> omega)).trans h
  have s : ∀ (w : World) (i : Nat) (v : Value) (u : Value), w.cell? ⟨B, i, none⟩ = some u → (w.setCell ⟨B, i, none⟩ v).cell? ⟨B, i, none⟩ = some v := fun w i v u h => World.cell?_setCell_same _ _ _ h
  exact ⟨o _ _ _ _ _ (by decide) (o _ _ _ _ _ (by decide) (s _ _ _ _ r0)), o _ _ _ _ _ (by decide) (s _ _ _ _ (o _ _ _ _ _ (by decide) r1)), s _ _ _ _ (o _ _ _ _ _ (by decide) (o _ _ _ _ _ (by decide) r2))⟩
section
variable {ow : Bool} {zs : List Value} {w w' : World} {lo b bc bn : Nat} {x y n0 n1 : Int} {s : Cs} {k : Nat} {G : Option Nat} {Oa : Option Addr} {oc : Nat} {Ea : Option Addr} {ec : Nat} {Wa : Option Addr} {wc : Nat}
theorem Cp.wireL (h : Cp ow zs w lo b bc bn x y n0 n1 s k G Oa oc Ea ec Wa wc) {j : Nat} (hj : j < k) :
    ∃ g A d, Wa = some ⟨g, 0, none⟩ ∧ w.cell? ⟨g, j, none⟩ = some (.slice A (gl s.ws j).length d) ∧ RI w A (gl s.ws j).length (gl s.ws j) ∧ g < w.heap.size ∧ ∀ q o, A = some ⟨q, o, none⟩ → some q ∉ ([some b, some bc, some bn, G, ob Oa, ob Ea, ob Wa] : List (Option Nat)) ∧ q < w.heap.size ∧ lo ≤ q := by
  obtain ⟨vals, h1, h2, h3⟩ := h.wi
  obtain ⟨g, cap, hv, hgl, hgs⟩ := h1.form (by omega)
  simp only [Value.slice.injEq, true_and] at hv
  obtain ⟨rfl, rfl⟩ := hv
  obtain ⟨A, d, h4, h5, h6, _, h8⟩ := h3 j hj
  exact ⟨g, A, d, rfl, by rw [h1.cellAt j (by omega), h4], h5, hgs, fun q o hq => ⟨(h6 q o hq).1, (h6 q o hq).2, h8 q o hq⟩⟩
theorem Lst.ofRd {S rc : Nat} {R : Option Addr} {os : List Int} (h : RM w b G R os.length os) (hk : ∀ k o, R = some ⟨k, o, none⟩ → S ≤ k ∧ k < w.heap.size) (hS : ∀ g, some g ∈ ([some b, some bc, some bn, none, ob Oa, ob Ea, ob Wa] : List (Option Nat)) → g < S) (hl : lo ≤ S) (hn : 1 ≤ os.length) : Lst false w lo [some b, some bc, some bn, G, ob Oa, ob Ea, ob Wa] R rc os := by
  refine ⟨h.1, fun q o hq => ⟨fun hc => ?_, (hk q o hq).2⟩, (fun h => by cases h), fun q o hq => by have := (hk q o hq).1; omega⟩
  have h2 := h.2 (by omega) q o hq
  have key : some q ∈ ([some b, some bc, some bn, none, ob Oa, ob Ea, ob Wa] : List (Option Nat)) → False := fun hm => by have := hS q hm; have := (hk q o hq).1; omega
  simp only [List.mem_cons, List.not_mem_nil, or_false] at hc
  rcases hc with hc | hc | hc | hc | hc | hc | hc
  · exact key (by simp [hc])
  · exact key (by simp [hc])
  · exact key (by simp [hc])
  · exact h2.2 hc.symm
  · exact key (by simp [hc])
  · exact key (by simp [hc])
  · exact key (by simp [hc])
theorem Pt.rm {S lo2 n : Nat} {A : Option Addr} {xs : List Int} (h : RI w A n xs) (ho : ∀ q o, A = some ⟨q, o, none⟩ → some q ∉ ([some b, some bc, some bn, G, ob Oa, ob Ea, ob Wa] : List (Option Nat)) ∧ q < S ∧ lo2 ≤ q) : RM w b G A n xs :=
  ⟨h, fun _ q o hq => ⟨fun hc => (ho q o hq).1 (by subst hc; simp), fun hc => (ho q o hq).1 (by simp [hc])⟩⟩
end
end Go.Proofs.YtenknpcbbcbciaaGreat
