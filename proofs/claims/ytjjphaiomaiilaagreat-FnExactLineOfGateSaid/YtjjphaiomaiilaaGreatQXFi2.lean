/- The contract of AndsByLine. Texts below 2^21 bytes. -/
import Derived.Test.YtjjphaiomaiilaaGreatQXFi1
namespace Go.Proofs.YtjjphaiomaiilaaGreat
open Go.RowKit
set_option linter.unusedVariables false
set_option linter.unusedSimpArgs false
def anF (l : List Ln) : Option (List Int) := if coB l = true then some (andsK (cc l) l.length) else none
theorem anF_len (l : List Ln) : ((anF l).getD []).length ≤ 30 := by
  unfold anF
  split
  · rename_i h
    have := (coB_good h).1.1
    simp only [Option.getD_some, andsK_len]; exact this
  · simp
theorem kind_of {g : G3} {n : Int} (h : gateB g n = true) : 0 ≤ g.k ∧ g.k ≤ 3 := by
  unfold gateB at h
  split at h
  · omega
  split at h
  · omega
  · simp only [Bool.and_eq_true, decide_eq_true_eq] at h; omega
theorem kinds_of {n : Int} {gs : List G3} {k : Nat} (h : gatesB n gs k = true) (j : Nat) (hj : j < k) : 0 ≤ (gg gs j).k ∧ (gg gs j).k ≤ 3 := kind_of (List.all_eq_true.1 h j (List.mem_range.2 hj))
theorem OwnG.cap {w : World} {lo hi n c : Nat} {A : Option Addr} {gs : List G3} (h : OwnG w lo hi (.slice A n c) n gs) : n ≤ c := by
  rcases h.1.2 with ⟨hv, h0⟩ | ⟨g, cap, cur, hv, _, _, hc, _⟩
  · omega
  · simp only [Value.slice.injEq, true_and] at hv
    omega
theorem Own.cap {w : World} {lo hi n c : Nat} {A : Option Addr} {xs : List Int} (h : Own w lo hi (.slice A n c) n xs) : n ≤ c := by
  rcases h.1.2 with ⟨hv, h0⟩ | ⟨g, cap, cur, hv, _, _, hc, _⟩
  · omega
  · simp only [Value.slice.injEq, true_and] at hv
    omega
theorem slice_gates (Ag : Option Addr) (n cg a b : Nat) (hab : a ≤ b) (hb : b ≤ n) (hcap : n ≤ cg) : ∃ TA : Option Addr, (∀ (w : World) (gs : List G3), RG w Ag n gs → RG w TA (b - a) (cutG gs a b)) ∧
    ∀ W : World, (Instr.slice 44 (.slice Ag n cg) (some (.int .i64 a)) (some (.int .i64 b)) none).run Tryz.prog W = .ok (.slice TA (b - a) (cg - a)) W := by
  have hu : Tryz.prog.elem 44 = 81 := by kernel_rfl
  refine ⟨if cg = a then Ag else Ag.map (·.add (a * 3)), fun w gs h => ⟨by rw [cutG_len (by rw [h.1]; exact hb) hab], fun hn => ?_⟩, fun W => ?_⟩
  · obtain ⟨q, o, hA, hlt, hc⟩ := h.2 (by omega)
    subst hA
    rw [if_neg (by omega)]
    refine ⟨q, o + a * 3, ?_, hlt, fun j hj => ?_⟩
    · show some ((⟨q, o, none⟩ : Addr).add (a * 3)) = _
      unfold Addr.add
      split
      · rename_i h0; rw [h0]; rfl
      · rfl
    · have h1 := hc (a + j) (by omega)
      rw [cutG_at (by rw [h.1]; exact hb) hj, show o + a * 3 + j * 3 = o + (a + j) * 3 by omega]
      exact h1
  · rw [run_slice_lh W 44 _ _ _ (by rw [hu]; exact Tryz.underlying44) .i64 .i64 (a : Int) (b : Int) (by omega) (by omega) (by omega)]
    rw [hu]
    go_simp
set_option maxRecDepth 100000 in
set_option maxHeartbeats 3200000 in
theorem AndsByLine_any (A : Option Addr) (n c : Nat) (l : List Ln) (w : World) (ha : RLn w A n l) (hn : n ≤ 2097152) (hcap : n ≤ c) (hsh : ∀ x ∈ l, shortL x) :
    Calls Tryz.prog 24 #[.slice A n c] w (RetO w (anF l)) := by
  cases hg : coB l with
  | false =>
    have HR : Hid (anF l = none) := Lib.hid (if_neg (fun h => by rw [hg] at h; cases h))
    go_enter Tryz.func24, Tryz.ntmps24
    go_wp2_with fail
    refine (compileValid_no A n c l _ ha hn hcap hsh hg).mono ?_
    rintro e w1 ⟨rfl, hb1⟩
    have hB := hb1.alloc hb1.size (.cells #[.int .i64 0, .int .i64 0, .slice none 0 0, .slice none 0 0, .slice none 0 0, .slice none 0 0] 71)
    clear hg
    go_wp2
    go_ret2
    exact RetO.none_ hB HR.out rfl
  | true =>
    have HR : Hid (anF l = some (andsK (cc l) l.length)) := Lib.hid (if_pos hg)
    obtain ⟨hgd, hcb⟩ := coB_good hg
    obtain ⟨_, _, hng, _, hgat, _⟩ := circB_parts hcb
    have hkd := Lib.hid (kinds_of hgat)
    have hl := ha.len
    subst hl
    have hn30 := hgd.1
    have hei : Hid (EInv l.length (cc l)) := Lib.hid (cS_es l _ _ l.length)
    go_enter Tryz.func24, Tryz.ntmps24
    go_wp2_with fail
    refine (compileValid_ok A l.length c l _ ha hn hcap hsh hg).mono ?_
    rintro e w1 hT
    obtain ⟨Ag, cg, Oa, oc, Ea, ec, Wa, wc, bl, rfl, hC, hE, hW, hb1⟩ := hT
    have al1 : Below w1.heap.size w1 (w1.alloc (.cells #[.int .i64 (sumI (insL l 0)), .int .i64 (sumI (insL l 1)), .slice Ag (cc l).g.length cg, .slice Oa (cc l).os.length oc, .slice Wa l.length wc, .slice Ea l.length ec] 71)) := (Below.refl _ _).alloc (Nat.le_refl _) _
    have hx : Bx6 (w1.alloc (.cells #[.int .i64 (sumI (insL l 0)), .int .i64 (sumI (insL l 1)), .slice Ag (cc l).g.length cg, .slice Oa (cc l).os.length oc, .slice Wa l.length wc, .slice Ea l.length ec] 71)) w1.heap.size _ _ _ _ _ _ := Bx6.new w1 (.int .i64 (sumI (insL l 0))) (.int .i64 (sumI (insL l 1))) (.slice Ag (cc l).g.length cg) (.slice Oa (cc l).os.length oc) (.slice Wa l.length wc) (.slice Ea l.length ec) 71
    have hE1 := hE.reads.below al1 (Nat.le_refl _)
    have hG1 := hC.1.reads.below al1 (Nat.le_refl _)
    have hcg := hC.1.cap
    have hB1 := hb1.trans (al1.mono hb1.size)
    have hs1 : (w1.alloc (.cells #[.int .i64 (sumI (insL l 0)), .int .i64 (sumI (insL l 1)), .slice Ag (cc l).g.length cg, .slice Oa (cc l).os.length oc, .slice Wa l.length wc, .slice Ea l.length ec] 71)).heap.size = w1.heap.size + 1 := by simp
    have hb1s := hb1.size
    clear hC hE hW al1 hcb hg hgat ha hsh hgd hb1
    obtain ⟨ng, hgl⟩ : ∃ ng, Hid ((cc l).g.length = ng) := ⟨_, Lib.hid rfl⟩
    obtain ⟨s, hs⟩ : ∃ s, Hid (cc l = s) := ⟨_, Lib.hid rfl⟩
    rw [hs.out] at hE1 hG1 hei hkd hng hgl hcg HR hx hB1 hs1 ⊢
    rw [hgl.out] at hE1 hG1 hkd hng hcg hx hB1 hs1 ⊢
    obtain ⟨k0, k1, k2, k3, k4, k5⟩ := hx
    have al2 : Below (w1.alloc (.cells #[.int .i64 (sumI (insL l 0)), .int .i64 (sumI (insL l 1)), .slice Ag ng cg, .slice Oa s.os.length oc, .slice Wa l.length wc, .slice Ea l.length ec] 71)).heap.size (w1.alloc (.cells #[.int .i64 (sumI (insL l 0)), .int .i64 (sumI (insL l 1)), .slice Ag ng cg, .slice Oa s.os.length oc, .slice Wa l.length wc, .slice Ea l.length ec] 71)) ((w1.alloc (.cells #[.int .i64 (sumI (insL l 0)), .int .i64 (sumI (insL l 1)), .slice Ag ng cg, .slice Oa s.os.length oc, .slice Wa l.length wc, .slice Ea l.length ec] 71)).alloc (.cells #[] 3)) := (Below.refl _ _).alloc (Nat.le_refl _) _
    have e2 := cell_bel k2 al2
    have e5 := cell_bel k5 al2
    have hown0 : Own ((w1.alloc (.cells #[.int .i64 (sumI (insL l 0)), .int .i64 (sumI (insL l 1)), .slice Ag ng cg, .slice Oa s.os.length oc, .slice Wa l.length wc, .slice Ea l.length ec] 71)).alloc (.cells #[] 3)) (w1.heap.size + 1) ((w1.alloc (.cells #[.int .i64 (sumI (insL l 0)), .int .i64 (sumI (insL l 1)), .slice Ag ng cg, .slice Oa s.os.length oc, .slice Wa l.length wc, .slice Ea l.length ec] 71)).alloc (.cells #[] 3)).heap.size (.slice (some ⟨(w1.alloc (.cells #[.int .i64 (sumI (insL l 0)), .int .i64 (sumI (insL l 1)), .slice Ag ng cg, .slice Oa s.os.length oc, .slice Wa l.length wc, .slice Ea l.length ec] 71)).heap.size, 0, none⟩) 0 0) 0 (andsK s 0) := by simpa [andsK, tab_zero] using Own_new0 (w1.alloc (.cells #[.int .i64 (sumI (insL l 0)), .int .i64 (sumI (insL l 1)), .slice Ag ng cg, .slice Oa s.os.length oc, .slice Wa l.length wc, .slice Ea l.length ec] 71)) (w1.heap.size + 1) (by omega)
    rw [hs1] at hown0 al2
    have hsV : ((w1.alloc (.cells #[.int .i64 (sumI (insL l 0)), .int .i64 (sumI (insL l 1)), .slice Ag ng cg, .slice Oa s.os.length oc, .slice Wa l.length wc, .slice Ea l.length ec] 71)).alloc (.cells #[] 3)).heap.size = w1.heap.size + 1 + 1 := by simp
    go_wp2
    generalize hVV : (w1.alloc (.cells #[.int .i64 (sumI (insL l 0)), .int .i64 (sumI (insL l 1)), .slice Ag ng cg, .slice Oa s.os.length oc, .slice Wa l.length wc, .slice Ea l.length ec] 71)).alloc (.cells #[] 3) = V at *
    generalize hWW : (w1.alloc (.cells #[.int .i64 (sumI (insL l 0)), .int .i64 (sumI (insL l 1)), .slice Ag ng cg, .slice Oa s.os.length oc, .slice Wa l.length wc, .slice Ea l.length ec] 71)) = W1 at *
    clear hVV hWW
    go_loopw [6, 7, 21] (fun v f i wr => ∃ (k : Nat) (A' : Option Addr) (c' : Nat), k ≤ l.length ∧ i = .int .i64 k ∧ f = .int .i64 (endN s.es k : Nat) ∧ v = .slice A' k c' ∧ Own wr (w1.heap.size + 1) wr.heap.size (.slice A' k c') k (andsK s k) ∧ Below (w1.heap.size + 1) W1 wr) (fun _ _ i _ => l.length - (intOf i).toNat)
    case atStart => exact ⟨0, _, _, Nat.zero_le _, rfl, rfl, rfl, hown0, al2⟩
    case round =>
      clear hown0 al2
      obtain ⟨k, A', c', hk, rfl, rfl, rfl, hown, hbw⟩ := hrel
      by_cases hlt : k < l.length
      · obtain ⟨b, o, rfl, hbB, c1⟩ := (hE1.below hbw (by omega)).at_ hlt
        obtain ⟨n1, n2, n3⟩ := endN_le hei.out hlt
        have hsn : Hid (andsK s (k + 1) = andsK s k ++ [andN s k]) := Lib.hid (andsK_snoc s k)
        have han : Hid (andN s k = gi (cntK (cutG s.g (endN s.es k) (endN s.es (k + 1))) (endN s.es (k + 1) - endN s.es k)) 1) := Lib.hid rfl
        rw [hgl.out] at n2
        rw [n3] at c1
        obtain ⟨a, ha⟩ : ∃ a, Hid (endN s.es k = a) := ⟨_, Lib.hid rfl⟩
        obtain ⟨d, hd⟩ : ∃ d, Hid (endN s.es (k + 1) = d) := ⟨_, Lib.hid rfl⟩
        rw [ha.out] at n1 han ⊢
        rw [hd.out] at n1 n2 han c1
        clear n3
        obtain ⟨TA, hT1, hT2⟩ := slice_gates Ag ng cg a d n1 n2 hcg
        have hr := hT1 wr s.g (hG1.below hbw (by omega))
        have hkc : ∀ j, j < d - a → 0 ≤ (gg (cutG s.g a d) j).k ∧ (gg (cutG s.g a d) j).k ≤ 3 := fun j hj => by rw [cutG_at (by rw [hgl.out]; exact n2) hj]; exact hkd.out _ (by omega)
        have e2w := hbw.cell (p := ⟨w1.heap.size, 2, none⟩) (by show w1.heap.size < w1.heap.size + 1; omega) |>.trans k2
        have hz := hbw.size
        clear hT1 hk
        go_wp2_with fail
        refine (countKinds_any TA (d - a) (cg - a) (cutG s.g a d) _ hr (by omega) hkc).mono ?_
        rintro e w4 hT
        obtain ⟨A4, c4, rfl, ho4, hb4⟩ := RetI.open_ (n := 4) hT (cntK_len _ _)
        obtain ⟨b4, o4, hA4, hb4B, q1⟩ := ho4.reads.at_ (k := 1) (by omega)
        subst hA4
        rw [← han.out] at q1
        obtain ⟨z, hzz⟩ : ∃ z, Hid (andN s k = z) := ⟨_, Lib.hid rfl⟩
        rw [hzz.out] at q1 hsn
        have hown4 := hown.below hb4 (.inl (Nat.le_refl _))
        have hbw4 := hbw.trans (hb4.mono (by omega))
        have hz4 := hb4.size
        have hownA := hown4.alloc (.cells #[.int .i64 z] 3)
        have hbA := hbw4.alloc (by omega) (.cells #[.int .i64 z] 3)
        go_wp2_with (at_builtin; refine wpList_app _ rfl _ _ rfl rfl hownA rfl (RI_one _ _ _ _ (by simp)) (by omega) (by first | omega | (simp; done) | (simp; omega)) ?_; intro A5 c5 w5 hown5 hg5 hat5)
        have hb5 := below_app hbA hownA hg5 (by simp; omega) (by omega)
        rw [← hsn.out] at hown5
        clear hownA hbA hg5 hat5 hown hbw hown4 hbw4 hT hr hkc
        go_wp2
        go_roundw
        case rel => exact ⟨k + 1, _, _, by omega, by go_num, by rw [hd.out], rfl, hown5, hb5⟩
        case measure => simp [intOf]; omega
      · obtain hkl : l.length = k := by omega
        have hBf := hB1.trans (hbw.mono (by have := hb1s; omega))
        rw [hkl] at HR
        go_wp2
        go_ret2
        exact RetO.some_ hBf HR.out (andsK_len _ _) rfl (hown.lo_ (by omega))
end Go.Proofs.YtjjphaiomaiilaaGreat
