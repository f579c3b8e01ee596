/- The reference's widths of a party's inputs. Lengths up to 2^21. The reference's widths of lines, of results; sums. Texts below 2^21 bytes. Compiling: its start, lists of wires in the midst, what it returns. No condition. -/
import Derived.Test.YtjjphaiomaiilaaGreatQB13
import Derived.Test.YtjjphaiomaiilaaGreatQB34
import Derived.Test.YtjjphaiomaiilaaGreatQB28
import Derived.Test.YtjjphaiomaiilaaGreatQB29
namespace Go.Proofs.YtjjphaiomaiilaaGreat
open Go.RowKit
set_option linter.unusedVariables false
set_option linter.unusedSimpArgs false
set_option maxHeartbeats 1600000 in
theorem laInputs_any (A : Option Addr) (n c : Nat) (p : Int) (l : List Ln) (w : World) (ha : RLn w A n l) (hn : n ≤ 2097152) :
    Calls Tryz.prog 67 #[.slice A n c, .int .i64 p] w (RetI w (insL l p)) := by
  have hl := ha.len
  go_enter Tryz.func67, Tryz.ntmps67
  go_wp2
  go_loopw [5, 10] (fun r i wr => ∃ (k : Nat) (R : Option Addr) (rn rc : Nat), k ≤ n ∧ i = .int .i64 k ∧ r = .slice R rn rc ∧ Own wr w.heap.size wr.heap.size (.slice R rn rc) rn (insL (l.take k) p) ∧ rn ≤ k ∧ Below w.heap.size w wr) (fun _ i _ => n - (intOf i).toNat)
  case atStart => exact ⟨0, none, 0, 0, Nat.zero_le _, rfl, rfl, Own.none_ _ _ _, Nat.le_refl _, Below.refl _ _⟩
  case round =>
    obtain ⟨k, R, rn, rc, hk, rfl, rfl, hown, hrn, hb⟩ := hrel
    have hz := hb.size
    by_cases hlt : k < n
    · obtain ⟨b, o, P, q, rfl, hbB, ⟨c0, c1, c2, c3, c4, c5, c6⟩, hx⟩ := (ha.below hb (Nat.le_refl _)).at_ hlt
      have hT : Hid (insL (l.take (k + 1)) p = if (lx l k).kind = 1 ∧ (lx l k).party = p then insL (l.take k) p ++ [(lx l k).width] else insL (l.take k) p) := Lib.hid (by rw [take_lx (by omega), insL_snoc])
      have hownA := hown.alloc (.cells #[.int .i64 (lx l k).kind, .string (bs (lx l k).name), .string (bs (lx l k).op), .slice P (lx l k).parts.length q, .int .i64 (lx l k).party, .int .i64 (lx l k).width, .int .i64 (lx l k).value] 68)
      have hbA := hb.alloc hz (.cells #[.int .i64 (lx l k).kind, .string (bs (lx l k).name), .string (bs (lx l k).op), .slice P (lx l k).parts.length q, .int .i64 (lx l k).party, .int .i64 (lx l k).width, .int .i64 (lx l k).value] 68)
      clear ha hx
      by_cases h1 : (lx l k).kind = 1
      · have t1 : ((lx l k).kind == 1) = true := by simp [h1]
        by_cases h2 : (lx l k).party = p
        · have t2 : ((lx l k).party == p) = true := by simp [h2]
          have HK : Hid (insL (l.take (k + 1)) p = insL (l.take k) p ++ [(lx l k).width]) := Lib.hid (by rw [hT.out, if_pos ⟨h1, h2⟩])
          clear h1 h2
          have hA := hownA.alloc (.cells #[.int .i64 (lx l k).width] 3)
          go_wp2_with (at_builtin; refine wpList_appI _ rfl _ _ rfl rfl hA rfl (RI_one _ _ _ _ (by simp)) (by omega) (by first | omega | (simp; done) | (simp; omega)) ?_; intro A7 c7 w7 hown7 hg7 hat7 hk7)
          have hb7 := below_app (hbA.alloc (by simp; omega) (.cells #[.int .i64 (lx l k).width] 3)) hA hg7 (by simp; omega) (Nat.le_refl _)
          go_wp2
          go_roundw
          case rel => exact ⟨k + 1, A7, rn + 1, c7, by omega, by go_num, rfl, by rw [HK.out]; exact hown7, by omega, hb7⟩
          case measure => simp [intOf]; omega
        · have t2 : ((lx l k).party == p) = false := by simp [h2]
          have HK : Hid (insL (l.take (k + 1)) p = insL (l.take k) p) := Lib.hid (by rw [hT.out, if_neg (fun h => h2 h.2)])
          clear h1 h2
          go_wp2
          go_roundw
          case rel => exact ⟨k + 1, R, rn, rc, by omega, by go_num, rfl, by rw [HK.out]; exact hownA.now, by omega, hbA⟩
          case measure => simp [intOf]; omega
      · have t1 : ((lx l k).kind == 1) = false := by simp [h1]
        have HK : Hid (insL (l.take (k + 1)) p = insL (l.take k) p) := Lib.hid (by rw [hT.out, if_neg (fun h => h1 h.1)])
        clear h1
        go_wp2
        go_roundw
        case rel => exact ⟨k + 1, R, rn, rc, by omega, by go_num, rfl, by rw [HK.out]; exact hownA.now, by omega, hbA⟩
        case measure => simp [intOf]; omega
    · obtain rfl : n = k := Nat.le_antisymm (Nat.le_of_not_lt hlt) hk
      rw [List.take_of_length_le (by omega)] at hown
      have hln := hown.len
      go_wp2
      go_ret
      exact RetI.mk_ hln rfl hown hb
set_option maxRecDepth 100000 in
set_option maxHeartbeats 1600000 in
theorem laWidths_any (A : Option Addr) (n c : Nat) (l : List Ln) (w : World) (ha : RLn w A n l) (hn : n ≤ 2097152) (hcap : n ≤ c) (hsh : ∀ x ∈ l, shortL x) :
    Calls Tryz.prog 104 #[.slice A n c] w (RetI w (wids sW l)) := by
  have hl := ha.len
  go_enter Tryz.func104, Tryz.ntmps104
  go_wp2
  go_loopw [3, 8] (fun r i wr => ∃ (k : Nat) (R : Option Addr) (rc : Nat), k ≤ n ∧ i = .int .i64 k ∧ r = .slice R k rc ∧ Own wr w.heap.size wr.heap.size (.slice R k rc) k (wids sW (l.take k)) ∧ Below w.heap.size w wr) (fun _ i _ => n - (intOf i).toNat)
  case atStart => exact ⟨0, none, 0, Nat.zero_le _, rfl, rfl, Own.none_ _ _ _, Below.refl _ _⟩
  case round =>
    obtain ⟨k, R, rc, hk, rfl, rfl, hown, hb⟩ := hrel
    have hz := hb.size
    by_cases hlt : k < n
    · obtain ⟨b, o, P, q, rfl, hbB, hat, hx⟩ := (ha.below hb (Nat.le_refl _)).at_ hlt
      have hrl : RLn wr (some ⟨b, o, none⟩) k (l.take k) := (ha.below hb (Nat.le_refl _)).take hk
      have hshx := hsh (lx l k) (by rw [lx_lt (by omega)]; exact List.getElem_mem _)
      have hwb := wids_bd (l.take k)
      have hT : Hid (wids sW (l.take (k + 1)) = wids sW (l.take k) ++ [sW (l.take k) (wids sW (l.take k)) (lx l k)]) := Lib.hid (by rw [take_lx (by omega), wids_snoc])
      obtain ⟨W, hWd⟩ : ∃ W, Hid (wids sW (l.take k) = W) := ⟨_, Lib.hid rfl⟩
      rw [hWd.out] at hown hwb hT
      obtain ⟨X, hX⟩ : ∃ X, Hid (lx l k = X) := ⟨_, Lib.hid rfl⟩
      rw [hX.out] at hat hx hshx hT
      obtain ⟨L, hL⟩ : ∃ L, Hid (l.take k = L) := ⟨_, Lib.hid rfl⟩
      rw [hL.out] at hrl hT
      obtain ⟨u, hu⟩ : ∃ u, Hid (sW L W X = u) := ⟨_, Lib.hid rfl⟩
      rw [hu.out] at hT
      have hkc : k ≤ c := by omega
      have hrow := hown.reads
      have al : Below wr.heap.size wr (wr.alloc (.cells #[.int .i64 X.kind, .string (bs X.name), .string (bs X.op), .slice P X.parts.length q, .int .i64 X.party, .int .i64 X.width, .int .i64 X.value] 68)) := (Below.refl _ _).alloc (Nat.le_refl _) _
      have hone := LnAt.new wr X P q 68
      obtain ⟨d0, d1, d2, d3, d4, d5, d6⟩ := hone
      simp only [Nat.zero_add] at d1 d2 d3 d4 d5 d6
      have hfar : ∀ g, R = some ⟨g, 0, none⟩ → g < wr.heap.size := fun g hg => (hown.lt g (by rw [hg]; simp [Value.ownBlock])).2.2
      have hrl2 := hrl.below al (Nat.le_refl _)
      have hrow2 := hrow.below al (Nat.le_refl _)
      have hx2 := hx.below al (Nat.le_refl _)
      have hown2 := hown.below al (.inl (Nat.le_refl _))
      have hsz : (wr.alloc (.cells #[.int .i64 X.kind, .string (bs X.name), .string (bs X.op), .slice P X.parts.length q, .int .i64 X.party, .int .i64 X.width, .int .i64 X.value] 68)).heap.size = wr.heap.size + 1 := by simp
      have hbA := hb.trans (al.mono hz)
      obtain ⟨c0, c1, c2, c3, c4, c5, c6⟩ := hat
      clear ha
      go_wp2_with fail
      generalize hwa : wr.alloc (.cells #[.int .i64 X.kind, .string (bs X.name), .string (bs X.op), .slice P X.parts.length q, .int .i64 X.party, .int .i64 X.width, .int .i64 X.value] 68) = wa at *
      clear hwa c0 c1 c2 c3 c4 c5 c6 hrl hrow hx al
      generalize wr.heap.size = S0 at *
      go_wp2_with fail
      go_region_held3 (fun w' => w'.cell? ⟨S0, 0, none⟩ = some (.int .i64 X.kind) ∧ w'.cell? ⟨S0, 1, none⟩ = some (.string (bs X.name)) ∧ w'.cell? ⟨S0, 2, none⟩ = some (.string (bs X.op)) ∧ w'.cell? ⟨S0, 3, none⟩ = some (.slice P X.parts.length q) ∧ w'.cell? ⟨S0, 4, none⟩ = some (.int .i64 X.party) ∧ w'.cell? ⟨S0, 5, none⟩ = some (.int .i64 X.width) ∧ w'.cell? ⟨S0, 6, none⟩ = some (.int .i64 X.value))
        (first | go_keep | (go_split_ands; exact ⟨hk5 _ _ _ (by assumption) (fun g9 hg9 he9 => by first | omega | (have := hfar _ hg9; omega) | (simp only [Option.some.injEq, Addr.mk.injEq, and_true] at hg9; omega)), hk5 _ _ _ (by assumption) (fun g9 hg9 he9 => by first | omega | (have := hfar _ hg9; omega) | (simp only [Option.some.injEq, Addr.mk.injEq, and_true] at hg9; omega)), hk5 _ _ _ (by assumption) (fun g9 hg9 he9 => by first | omega | (have := hfar _ hg9; omega) | (simp only [Option.some.injEq, Addr.mk.injEq, and_true] at hg9; omega)), hk5 _ _ _ (by assumption) (fun g9 hg9 he9 => by first | omega | (have := hfar _ hg9; omega) | (simp only [Option.some.injEq, Addr.mk.injEq, and_true] at hg9; omega)), hk5 _ _ _ (by assumption) (fun g9 hg9 he9 => by first | omega | (have := hfar _ hg9; omega) | (simp only [Option.some.injEq, Addr.mk.injEq, and_true] at hg9; omega)), hk5 _ _ _ (by assumption) (fun g9 hg9 he9 => by first | omega | (have := hfar _ hg9; omega) | (simp only [Option.some.injEq, Addr.mk.injEq, and_true] at hg9; omega)), hk5 _ _ _ (by assumption) (fun g9 hg9 he9 => by first | omega | (have := hfar _ hg9; omega) | (simp only [Option.some.injEq, Addr.mk.injEq, and_true] at hg9; omega))⟩) | (go_split_ands; exact ⟨cell_below (by assumption) hb4, cell_below (by assumption) hb4, cell_below (by assumption) hb4, cell_below (by assumption) hb4, cell_below (by assumption) hb4, cell_below (by assumption) hb4, cell_below (by assumption) hb4⟩))
        (first | (go_at_call 132; refine (laWidth_any X P q (some ⟨b, o, none⟩) k c L R k rc W _ (hrl2.below (below_of_drewN 1) (Nat.le_refl _)) (hrow2.below (below_of_drewN 1) (Nat.le_refl _)) (hx2.below (below_of_drewN 1) (Nat.le_refl _)) hwb hshx (by omega) (Nat.le_refl _) (by omega)).mono ?_; rintro e w4 ⟨he4, hb4⟩; rw [hu.out] at he4; obtain rfl := he4; have hs4 : wa.heap.size ≤ w4.heap.size := hb4.size) | (refine step_appI _ (by rfl) _ _ (by rfl) (by rfl) (((hown2.below (below_of_drewN 1) (.inl (Nat.le_refl _))).below hb4 (.inl (Nat.le_refl _))).alloc (.cells #[.int .i64 u] 3)) (by rfl) (RI_one _ _ _ _ (by simp)) (by omega) (by first | omega | (simp; done) | (simp; omega)) ?_; intro A5 c5 w5 hown5 hg5 hat5 hk5))
      have hb34 : Below wa.heap.size wa w4 := (below_of_drewN 1).trans (hb4.mono (Nat.le_refl _))
      have hA := (hown2.below hb34 (.inl (Nat.le_refl _))).alloc (.cells #[.int .i64 u] 3)
      have hB4 := hbA.trans (hb34.mono (by omega))
      have hb5 := below_app (hB4.alloc (by omega) (.cells #[.int .i64 u] 3)) hA hg5 (by simp; omega) (Nat.le_refl _)
      go_wp2
      go_roundw
      case rel => exact ⟨k + 1, A5, c5, by omega, by go_num, rfl, by rw [hT.out]; exact hown5, hb5⟩
      case measure => simp [intOf]; omega
    · obtain rfl : n = k := Nat.le_antisymm (Nat.le_of_not_lt hlt) hk
      rw [List.take_of_length_le (by omega)] at hown
      have hln := hown.len
      go_wp2
      go_ret
      exact RetI.mk_ hln rfl hown hb
set_option maxHeartbeats 1600000 in
theorem laOuts_any (A : Option Addr) (n c : Nat) (l : List Ln) (w : World) (ha : RLn w A n l) (hn : n ≤ 2097152) (hcap : n ≤ c) (hsh : ∀ x ∈ l, shortL x) :
    Calls Tryz.prog 58 #[.slice A n c] w (RetI w (outsL l)) := by
  have hl := ha.len
  have hwl : (wids sW l).length = n := by rw [wids_len]; exact hl
  have hT0 := laWidths_any A n c l w ha hn hcap hsh
  have HO : Hid (outsL l = byK outP l (wids sW l) n) := Lib.hid (by unfold outsL; rw [hl])
  obtain ⟨W, hW⟩ : ∃ W, Hid (wids sW l = W) := ⟨_, Lib.hid rfl⟩
  rw [hW.out] at hwl hT0 HO
  rw [HO.out]
  go_enter Tryz.func58, Tryz.ntmps58
  go_wp2_with fail
  refine (hT0).mono ?_
  rintro e w1 hT
  obtain ⟨B, d, rfl, hw1, hb1⟩ := hT.open_ hwl
  have hr1 := hw1.reads
  have ha1 := ha.below hb1 (Nat.le_refl _)
  clear hT0 hw1 ha hT
  go_wp2
  go_loopw [3, 9] (fun r i wr => ∃ (k : Nat) (R : Option Addr) (rn rc : Nat), k ≤ n ∧ i = .int .i64 k ∧ r = .slice R rn rc ∧ Own wr w1.heap.size wr.heap.size (.slice R rn rc) rn (byK outP l W k) ∧ rn ≤ k ∧ Below w1.heap.size w1 wr) (fun _ i _ => n - (intOf i).toNat)
  case atStart => exact ⟨0, none, 0, 0, Nat.zero_le _, rfl, rfl, Own.none_ _ _ _, Nat.le_refl _, Below.refl _ _⟩
  case round =>
    obtain ⟨k, R, rn, rc, hk, rfl, rfl, hown, hrn, hb⟩ := hrel
    have hz := hb.size
    by_cases hlt : k < n
    · obtain ⟨b, o, P, q, rfl, hbB, ⟨c0, c1, c2, c3, c4, c5, c6⟩, hx⟩ := (ha1.below hb (Nat.le_refl _)).at_ hlt
      obtain ⟨g, go, rfl, hgl, e0⟩ := (hr1.below hb (Nat.le_refl _)).at_ hlt
      obtain ⟨u, hu⟩ : ∃ u, Hid (gi W k = u) := ⟨_, Lib.hid rfl⟩
      rw [hu.out] at e0
      have hT : Hid (byK outP l W (k + 1) = if outP (lx l k) = true then byK outP l W k ++ [gi W k] else byK outP l W k) := Lib.hid rfl
      clear ha1 hx c1 c2 c3 c4 c5 c6
      by_cases h6 : (lx l k).kind = 6
      · have t6 : ((lx l k).kind == 6) = true := by simp [h6]
        have HK : Hid (byK outP l W (k + 1) = byK outP l W k ++ [u]) := Lib.hid (by rw [hT.out, if_pos (by simp [outP, h6]), hu.out])
        clear h6
        have hA := hown.alloc (.cells #[.int .i64 u] 3)
        go_wp2_with (at_builtin; refine wpList_appI _ rfl _ _ rfl rfl hA rfl (RI_one _ _ _ _ (by simp)) (by omega) (by first | omega | (simp; done) | (simp; omega)) ?_; intro A7 c7 w7 hown7 hg7 hat7 hk7)
        have hb7 := below_app (hb.alloc (by omega) (.cells #[.int .i64 u] 3)) hA hg7 (by simp; omega) (Nat.le_refl _)
        go_wp2
        go_roundw
        case rel => exact ⟨k + 1, A7, rn + 1, c7, by omega, by go_num, rfl, by rw [HK.out]; exact hown7, by omega, hb7⟩
        case measure => simp [intOf]; omega
      · have t6 : ((lx l k).kind == 6) = false := by simp [h6]
        have HK : Hid (byK outP l W (k + 1) = byK outP l W k) := Lib.hid (by rw [hT.out, if_neg (by simp [outP, h6])])
        clear h6
        go_wp2
        go_roundw
        case rel => exact ⟨k + 1, R, rn, rc, by omega, by go_num, rfl, by rw [HK.out]; exact hown, by omega, hb⟩
        case measure => simp [intOf]; omega
    · obtain rfl : n = k := Nat.le_antisymm (Nat.le_of_not_lt hlt) hk
      have hln := hown.len
      go_wp2
      go_ret
      exact RetI.mk_ hln rfl (hown.lo_ hb1.size) (hb1.trans (hb.mono hb1.size))
theorem laSumW_any (A : Option Addr) (n c : Nat) (xs : List Int) (w : World) (ha : RI w A n xs) (hn : n ≤ 2097152) (hx : ∀ z ∈ xs, 0 ≤ z ∧ z ≤ ((1024 : Nat) : Int)) :
    Calls Tryz.prog 57 #[.slice A n c] w fun e w' => e = .returned (.int .i64 (sumI xs)) ∧ w = w' := by
  have hl := ha.len
  have hsm := sumI_le hx
  go_enter Tryz.func57, Tryz.ntmps57
  go_wp2
  go_loopw [3, 8] (fun s i wr => ∃ (k : Nat), k ≤ n ∧ i = .int .i64 k ∧ s = .int .i64 (sumI (xs.take k)) ∧ w = wr) (fun _ i _ => n - (intOf i).toNat)
  case atStart => exact ⟨0, Nat.zero_le _, rfl, rfl, rfl⟩
  case round =>
    obtain ⟨k, hk, rfl, rfl, rfl⟩ := hrel
    by_cases hlt : k < n
    · obtain ⟨b, o, rfl, hbl, c0⟩ := ha.at_ hlt
      have hS : Hid (sumI (xs.take (k + 1)) = sumI (xs.take k) + gi xs k) := Lib.hid (sumI_snoc2 (by omega))
      have hbd := hsm k (by omega)
      have hz := hx _ (gi_mem (xs := xs) (j := k) (by omega))
      obtain ⟨s, hs⟩ : ∃ s, Hid (sumI (xs.take k) = s) := ⟨_, Lib.hid rfl⟩
      obtain ⟨u, hu⟩ : ∃ u, Hid (gi xs k = u) := ⟨_, Lib.hid rfl⟩
      rw [hs.out] at hbd hS ⊢
      rw [hu.out] at hz c0 hS
      have hwr : IntKind.i64.wrap (s + u) = s + u := by rw [IntKind.wrap_i64] <;> omega
      clear hsm hx
      go_wp2
      go_roundw
      case rel => exact ⟨k + 1, by omega, by go_num, by rw [hS.out], by trivial⟩
      case measure => simp [intOf]; omega
    · obtain rfl : n = k := Nat.le_antisymm (Nat.le_of_not_lt hlt) hk
      rw [List.take_of_length_le (by omega)]
      go_wp2
      go_ret
      exact ⟨rfl, rfl⟩
theorem sumOfW_any (A : Option Addr) (n c : Nat) (xs : List Int) (w : World) (ha : RI w A n xs) (hn : n ≤ 2097152) (hx : ∀ z ∈ xs, 0 ≤ z ∧ z ≤ ((1024 : Nat) : Int)) :
    Calls Tryz.prog 64 #[.slice A n c] w fun e w' => e = .returned (.int .i64 (sumI xs)) ∧ w = w' := by
  have hl := ha.len
  have hsm := sumI_le hx
  go_enter Tryz.func64, Tryz.ntmps64
  go_wp2
  go_loopw [3, 8] (fun s i wr => ∃ (k : Nat), k ≤ n ∧ i = .int .i64 k ∧ s = .int .i64 (sumI (xs.take k)) ∧ w = wr) (fun _ i _ => n - (intOf i).toNat)
  case atStart => exact ⟨0, Nat.zero_le _, rfl, rfl, rfl⟩
  case round =>
    obtain ⟨k, hk, rfl, rfl, rfl⟩ := hrel
    by_cases hlt : k < n
    · obtain ⟨b, o, rfl, hbl, c0⟩ := ha.at_ hlt
      have hS : Hid (sumI (xs.take (k + 1)) = sumI (xs.take k) + gi xs k) := Lib.hid (sumI_snoc2 (by omega))
      have hbd := hsm k (by omega)
      have hz := hx _ (gi_mem (xs := xs) (j := k) (by omega))
      obtain ⟨s, hs⟩ : ∃ s, Hid (sumI (xs.take k) = s) := ⟨_, Lib.hid rfl⟩
      obtain ⟨u, hu⟩ : ∃ u, Hid (gi xs k = u) := ⟨_, Lib.hid rfl⟩
      rw [hs.out] at hbd hS ⊢
      rw [hu.out] at hz c0 hS
      have hwr : IntKind.i64.wrap (s + u) = s + u := by rw [IntKind.wrap_i64] <;> omega
      clear hsm hx
      go_wp2
      go_roundw
      case rel => exact ⟨k + 1, by omega, by go_num, by rw [hS.out], by trivial⟩
      case measure => simp [intOf]; omega
    · obtain rfl : n = k := Nat.le_antisymm (Nat.le_of_not_lt hlt) hk
      rw [List.take_of_length_le (by omega)]
      go_wp2
      go_ret
      exact ⟨rfl, rfl⟩
theorem RetO.open_some {w w' : World} {xs : List Int} {n : Nat} {e : Ending} (h : RetO w (some xs) e w') (hn : xs.length = n) :
    ∃ A c, e = .returned (.tuple #[.slice A n c, .bool true]) ∧ Own w' w.heap.size w'.heap.size (.slice A n c) n xs ∧ Below w.heap.size w w' := by
  subst hn
  obtain ⟨A, c, h1, h2, h3⟩ := h
  exact ⟨A, c, h1, h2, h3⟩
structure Lst (ow : Bool) (w : World) (lo : Nat) (bl : List (Option Nat)) (R : Option Addr) (rc : Nat) (os : List Int) : Prop where
  rd : RI w R os.length os
  off : ∀ q o, R = some ⟨q, o, none⟩ → some q ∉ bl ∧ q < w.heap.size
  own : ow = true → Own w lo w.heap.size (.slice R os.length rc) os.length os
  low : ∀ q o, R = some ⟨q, o, none⟩ → lo ≤ q
theorem Lst.ofOwn {ow : Bool} {w : World} {lo S : Nat} {bl : List (Option Nat)} {R : Option Addr} {rc n : Nat} {os : List Int} (h : Own w S w.heap.size (.slice R n rc) n os) (hS : ∀ g, some g ∈ bl → g < S) (hl : lo ≤ S) : Lst ow w lo bl R rc os := by
  have hn := h.len
  subst hn
  refine ⟨h.reads, fun q o hq => ?_, fun _ => h.lo_ hl, fun q o hq => by have := h.lt q (by rw [ob_eq, hq]; rfl); omega⟩
  have := h.lt q (by rw [ob_eq, hq]; rfl)
  exact ⟨fun hc => by have := hS q hc; omega, this.2.2⟩
section
variable {ow : Bool} {zs : List Value} {w w' : World} {lo b bc bn : Nat} {x y n0 n1 : Int} {s : Cs} {k : Nat} {G : Option Nat} {Oa : Option Addr} {oc : Nat} {Ea : Option Addr} {ec : Nat} {Wa : Option Addr} {wc : Nat}
theorem Lst.outs {R O' : Option Addr} {rc n' c' : Nat} {l : List Int} {w1 : World} (h : Lst ow w lo [some b, some bc, some bn, G, ob Oa, ob Ea, ob Wa] R rc l) (hg : w.grownBy w1 (Value.slice Oa s.os.length oc).ownBlock)
    (hat : (Value.slice O' n' c').ownBlock = (Value.slice Oa s.os.length oc).ownBlock ∨ (Value.slice O' n' c').ownBlock = some w.heap.size) (v : Value) :
    Lst ow (w1.setCell ⟨b, 3, none⟩ v) lo [some b, some bc, some bn, G, ob O', ob Ea, ob Wa] R rc l := by
  rw [ob_eq, ob_eq] at hat
  rw [ob_eq] at hg
  have k1 : Alt (fun i => ob Oa = some i) w w1 := Alt.of_grown hg fun _ h => h
  have ka : Alt (fun i => i = b ∨ ob Oa = some i) w (w1.setCell ⟨b, 3, none⟩ v) := (k1.mono_ fun _ _ h => .inr h).set_ _ _ (fun _ => .inl rfl)
  have ho : ob O' = ob Oa ∨ ob O' = none ∨ ∃ n, ob O' = some n ∧ w.heap.size ≤ n := by
    rcases hat with h1 | h1
    · exact .inl h1
    · exact .inr (.inr ⟨_, h1, Nat.le_refl _⟩)
  have hS : ∀ q, some q ∉ [some b, some bc, some bn, G, ob Oa, ob Ea, ob Wa] → ¬ (q = b ∨ ob Oa = some q) := fun q hq hc => by
    rcases hc with rfl | hc
    · exact hq (by simp)
    · exact hq (by simp [hc])
  exact ⟨h.rd.alt ka (fun _ q o hq => hS q (h.off q o hq).1), fun q o hq => ⟨notin_upd (i := 4) (a := ob Oa) (h.off q o hq).1 rfl (h.off q o hq).2 ho, Nat.lt_of_lt_of_le (h.off q o hq).2 ka.size⟩, fun hw => own_list ka (h.own hw) (fun q o hq => hS q (h.off q o hq).1), h.low⟩
theorem Cp.cell3 (h : Cp ow zs w lo b bc bn x y n0 n1 s k G Oa oc Ea ec Wa wc) : w.cell? ⟨b, 3, none⟩ = some (.slice Oa s.os.length oc) ∧ w.frozen? ⟨b, 3, none⟩ = false := by
  obtain ⟨_, _, hf, Ag, cg, hx, _⟩ := h.mq
  exact ⟨hx.2.2.2, hf 3⟩
theorem Cp.cell2 (h : Cp ow zs w lo b bc bn x y n0 n1 s k G Oa oc Ea ec Wa wc) : ∃ Ag cg, w.cell? ⟨b, 2, none⟩ = some (.slice Ag s.g.length cg) := by
  obtain ⟨_, _, hf, Ag, cg, hx, _⟩ := h.mq
  exact ⟨Ag, cg, hx.2.2.1⟩
theorem Cp.cell3_grown {w1 : World} (h : Cp ow zs w lo b bc bn x y n0 n1 s k G Oa oc Ea ec Wa wc) (hg : w.grownBy w1 (Value.slice Oa s.os.length oc).ownBlock) : w1.cell? ⟨b, 3, none⟩ = some (.slice Oa s.os.length oc) ∧ w1.frozen? ⟨b, 3, none⟩ = false := by
  rw [ob_eq] at hg
  have hne : ob Oa ≠ some b := fun hc => h.dj 4 0 b (by decide) (by rw [← hc]; rfl) rfl
  obtain ⟨h1, h2⟩ := h.cell3
  exact ⟨grown_cell h1 hg hne, (World.frozen?_of_block (w := w) (a := ⟨b, 3, none⟩) (hg.block b h.mq.1 (fun e => hne e.symm))).trans h2⟩
theorem Cp.ne (h : Cp ow zs w lo b bc bn x y n0 n1 s k G Oa oc Ea ec Wa wc) : ob Wa ≠ some bc ∧ ob Wa ≠ some b ∧ ob Ea ≠ some bc ∧ ob Ea ≠ some b ∧ (∀ g, ob Wa = some g → ob Ea ≠ some g) ∧ b ≠ bc :=
  ⟨fun hc => h.dj 6 1 bc (by decide) (by rw [← hc]; rfl) rfl, fun hc => h.dj 6 0 b (by decide) (by rw [← hc]; rfl) rfl, fun hc => h.dj 5 1 bc (by decide) (by rw [← hc]; rfl) rfl, fun hc => h.dj 5 0 b (by decide) (by rw [← hc]; rfl) rfl, fun g hg hc => h.dj 6 5 g (by decide) (by rw [← hg]; rfl) (by rw [← hc]; rfl), fun hc => by subst hc; exact h.dj 0 1 b (by decide) rfl rfl⟩
end
theorem Wi.lo_ {ow : Bool} {w : World} {lo lo' n c : Nat} {bl : List (Option Nat)} {A : Option Addr} {xss : List (List Int)} (h : Wi w lo ow bl A c n xss) (hl : lo' ≤ lo) : Wi w lo' ow bl A c n xss := by
  obtain ⟨vals, h1, h2, h3⟩ := h
  refine ⟨vals, ⟨h1.1, ?_⟩, h2, fun j hj => ?_⟩
  · rcases h1.2 with h4 | ⟨g, cap, cur, hv, hlo, r⟩
    · exact .inl h4
    · exact .inr ⟨g, cap, cur, hv, Nat.le_trans hl hlo, r⟩
  · obtain ⟨P, d, h4, h5, h6, h7, h8⟩ := h3 j hj
    exact ⟨P, d, h4, h5, h6, fun ho => (h7 ho).lo_ hl, fun q o hq => Nat.le_trans hl (h8 q o hq)⟩
theorem Wi.alt2 {ow : Bool} {w w' : World} {lo n c b0 b1 : Nat} {bl : List (Option Nat)} {A : Option Addr} {xss : List (List Int)} (h : Wi w lo ow bl A c n xss) (k : Alt (fun i => i = b1 ∨ i = b0) w w') (hA : ∀ g, ob A = some g → ¬ (g = b1 ∨ g = b0)) (h1 : some b1 ∈ bl) (h0 : b0 < lo) : Wi w' lo ow bl A c n xss := by
  obtain ⟨vals, h2, h3, h4⟩ := h
  refine ⟨vals, ownsRow_altV h2 k (fun g hg => hA g (by rw [← hg, ob_eq])), h3, fun j hj => ?_⟩
  obtain ⟨P, d, h5, h6, h7, h8, h9⟩ := h4 j hj
  have hS : ∀ q o, P = some ⟨q, o, none⟩ → ¬ (q = b1 ∨ q = b0) := fun q o hP hc => by
    rcases hc with rfl | rfl
    · exact (h7 q o hP).1 h1
    · have := h9 q o hP; omega
  exact ⟨P, d, h5, h6.alt k (fun _ q o hP => hS q o hP), fun q o hP => ⟨(h7 q o hP).1, Nat.lt_of_lt_of_le (h7 q o hP).2 k.size⟩, fun ho => own_list k (h8 ho) hS, h9⟩
theorem sx_memW {ps : List Str} {k : Nat} (h : k < ps.length) : sx ps k ∈ ps := by
  have : sx ps k = ps[k] := by simp [sx, h]
  rw [this]; exact List.getElem_mem h
theorem dj3 (b : Nat) : Dj [some b, some (b + 1), some (b + 2), none, none, none, none] := by
  have H : ∀ i g, ([some b, some (b + 1), some (b + 2), none, none, none, none] : List (Option Nat))[i]? = some (some g) → (i = 0 ∧ g = b) ∨ (i = 1 ∧ g = b + 1) ∨ (i = 2 ∧ g = b + 2) := by
    intro i g h
    match i, h with
    | 0, h => simp at h; exact .inl ⟨rfl, h.symm⟩
    | 1, h => simp at h; exact .inr (.inl ⟨rfl, h.symm⟩)
    | 2, h => simp at h; exact .inr (.inr ⟨rfl, h.symm⟩)
    | 3, h => simp at h
    | 4, h => simp at h
    | 5, h => simp at h
    | 6, h => simp at h
    | n + 7, h => simp at h
  intro i j g hij h1 h2
  have := H i g h1
  have := H j g h2
  omega
theorem Cp.start {ow : Bool} {zs : List Value} {w : World} {x y : Int} {B : Nat} (hB : w.heap.size = B + 3) (hm : MkO w B B x y none 0 0 [] none) (hc : CellsAt w (B + 1) 0 (zs ++ [.slice none 0 0, .slice none 0 0])) (hf : Fz w (B + 1)) (ht : Two w (B + 2) 0 x) :
    Cp ow zs w B B (B + 1) (B + 2) x y 0 x ⟨[], [], [], []⟩ 0 none none 0 none 0 none 0 :=
  ⟨hm, Own.none_ _ _ _, Own.none_ _ _ _, ⟨[], World.ownsRow_nil w B _ _, rfl, fun j hj => by omega⟩, hc, hf, ht, dj3 B, by omega, by omega, by omega, by omega⟩
def RetCp (w : World) (l : List Ln) (e : Ending) (w' : World) : Prop :=
  ∃ Ag cg Oa oc Ea ec Wa wc bl, e = .returned (.agg #[.int .i64 (sumI (insL l 0)), .int .i64 (sumI (insL l 1)), .slice Ag (cS l (sumI (insL l 0)) (sumI (insL l 1)) l.length).g.length cg, .slice Oa (cS l (sumI (insL l 0)) (sumI (insL l 1)) l.length).os.length oc, .slice Wa l.length wc, .slice Ea l.length ec]) ∧
    OwnC w' w.heap.size w'.heap.size Ag (cS l (sumI (insL l 0)) (sumI (insL l 1)) l.length).g.length cg Oa (cS l (sumI (insL l 0)) (sumI (insL l 1)) l.length).os.length oc (cS l (sumI (insL l 0)) (sumI (insL l 1)) l.length).g (cS l (sumI (insL l 0)) (sumI (insL l 1)) l.length).os ∧
    Own w' w.heap.size w'.heap.size (.slice Ea l.length ec) l.length (cS l (sumI (insL l 0)) (sumI (insL l 1)) l.length).es ∧ Wi w' w.heap.size true bl Wa wc l.length (cS l (sumI (insL l 0)) (sumI (insL l 1)) l.length).ws ∧ Below w.heap.size w w'
theorem goodP_sums {l : List Ln} (h : goodP l) : (0 ≤ sumI (insL l 0) ∧ sumI (insL l 0) ≤ 20) ∧ (0 ≤ sumI (insL l 1) ∧ sumI (insL l 1) ≤ 20) := by
  have b0 : ∀ p, 0 ≤ sumI (insL l p) := fun p => by
    have := sumI_le (M := 1024) (fun z hz => by have := insL_bd h.2.1 p z hz; omega) (insL l p).length (Nat.le_refl _)
    rw [List.take_of_length_le (Nat.le_refl _)] at this
    exact this.1
  exact ⟨⟨b0 0, h.2.2.1⟩, b0 1, h.2.2.2.1⟩
end Go.Proofs.YtjjphaiomaiilaaGreat
