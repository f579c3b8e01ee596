/- Rows of strings that grow; the reference's l1Split and l1Read. Texts below 2^21 bytes. -/
import Derived.Test.YtgpfiefhhlejfaaDoorQStr
import Derived.Maps.AppendAt
import Derived.Laws.BitsAllLaws
namespace Go.Proofs.YtgpfiefhhlejfaaDoor
open Go.RowKit
set_option linter.unusedVariables false
set_option linter.unusedSimpArgs false

def sv (x : List UInt8) : Value := .string (bs x)
/-- The slice value v holds the texts l in a row of its own, in a block from lo on, below hi. -/
def OwnW (w : World) (lo hi : Nat) (v : Value) (n : Nat) (l : List (List UInt8)) : Prop :=
  w.ownsRow lo 9 1 v n (l.map sv) ∧ ∀ g, v.ownBlock = some g → g < hi
section
variable {w w' : World} {lo hi n : Nat} {v : Value} {l : List (List UInt8)}
theorem OwnW.len (h : OwnW w lo hi v n l) : l.length = n := by have := h.1.1; simpa using this
theorem OwnW.lt (h : OwnW w lo hi v n l) : ∀ g, v.ownBlock = some g → lo ≤ g ∧ g < hi ∧ g < w.heap.size := fun g hg => ⟨(h.1.lt g hg).1, h.2 g hg, (h.1.lt g hg).2⟩
theorem OwnW.mk_ (h : w.ownsRow lo 9 1 v n (l.map sv)) : OwnW w lo w.heap.size v n l := ⟨h, fun g hg => (h.lt g hg).2⟩
theorem OwnW.none_ (w : World) (lo hi : Nat) : OwnW w lo hi (.slice none 0 0) 0 [] := ⟨by simpa using World.ownsRow_nil w lo _ _, fun g hg => by simp [Value.ownBlock] at hg⟩
theorem OwnW.now (h : OwnW w lo hi v n l) : OwnW w lo w.heap.size v n l := ⟨h.1, fun g hg => (h.lt g hg).2.2⟩
theorem OwnW.below {B : Nat} (h : OwnW w lo hi v n l) (hb : Below B w w') (hB : w.heap.size ≤ B ∨ hi ≤ B) : OwnW w' lo hi v n l := by
  refine ⟨⟨h.1.1, ?_⟩, h.2⟩
  rcases h.1.2 with h1 | ⟨g, cap, cur, rfl, hlo, hg, r⟩
  · exact .inl h1
  · refine .inr ⟨g, cap, cur, rfl, hlo, ?_, r⟩
    have := h.lt g (by simp [Value.ownBlock])
    rw [hb.block g (by omega)]; exact hg
theorem OwnW.alloc (h : OwnW w lo hi v n l) (o : Obj) : OwnW (w.alloc o) lo hi v n l := h.below ((Below.refl _ _).alloc (Nat.le_refl _) o) (.inl (Nat.le_refl _))
theorem OwnW.form (h : OwnW w lo hi v n l) : ∃ A c, v = .slice A n c ∧ (A = none → n = 0 ∧ c = 0) ∧ n ≤ c := by
  rcases h.1.2 with ⟨rfl, rfl⟩ | ⟨g, cap, cur, hv, _, _, hnc, _⟩
  · exact ⟨none, 0, rfl, fun _ => ⟨rfl, rfl⟩, Nat.le_refl _⟩
  · exact ⟨_, cap, hv, fun h => by simp at h, hnc⟩
theorem OwnW.reads {A : Option Addr} {c : Nat} (h : OwnW w lo hi (.slice A n c) n l) : RX w A n l := by
  refine ⟨h.len, fun hn => ?_⟩
  have hl := h.len
  obtain ⟨g, cap, hv, _, hlt⟩ := h.1.form hn
  simp only [Value.slice.injEq, true_and] at hv
  obtain ⟨rfl, rfl⟩ := hv
  refine ⟨g, 0, rfl, hlt, fun j hj => ?_⟩
  rw [Nat.zero_add]
  refine (h.1.cellAt j (by omega)).trans ?_
  rw [List.getElem?_map, List.getElem?_eq_getElem (show j < l.length by omega)]
  simp [sv, sx, List.getD, List.getElem?_eq_getElem (show j < l.length by omega)]
theorem OwnW.cap {A : Option Addr} {c : Nat} (h : OwnW w lo hi (.slice A n c) n l) : n ≤ c := by
  obtain ⟨A', c', hv, _, h3⟩ := h.form
  simp only [Value.slice.injEq] at hv
  omega
end
theorem info_string : (Tryd.prog.info? 9).map (fun i => (i.zero, i.size, i.bytes)) = some (some (.string ByteArray.empty), 1, 16) := by kernel_rfl
theorem strs_one (l : List (List UInt8)) : ∀ u ∈ l.map sv, u.oneCell' = true := by
  intro u hu
  obtain ⟨y, _, rfl⟩ := List.mem_map.1 hu
  rfl
/-- append of one text onto a row of one's own. -/
theorem run_appW (w : World) (ty : TypeId) (lo hi n c0 m c : Nat) (A0 : Option Addr) (g : Nat) (l ys : List (List UInt8)) (hown : OwnW w lo hi (.slice A0 n c0) n l) (hy : ys.length = m)
    (hr : ∀ j u, (ys.map sv)[j]? = some u → w.cell? ⟨g, j, none⟩ = some u) (hlen : n + m ≤ 4194304) (hlo : lo ≤ w.heap.size) :
    ∃ A' c' w', (Builtin.append_ #[66, 66] ty #[.slice A0 n c0, .slice (some ⟨g, 0, none⟩) m c]).run Tryd.prog w = .ok (.slice A' (n + m) c') w' ∧
      OwnW w' lo w'.heap.size (.slice A' (n + m) c') (n + m) (l ++ ys) ∧ w.grownBy w' (Value.slice A0 n c0).ownBlock ∧
      ((Value.slice A' (n + m) c').ownBlock = (Value.slice A0 n c0).ownBlock ∨ (Value.slice A' (n + m) c').ownBlock = some w.heap.size) := by
  obtain ⟨i, hi0, hz0, hz1, hz2⟩ := info_parts info_string
  obtain ⟨v', w', hrun, h2, h3, _, h5⟩ := run_append_own_at (P := Tryd.prog) w lo 66 ty 9 i (.string ByteArray.empty) 1 16 Tryd.underlying66 hi0 hz0 hz1 hz2 rfl (by decide) (.slice A0 n c0) n _ hown.1 ⟨g, 0, none⟩ m c (ys.map sv) (by simp [hy]) (fun j u hu => by rw [addr_add, Nat.zero_add]; exact hr j u hu) (strs_one ys)
      (by unfold maxLen; omega) (by omega) hlo
  rw [← List.map_append] at h2
  have hO := OwnW.mk_ h2
  obtain ⟨A', c', rfl, _⟩ := hO.form
  exact ⟨A', c', w', hrun, hO, h3, h5⟩
theorem wpList_appW (w : World) {ops : Array Oper} {rest : List Oper} {o : Oper} {a : Act} {Q : Exit → Act → World → Prop} (hgd : o.guard = none) (s x : Operand)
    (ho : o.op = .call { callee := .builtin .append, args := #[s, x], argTypes := #[66, 66] })
    {lo hi n c0 m c g : Nat} {A0 : Option Addr} {l ys : List (List UInt8)} (hs : a.eval s = .slice A0 n c0) (hown : OwnW w lo hi (.slice A0 n c0) n l) (hx : a.eval x = .slice (some ⟨g, 0, none⟩) m c) (hy : ys.length = m)
    (hr : ∀ j u, (ys.map sv)[j]? = some u → w.cell? ⟨g, j, none⟩ = some u) (hlen : n + m ≤ 4194304) (hlo : lo ≤ w.heap.size)
    (h : ∀ A' c' w', OwnW w' lo w'.heap.size (.slice A' (n + m) c') (n + m) (l ++ ys) → w.grownBy w' (Value.slice A0 n c0).ownBlock → ((Value.slice A' (n + m) c').ownBlock = (Value.slice A0 n c0).ownBlock ∨ (Value.slice A' (n + m) c').ownBlock = some w.heap.size) → wpList Tryd.prog ops Q rest (a.put o.dst (.slice A' (n + m) c')) w') : wpList Tryd.prog ops Q (o :: rest) a w :=
  wpList_plain hgd fun _ hK => by
    obtain ⟨A', c', w', hrun, h2, h3, h4⟩ := run_appW w o.type lo hi n c0 m c A0 g l ys hown hy hr hlen hlo
    unfold Oper.wp execOp
    simp only [ho, resolve, invoke, builtin, Sem.run_bind, Sem.run_pure, Result.andThen_ok, List.map_toArray, List.map_cons, List.map_nil, hs, hx, hrun]
    exact hK _ _ (h A' c' w' h2 h3 h4)
theorem below_appW {B : Nat} {a w w' : World} {lo hi n c : Nat} {A : Option Addr} {l : List (List UInt8)} (h : Below B a w) (hown : OwnW w lo hi (.slice A n c) n l) (hg : w.grownBy w' (Value.slice A n c).ownBlock) (hB : B ≤ w.heap.size) (hl : B ≤ lo) : Below B a w' :=
  h.grown hg hB fun k hk => by have := hown.lt k hk; omega
theorem one_str (w : World) (x : ByteArray) (t : TypeId) (g : Nat) (hg : w.heap.size = g) : ∀ j u, ([x.data.toList].map sv)[j]? = some u → (w.alloc (.cells #[.string x] t)).cell? ⟨g, j, none⟩ = some u := by
  intro j u hu
  subst hg
  cases j with
  | zero =>
    simp only [List.map_cons, List.getElem?_cons_zero, Option.some.injEq] at hu
    subst hu
    rw [sv, bs_data]
    exact box_cell _ _ 0 _ rfl
  | succ j => simp at hu
/-- A call returns a row of its own of these texts. -/
def RetWs (w : World) (l : List (List UInt8)) (e : Ending) (w' : World) : Prop :=
  ∃ A c, e = .returned (.slice A l.length c) ∧ OwnW w' w.heap.size w'.heap.size (.slice A l.length c) l.length l ∧ Below w.heap.size w w'
theorem RetWs.mk_ {w : World} {l : List (List UInt8)} {n : Nat} {A : Option Addr} {c : Nat} {e : Ending} {w' : World} (hn : l.length = n) (he : e = .returned (.slice A n c)) (ho : OwnW w' w.heap.size w'.heap.size (.slice A n c) n l) (hb : Below w.heap.size w w') : RetWs w l e w' := by
  subst hn; exact ⟨A, c, he, ho, hb⟩

theorem l1Split_any (s : List UInt8) (c : UInt8) (w : World) (hs : s.length ≤ 2097152) :
    Calls Tryd.prog 48 #[.string (bs s), .int .u8 c.toNat] w (RetWs w (splitS c s)) := by
  have hz : (bs s).size = s.length := bs_size s
  go_enter Tryd.func48, Tryd.ntmps48
  go_wp2
  go_loopw [5, 6, 7] (fun o f i wr => ∃ (j q k : Nat) (O : Option Addr) (oc : Nat) (done : List (List UInt8)), j ≤ s.length ∧ q ≤ j ∧ i = .int .i64 j ∧ f = .int .i64 q ∧ o = .slice O k oc ∧ OwnW wr w.heap.size wr.heap.size (.slice O k oc) k done ∧ Hid (splitS c s = done ++ splitS c (s.drop q)) ∧ Hid (c ∉ (s.drop q).take (j - q)) ∧ k ≤ q ∧ Below w.heap.size w wr) (fun _ _ i _ => s.length - (intOf i).toNat)
  case atStart => exact ⟨0, 0, 0, _, _, [], Nat.zero_le _, Nat.le_refl _, rfl, rfl, rfl, OwnW.none_ _ _ _, Lib.hid (by simp), Lib.hid (by simp), Nat.le_refl _, Below.refl _ _⟩
  case round =>
    obtain ⟨j, q, k, O, oc, done, hj, hq, rfl, rfl, rfl, hown, hsp, hno, hkq, hb⟩ := hrel
    have hzw := hb.size
    by_cases hlt : j < s.length
    · obtain ⟨x, hx⟩ : ∃ x, s[j] = x := ⟨_, rfl⟩
      have hbj : (bs s)[j]'(by rw [hz]; exact hlt) = x := by
        rw [← hx]
        show (s.toArray)[j] = s[j]
        simp
      have htk : Hid ((s.drop q).take (j + 1 - q) = (s.drop q).take (j - q) ++ [x]) := Lib.hid (by
        rw [show j + 1 - q = (j - q) + 1 by omega, List.take_succ_eq_append_getElem (by simp; omega)]
        simp [← hx, show q + (j - q) = j by omega])
      by_cases hc : x = c
      · have hcb : ((x.toNat : Int) == (c.toNat : Int)) = true := by rw [hc]; simp
        obtain ⟨X, hX⟩ : ∃ X, (bs s).extract q j = X := ⟨_, rfl⟩
        have hXd : Hid (X.data.toList = (s.drop q).take (j - q)) := Lib.hid (by rw [← hX, Lib.extract_data]; simp [bs])
        have hsp2 : Hid (splitS c s = (done ++ [X.data.toList]) ++ splitS c (s.drop (j + 1))) := Lib.hid (by
          have e : s.drop q = (s.drop q).take (j - q) ++ c :: s.drop (j + 1) := by
            have h1 := (List.take_append_drop (j - q) (s.drop q)).symm
            rw [List.drop_drop, show q + (j - q) = j by omega, List.drop_eq_getElem_cons hlt, hx, hc] at h1
            exact h1
          rw [hsp.out, e, splitS_hit hno.out, hXd.out]; simp)
        have hno2 : Hid (c ∉ (s.drop (j + 1)).take (j + 1 - (j + 1))) := Lib.hid (by simp)
        clear hx hXd htk hsp hno
        have hownA := hown.alloc (.cells #[.string X] 9)
        have hbA := hb.alloc hzw (.cells #[.string X] 9)
        go_wp2_with (at_builtin; refine wpList_appW _ rfl _ _ rfl rfl hownA rfl (ys := [X.data.toList]) rfl (one_str _ _ _ _ rfl) (by omega) (by simp; omega) ?_; intro A5 c5 w5 hown5 hg5 hat5)
        have hb5 := below_appW hbA hownA hg5 (by simp; omega) (Nat.le_refl _)
        clear hbA hownA hg5 hat5 hown hb
        go_wp2
        go_roundw
        case rel => exact ⟨j + 1, j + 1, k + 1, _, _, _, by omega, Nat.le_refl _, by go_num, by go_num, rfl, hown5, hsp2, hno2, by omega, hb5⟩
        case measure => simp [intOf]; omega
      · have hcb : ((x.toNat : Int) == (c.toNat : Int)) = false := by
          simp only [beq_eq_false_iff_ne, ne_eq]
          intro h
          exact hc (UInt8.toNat_inj.1 (by omega))
        have hno2 : Hid (c ∉ (s.drop q).take (j + 1 - q)) := Lib.hid (by
          rw [htk.out]; intro h
          rcases List.mem_append.1 h with h | h
          · exact hno.out h
          · simp only [List.mem_cons, List.not_mem_nil, or_false] at h; exact hc h.symm)
        clear hx htk hno
        go_wp2
        go_roundw
        case rel => exact ⟨j + 1, q, k, _, _, _, by omega, by omega, by go_num, rfl, rfl, hown, hsp, hno2, hkq, hb⟩
        case measure => simp [intOf]; omega
    · obtain rfl : j = s.length := by omega
      obtain ⟨X, hX⟩ : ∃ X, (bs s).extract q s.length = X := ⟨_, rfl⟩
      have hXd : X.data.toList = s.drop q := by
        rw [← hX, Lib.extract_data]
        show ((bs s).data.toList.drop q).take (s.length - q) = _
        rw [show (bs s).data.toList = s by simp [bs], List.take_of_length_le (by simp)]
      have hsp2 : Hid (splitS c s = done ++ [X.data.toList]) := Lib.hid (by
        have h := hno.out
        rw [List.take_of_length_le (by simp)] at h
        rw [hsp.out, splitS_none h, hXd])
      clear hXd hsp hno
      have hownA := hown.alloc (.cells #[.string X] 9)
      have hbA := hb.alloc hzw (.cells #[.string X] 9)
      go_wp2_with (at_builtin; refine wpList_appW _ rfl _ _ rfl rfl hownA rfl (ys := [X.data.toList]) rfl (one_str _ _ _ _ rfl) (by omega) (by simp; omega) ?_; intro A5 c5 w5 hown5 hg5 hat5)
      have hb5 := below_appW hbA hownA hg5 (by simp; omega) (Nat.le_refl _)
      have hl5 := hown5.len
      rw [← hsp2.out] at hown5 hl5
      clear hbA hownA hg5 hat5 hown hb
      go_wp2
      go_ret
      exact RetWs.mk_ hl5 rfl hown5 hb5

theorem l1Read_any (s : List UInt8) (w : World) (hs : s.length ≤ 2097152) :
    Calls Tryd.prog 49 #[.string (bs s)] w fun e w' => e = .returned (.int .i64 (readS s)) ∧ w = w' := by
  have hz : (bs s).size = s.length := bs_size s
  cases hi : inB 1 6 (s.length : Int) with
  | false =>
    have HR : Hid (readS s = -1) := Lib.hid (by
      have h : ¬ (1 ≤ s.length ∧ s.length ≤ 6) := fun h => by
        have : inB 1 6 (s.length : Int) = true := inB_iff.2 (by omega)
        rw [this] at hi; cases hi
      unfold readS; rw [if_pos (.inl h)])
    go_enter Tryd.func49, Tryd.ntmps49
    go_wp2_with fail
    refine (l1In_any (s.length : Int) 1 6 _ hi _).mono ?_
    rintro e w1 ⟨rfl, rfl⟩
    go_wp2
    go_ret
    exact ⟨by rw [HR.out]; rfl, rfl⟩
  | true =>
    have hib := inB_iff.1 hi
    have hby : ∀ j (h : j < s.length), (bs s)[j]'(by rw [hz]; exact h) = s[j] := fun j h => by
      show (s.toArray)[j] = s[j]
      simp
    obtain ⟨x0, hx0⟩ : ∃ x0, s[0]'(by omega) = x0 := ⟨_, rfl⟩
    have hb0 := hby 0 (by omega)
    rw [hx0] at hb0
    have hhd : s.head? = some x0 := by rw [List.head?_eq_getElem?, List.getElem?_eq_getElem (show 0 < s.length by omega), hx0]
    by_cases hA : x0.toNat = 48 ∧ 1 < s.length
    · have e0 : ((x0.toNat : Int) == 48) = true := by rw [hA.1]; rfl
      have hl1 : (1 : Int) < (s.length : Int) := by omega
      have HR : Hid (readS s = -1) := Lib.hid (by
        unfold readS; rw [if_pos (.inr ⟨by rw [hhd, show x0 = 48 from UInt8.toNat_inj.1 (by rw [hA.1]; rfl)], hA.2⟩)])
      clear hA hx0 hhd
      go_enter Tryd.func49, Tryd.ntmps49
      go_wp2_with fail
      refine (l1In_any (s.length : Int) 1 6 _ hi _).mono ?_
      rintro e w1 ⟨rfl, rfl⟩
      go_wp2
      go_ret
      exact ⟨by rw [HR.out]; rfl, rfl⟩
    · have HR : Hid (readS s = (digF 0 (s.drop 0)).getD (-1)) := Lib.hid (by
        unfold readS
        rw [if_neg, List.drop_zero]
        rintro (h | h)
        · exact h (by omega)
        · rw [hhd] at h
          have h1 : x0 = 48 := by simpa using h.1
          exact hA ⟨by rw [h1]; rfl, h.2⟩)
      have step : ∀ {m j : Nat} (h : j < s.length), ¬ (s[j].toNat < 48 ∨ 57 < s[j].toNat) → Hid (digF (m : Int) (s.drop j) = digF (((10 * m + (s[j].toNat - 48) : Nat) : Int)) (s.drop (j + 1))) := fun {m j} h hd => Lib.hid (by
        rw [List.drop_eq_getElem_cons h, digF, if_neg hd]
        congr 1
        omega)
      have stop : ∀ {m j : Nat} (h : j < s.length), (s[j].toNat < 48 ∨ 57 < s[j].toNat) → Hid ((digF (m : Int) (s.drop j)).getD (-1) = -1) := fun {m j} h hd => Lib.hid (by
        rw [List.drop_eq_getElem_cons h, digF, if_pos hd]; rfl)
      clear hx0 hhd
      have main : Calls Tryd.prog 49 #[.string (bs s)] w fun e w' => e = .returned (.int .i64 (readS s)) ∧ w = w' := by
        by_cases h48 : x0.toNat = 48
        · have e0 : ((x0.toNat : Int) == 48) = true := by rw [h48]; rfl
          have hl1 : ¬ (1 : Int) < (s.length : Int) := by omega
          go_enter Tryd.func49, Tryd.ntmps49
          go_wp2_with fail
          refine (l1In_any (s.length : Int) 1 6 _ hi _).mono ?_
          rintro e w1 ⟨rfl, rfl⟩
          go_wp2
          go_loopw [3, 4] (fun m i wr => ∃ (j q : Nat), j ≤ s.length ∧ q < 10 ^ j ∧ i = .int .i64 j ∧ m = .int .i64 q ∧ Hid (readS s = (digF (q : Int) (s.drop j)).getD (-1)) ∧ w = wr) (fun _ i _ => s.length - (intOf i).toNat)
          case atStart => exact ⟨0, 0, Nat.zero_le _, by decide, rfl, rfl, HR, rfl⟩
          case round =>
            obtain ⟨j, q, hj, hq, rfl, rfl, hR, rfl⟩ := hrel
            by_cases hlt : j < s.length
            · have hbj := hby j hlt
              have hst := @step q j hlt
              have hsp := @stop q j hlt
              obtain ⟨x, hx⟩ : ∃ x, s[j] = x := ⟨_, rfl⟩
              rw [hx] at hbj hst hsp
              have hq6 : q < 1000000 := Nat.lt_of_lt_of_le hq (Nat.le_trans (Nat.pow_le_pow_right (by omega) (show j ≤ 6 by omega)) (by decide))
              have hxl := x.toNat_lt
              by_cases h1 : x.toNat < 48
              · have H1 := hsp (.inl h1)
                have t1 : (x.toNat : Int) < 48 := by omega
                clear hst hsp hx hby hb0 e0
                go_wp2
                go_ret
                exact ⟨by rw [hR.out, H1.out]; rfl, rfl⟩
              · by_cases h2 : 57 < x.toNat
                · have H1 := hsp (.inr h2)
                  have t1 : ¬ (x.toNat : Int) < 48 := by omega
                  have t2 : (57 : Int) < (x.toNat : Int) := by omega
                  clear hst hsp hx hby hb0 e0
                  go_wp2
                  go_ret
                  exact ⟨by rw [hR.out, H1.out]; rfl, rfl⟩
                · have H1 := hst (fun h => by omega)
                  have t1 : ¬ (x.toNat : Int) < 48 := by omega
                  have t2 : ¬ (57 : Int) < (x.toNat : Int) := by omega
                  have q1 : IntKind.u8.wrap ((x.toNat : Int) - 48) = (x.toNat : Int) - 48 := by rw [IntKind.wrap_u8']; omega
                  have q2 : IntKind.i64.wrap ((x.toNat : Int) - 48) = (x.toNat : Int) - 48 := IntWalk.i64_in _ (by omega)
                  have q3 : IntKind.i64.wrap (10 * (q : Int)) = 10 * (q : Int) := IntWalk.i64_in _ (by omega)
                  have q4 : IntKind.i64.wrap (10 * (q : Int) + ((x.toNat : Int) - 48)) = 10 * (q : Int) + ((x.toNat : Int) - 48) := IntWalk.i64_in _ (by omega)
                  have hpw : 10 * q + (x.toNat - 48) < 10 ^ (j + 1) := by rw [Nat.pow_succ]; omega
                  clear hst hsp hx hby hb0 e0
                  go_wp2
                  go_roundw
                  case rel => exact ⟨j + 1, 10 * q + (x.toNat - 48), by omega, hpw, by go_num, by congr 1; omega, Lib.hid (by rw [hR.out, H1.out]), trivial⟩
                  case measure => simp [intOf]; omega
            · obtain rfl : j = s.length := by omega
              go_wp2
              go_ret
              exact ⟨by rw [hR.out, List.drop_length]; rfl, rfl⟩
        · have e0 : ((x0.toNat : Int) == 48) = false := by simp only [beq_eq_false_iff_ne, ne_eq]; omega
          go_enter Tryd.func49, Tryd.ntmps49
          go_wp2_with fail
          refine (l1In_any (s.length : Int) 1 6 _ hi _).mono ?_
          rintro e w1 ⟨rfl, rfl⟩
          go_wp2
          go_loopw [3, 4] (fun m i wr => ∃ (j q : Nat), j ≤ s.length ∧ q < 10 ^ j ∧ i = .int .i64 j ∧ m = .int .i64 q ∧ Hid (readS s = (digF (q : Int) (s.drop j)).getD (-1)) ∧ w = wr) (fun _ i _ => s.length - (intOf i).toNat)
          case atStart => exact ⟨0, 0, Nat.zero_le _, by decide, rfl, rfl, HR, rfl⟩
          case round =>
            obtain ⟨j, q, hj, hq, rfl, rfl, hR, rfl⟩ := hrel
            by_cases hlt : j < s.length
            · have hbj := hby j hlt
              have hst := @step q j hlt
              have hsp := @stop q j hlt
              obtain ⟨x, hx⟩ : ∃ x, s[j] = x := ⟨_, rfl⟩
              rw [hx] at hbj hst hsp
              have hq6 : q < 1000000 := Nat.lt_of_lt_of_le hq (Nat.le_trans (Nat.pow_le_pow_right (by omega) (show j ≤ 6 by omega)) (by decide))
              have hxl := x.toNat_lt
              by_cases h1 : x.toNat < 48
              · have H1 := hsp (.inl h1)
                have t1 : (x.toNat : Int) < 48 := by omega
                clear hst hsp hx hby hb0 e0
                go_wp2
                go_ret
                exact ⟨by rw [hR.out, H1.out]; rfl, rfl⟩
              · by_cases h2 : 57 < x.toNat
                · have H1 := hsp (.inr h2)
                  have t1 : ¬ (x.toNat : Int) < 48 := by omega
                  have t2 : (57 : Int) < (x.toNat : Int) := by omega
                  clear hst hsp hx hby hb0 e0
                  go_wp2
                  go_ret
                  exact ⟨by rw [hR.out, H1.out]; rfl, rfl⟩
                · have H1 := hst (fun h => by omega)
                  have t1 : ¬ (x.toNat : Int) < 48 := by omega
                  have t2 : ¬ (57 : Int) < (x.toNat : Int) := by omega
                  have q1 : IntKind.u8.wrap ((x.toNat : Int) - 48) = (x.toNat : Int) - 48 := by rw [IntKind.wrap_u8']; omega
                  have q2 : IntKind.i64.wrap ((x.toNat : Int) - 48) = (x.toNat : Int) - 48 := IntWalk.i64_in _ (by omega)
                  have q3 : IntKind.i64.wrap (10 * (q : Int)) = 10 * (q : Int) := IntWalk.i64_in _ (by omega)
                  have q4 : IntKind.i64.wrap (10 * (q : Int) + ((x.toNat : Int) - 48)) = 10 * (q : Int) + ((x.toNat : Int) - 48) := IntWalk.i64_in _ (by omega)
                  have hpw : 10 * q + (x.toNat - 48) < 10 ^ (j + 1) := by rw [Nat.pow_succ]; omega
                  clear hst hsp hx hby hb0 e0
                  go_wp2
                  go_roundw
                  case rel => exact ⟨j + 1, 10 * q + (x.toNat - 48), by omega, hpw, by go_num, by congr 1; omega, Lib.hid (by rw [hR.out, H1.out]), trivial⟩
                  case measure => simp [intOf]; omega
            · obtain rfl : j = s.length := by omega
              go_wp2
              go_ret
              exact ⟨by rw [hR.out, List.drop_length]; rfl, rfl⟩
      exact main

end Go.Proofs.YtgpfiefhhlejfaaDoor
