/- Plain functions: bits of numbers, numbers of bits, tables of a circuit's outs; no program in sight. -/
import Derived.Laws.BitsAllLaws
import Derived.Test.YtnhmfedegfcflaaGreatDoorQR14
import Derived.Test.YtnhmfedegfcflaaGreatDoorQR12
namespace Go.Proofs.YtnhmfedegfcflaaGreatDoor
open Go.RowKit
set_option linter.unusedVariables false
set_option linter.unusedSimpArgs false
def sv (x : List UInt8) : Value := .string (bs x)
def OwnW (w : World) (lo hi : Nat) (v : Value) (n : Nat) (l : List (List UInt8)) : Prop :=
 w.ownsRow lo 9 1 v n (l.map sv) ∧ ∀ g, v.ownBlock = some g → g < hi
section
variable {w w' : World} {lo hi n : Nat} {v : Value} {l : List (List UInt8)}
theorem OwnW.len (h : OwnW w lo hi v n l) : l.length = n := by have := h.1.1; simpa using this
theorem OwnW.lt (h : OwnW w lo hi v n l) : ∀ g, v.ownBlock = some g → lo ≤ g ∧ g < hi ∧ g < w.heap.size := fun g hg => ⟨(h.1.lt g hg).1, h.2 g hg, (h.1.lt g hg).2⟩
theorem OwnW.mk_ (h : w.ownsRow lo 9 1 v n (l.map sv)) : OwnW w lo w.heap.size v n l := ⟨h, fun g hg => (h.lt g hg).2⟩
theorem OwnW.none_ (w : World) (lo hi : Nat) : OwnW w lo hi (.slice none 0 0) 0 [] := ⟨by simpa using World.ownsRow_nil w lo _ _, fun g hg => by simp [Value.ownBlock] at hg⟩
theorem OwnW.below {B : Nat} (h : OwnW w lo hi v n l) (hb : Below B w w') (hB : w.heap.size ≤ B ∨ hi ≤ B) : OwnW w' lo hi v n l := by
 refine ⟨⟨h.1.1, ?_⟩, h.2⟩
 rcases h.1.2 with h1 | ⟨g, cap, cur, rfl, hlo, hg, r⟩
 ·exact .inl h1
 ·refine .inr ⟨g, cap, cur, rfl, hlo, ?_, r⟩
  have := h.lt g (by simp [Value.ownBlock])
  rw [hb.block g (by omega)]; exact hg
theorem OwnW.alloc (h : OwnW w lo hi v n l) (o : Obj) : OwnW (w.alloc o) lo hi v n l := h.below ((Below.refl _ _).alloc lR o) (.inl lR)
theorem OwnW.form (h : OwnW w lo hi v n l) : ∃ A c, v = .slice A n c ∧ (A = none → n = 0 ∧ c = 0) ∧ n ≤ c := by
 rcases h.1.2 with ⟨rfl, rfl⟩ | ⟨g, cap, cur, hv, _, _, hnc, _⟩
 ·exact ⟨none, 0, rfl, fun _ => ⟨rfl, rfl⟩, Nat.le_refl _⟩
 ·exact ⟨_, cap, hv, fun h => by simp at h, hnc⟩
theorem OwnW.reads {A : Option Addr} {c : Nat} (h : OwnW w lo hi (.slice A n c) n l) : RX w A n l := by
 refine ⟨h.len, fun hn => ?_⟩
 have hl := h.len
 obtain ⟨g, cap, hv, _, hlt⟩ := h.1.form hn
 simp only [Value.slice.injEq, true_and] at hv
 obtain ⟨rfl, rfl⟩ := hv
 refine ⟨g, 0, rfl, hlt, fun j hj => ?_⟩
 rw [Nat.zero_add]
 refine (h.1.cellAt j (by omega)).trans ?_
 rw [List.getElem?_map, List.getElem?_eq_getElem (show j < l.length by omega)]
 simp [sv, sx, List.getD, List.getElem?_eq_getElem (show j < l.length by omega)]
theorem OwnW.cap {A : Option Addr} {c : Nat} (h : OwnW w lo hi (.slice A n c) n l) : n ≤ c := by
 obtain ⟨A', c', hv, _, h3⟩ := h.form
 simp only [Value.slice.injEq] at hv
 omega
end
theorem info_string : (Tryz.prog.info? 9).map (fun i => (i.zero, i.size, i.bytes)) = some (some (.string ByteArray.empty), 1, 16) := by kernel_rfl
theorem strs_one (l : List (List UInt8)) : ∀ u ∈ l.map sv, u.oneCell' = true := by
 intro u hu
 obtain ⟨y, _, rfl⟩ := List.mem_map.1 hu
 rfl
theorem run_appW (w : World) (ty : TypeId) (lo hi n c0 m c : Nat) (A0 : Option Addr) (g : Nat) (l ys : List (List UInt8)) (hown : OwnW w lo hi (.slice A0 n c0) n l) (hy : ys.length = m)
 (hr : ∀ j u, (ys.map sv)[j]? = some u → w.cell? ⟨g, j, none⟩ = some u) (hlen : n + m ≤ 4194304) (hlo : lo ≤ w.heap.size) :
 ∃ A' c' w', (Builtin.append_ #[77, 77] ty #[.slice A0 n c0, .slice (some ⟨g, 0, none⟩) m c]).run Tryz.prog w = .ok (.slice A' (n + m) c') w' ∧
  OwnW w' lo w'.heap.size (.slice A' (n + m) c') (n + m) (l ++ ys) ∧ w.grownBy w' (Value.slice A0 n c0).ownBlock ∧
  ((Value.slice A' (n + m) c').ownBlock = (Value.slice A0 n c0).ownBlock ∨ (Value.slice A' (n + m) c').ownBlock = some w.heap.size) := by
 obtain ⟨i, hi0, hz0, hz1, hz2⟩ := info_parts info_string
 obtain ⟨v', w', hrun, h2, h3, _, h5⟩ := run_append_own_at (P := Tryz.prog) w lo 77 ty 9 i (.string ByteArray.empty) 1 16 Tryz.underlying77 hi0 hz0 hz1 hz2 rfl (by decide) (.slice A0 n c0) n _ hown.1 ⟨g, 0, none⟩ m c (ys.map sv) (by simp [hy]) (fun j u hu => by rw [addr_add, Nat.zero_add]; exact hr j u hu) (strs_one ys)
  (by unfold maxLen; omega) (by omega) hlo
 rw [← List.map_append] at h2
 have hO := OwnW.mk_ h2
 obtain ⟨A', c', rfl, _⟩ := hO.form
 exact ⟨A', c', w', hrun, hO, h3, h5⟩
theorem wpList_appW (w : World) {ops : Array Oper} {rest : List Oper} {o : Oper} {a : Act} {Q : Exit → Act → World → Prop} (hgd : o.guard = none) (s x : Operand)
 (ho : o.op = .call { callee := .builtin .append, args := #[s, x], argTypes := #[77, 77] })
 {lo hi n c0 m c g : Nat} {A0 : Option Addr} {l ys : List (List UInt8)} (hs : a.eval s = .slice A0 n c0) (hown : OwnW w lo hi (.slice A0 n c0) n l) (hx : a.eval x = .slice (some ⟨g, 0, none⟩) m c) (hy : ys.length = m)
 (hr : ∀ j u, (ys.map sv)[j]? = some u → w.cell? ⟨g, j, none⟩ = some u) (hlen : n + m ≤ 4194304) (hlo : lo ≤ w.heap.size)
 (h : ∀ A' c' w', OwnW w' lo w'.heap.size (.slice A' (n + m) c') (n + m) (l ++ ys) → w.grownBy w' (Value.slice A0 n c0).ownBlock → ((Value.slice A' (n + m) c').ownBlock = (Value.slice A0 n c0).ownBlock ∨ (Value.slice A' (n + m) c').ownBlock = some w.heap.size) → wpList Tryz.prog ops Q rest (a.put o.dst (.slice A' (n + m) c')) w') : wpList Tryz.prog ops Q (o :: rest) a w :=
 wpList_plain hgd fun _ hK => by
  obtain ⟨A', c', w', hrun, h2, h3, h4⟩ := run_appW w o.type lo hi n c0 m c A0 g l ys hown hy hr hlen hlo
  unfold Oper.wp execOp
  simp only [ho, resolve, invoke, builtin, Sem.run_bind, Sem.run_pure, Result.andThen_ok, List.map_toArray, List.map_cons, List.map_nil, hs, hx, hrun]
  exact hK _ _ (h A' c' w' h2 h3 h4)
theorem below_appW {B : Nat} {a w w' : World} {lo hi n c : Nat} {A : Option Addr} {l : List (List UInt8)} (h : Below B a w) (hown : OwnW w lo hi (.slice A n c) n l) (hg : w.grownBy w' (Value.slice A n c).ownBlock) (hB : B ≤ w.heap.size) (hl : B ≤ lo) : Below B a w' :=
 h.grown hg hB fun k hk => by have := hown.lt k hk; omega
theorem one_str (w : World) (x : ByteArray) (t : TypeId) (g : Nat) (hg : w.heap.size = g) : ∀ j u, ([x.data.toList].map sv)[j]? = some u → (w.alloc (.cells #[.string x] t)).cell? ⟨g, j, none⟩ = some u := by
 intro j u hu
 subst hg
 cases j with
 | zero =>
  simp only [List.map_cons, List.getElem?_cons_zero, Option.some.injEq] at hu
  subst hu
  rw [sv, bs_data]
  exact Zal _ _ 0 _ rfl
 | succ j => simp at hu
def RetWs (w : World) (l : List (List UInt8)) (e : Ending) (w' : World) : Prop :=
 ∃ A c, e = .returned (.slice A l.length c) ∧ OwnW w' w.heap.size w'.heap.size (.slice A l.length c) l.length l ∧ Below w.heap.size w w'
theorem RetWs.mk_ {w : World} {l : List (List UInt8)} {n : Nat} {A : Option Addr} {c : Nat} {e : Ending} {w' : World} (hn : l.length = n) (he : e = .returned (.slice A n c)) (ho : OwnW w' w.heap.size w'.heap.size (.slice A n c) n l) (hb : Below w.heap.size w w') : RetWs w l e w' := by
 subst hn; exact ⟨A, c, he, ho, hb⟩
theorem l1Split_any (s : List UInt8) (c : UInt8) (w : World) (hs : s.length ≤ 2097152) :
 Calls Tryz.prog 90 #[.string (bs s), .int .u8 c.toNat] w (RetWs w (splitS c s)) := by
 have hz : (bs s).size = s.length := Zbd s
 go_enter Tryz.func90, Tryz.ntmps90
 go_wp2
 go_loopw [5, 6, 7] (fun o f i wr => ∃ (j q k : Nat) (O : Option Addr) (oc : Nat) (done : List (List UInt8)), j ≤ s.length ∧ q ≤ j ∧ i = .int .i64 j ∧ f = .int .i64 q ∧ o = .slice O k oc ∧ OwnW wr w.heap.size wr.heap.size (.slice O k oc) k done ∧ Hid (splitS c s = done ++ splitS c (s.drop q)) ∧ Hid (c ∉ (s.drop q).take (j - q)) ∧ k ≤ q ∧ Below w.heap.size w wr) (fun _ _ i _ => s.length - (intOf i).toNat)
 case atStart => exact ⟨0, 0, 0, _, _, [], Nat.zero_le _, Nat.le_refl _, rfl, rfl, rfl, OwnW.none_ _ _ _, zH (by simp), zH (by simp), Nat.le_refl _, Below.refl _ _⟩
 case round =>
  obtain ⟨j, q, k, O, oc, done, hj, hq, rfl, rfl, rfl, hown, hsp, hno, hkq, hb⟩ := hrel
  have hzw := hb.size
  by_cases hlt : j < s.length
  ·obtain ⟨x, hx⟩ : ∃ x, s[j] = x := ⟨_, rfl⟩
   have hbj : (bs s)[j]'(by rw [hz]; exact hlt) = x := by
    rw [← hx]
    show (s.toArray)[j] = s[j]
    simp
   have htk : Hid ((s.drop q).take (j + 1 - q) = (s.drop q).take (j - q) ++ [x]) := zH (by
    rw [show j + 1 - q = (j - q) + 1 by omega, List.take_succ_eq_append_getElem (by simp; omega)]
    simp [← hx, show q + (j - q) = j by omega])
   by_cases hc : x = c
   ·have hcb : ((x.toNat : Int) == (c.toNat : Int)) = true := by rw [hc]; simp
    obtain ⟨X, hX⟩ : ∃ X, (bs s).extract q j = X := ⟨_, rfl⟩
    have hXd : Hid (X.data.toList = (s.drop q).take (j - q)) := zH (by rw [← hX, Lib.extract_data]; simp [bs])
    have hsp2 : Hid (splitS c s = (done ++ [X.data.toList]) ++ splitS c (s.drop (j + 1))) := zH (by
     have e : s.drop q = (s.drop q).take (j - q) ++ c :: s.drop (j + 1) := by
      have h1 := (List.take_append_drop (j - q) (s.drop q)).symm
      rw [List.drop_drop, show q + (j - q) = j by omega, List.drop_eq_getElem_cons hlt, hx, hc] at h1
      exact h1
     rw [hsp.out, e, splitS_hit hno.out, hXd.out]; simp)
    have hno2 : Hid (c ∉ (s.drop (j + 1)).take (j + 1 - (j + 1))) := zH (by simp)
    clear hx hXd htk hsp hno
    have hownA := hown.alloc (.cells #[.string X] 9)
    have hbA := hb.alloc hzw (.cells #[.string X] 9)
    go_wp2_with (at_builtin; refine wpList_appW _ rfl _ _ rfl rfl hownA rfl (ys := [X.data.toList]) rfl (one_str _ _ _ _ rfl) (by omega) (by simp; omega) ?_; intro A5 c5 w5 hown5 hg5 hat5)
    have hb5 := below_appW hbA hownA hg5 (by simp; omega) lR
    clear hbA hownA hg5 hat5 hown hb
    go_wp2
    go_roundw
    case rel => exact ⟨j + 1, j + 1, k + 1, _, _, _, by omega, Nat.le_refl _, by go_num, by go_num, rfl, hown5, hsp2, hno2, by omega, hb5⟩
    case measure => simp [intOf]; omega
   ·have hcb : ((x.toNat : Int) == (c.toNat : Int)) = false := by
     simp only [beq_eq_false_iff_ne, ne_eq]
     intro h
     exact hc (UInt8.toNat_inj.1 (by omega))
    have hno2 : Hid (c ∉ (s.drop q).take (j + 1 - q)) := zH (by
     rw [htk.out]; intro h
     rcases List.mem_append.1 h with h | h
     ·exact hno.out h
     ·simp only [List.mem_cons, List.not_mem_nil, or_false] at h; exact hc h.symm)
    clear hx htk hno
    go_wp2
    go_roundw
    case rel => exact ⟨j + 1, q, k, _, _, _, by omega, by omega, by go_num, rfl, rfl, hown, hsp, hno2, hkq, hb⟩
    case measure => simp [intOf]; omega
  ·obtain rfl : j = s.length := by omega
   obtain ⟨X, hX⟩ : ∃ X, (bs s).extract q s.length = X := ⟨_, rfl⟩
   have hXd : X.data.toList = s.drop q := by
    rw [← hX, Lib.extract_data]
    show ((bs s).data.toList.drop q).take (s.length - q) = _
    rw [show (bs s).data.toList = s by simp [bs], List.take_of_length_le (by simp)]
   have hsp2 : Hid (splitS c s = done ++ [X.data.toList]) := zH (by
    have h := hno.out
    rw [List.take_of_length_le (by simp)] at h
    rw [hsp.out, splitS_none h, hXd])
   clear hXd hsp hno
   have hownA := hown.alloc (.cells #[.string X] 9)
   have hbA := hb.alloc hzw (.cells #[.string X] 9)
   go_wp2_with (at_builtin; refine wpList_appW _ rfl _ _ rfl rfl hownA rfl (ys := [X.data.toList]) rfl (one_str _ _ _ _ rfl) (by omega) (by simp; omega) ?_; intro A5 c5 w5 hown5 hg5 hat5)
   have hb5 := below_appW hbA hownA hg5 (by simp; omega) lR
   have hl5 := hown5.len
   rw [← hsp2.out] at hown5 hl5
   clear hbA hownA hg5 hat5 hown hb
   go_wp2
   go_ret
   exact RetWs.mk_ hl5 rfl hown5 hb5
theorem Zcb (s : List UInt8) (w : World) (hs : s.length ≤ 2097152) :
 Calls Tryz.prog 102 #[.string (bs s)] w fun e w' => e = .returned (.int .i64 (readS s)) ∧ w = w' := by
 have hz : (bs s).size = s.length := Zbd s
 cases hi : inB 1 6 (s.length : Int) with
 | false =>
  have HR : Hid (readS s = -1) := zH (by
   have h : ¬ (1 ≤ s.length ∧ s.length ≤ 6) := fun h => by
    have : inB 1 6 (s.length : Int) = true := inB_iff.2 (by omega)
    rw [this] at hi; cases hi
   unfold readS; rw [if_pos (.inl h)])
  go_enter Tryz.func102, Tryz.ntmps102
  go_wp2_with fail
  refine (Zaq (s.length : Int) 1 6 _ hi _).mono ?_
  rintro e w1 ⟨rfl, rfl⟩
  go_wp2
  go_ret
  exact ⟨by rw [HR.out]; rfl, rfl⟩
 | true =>
  have hib := inB_iff.1 hi
  have hby : ∀ j (h : j < s.length), (bs s)[j]'(by rw [hz]; exact h) = s[j] := fun j h => by
   show (s.toArray)[j] = s[j]
   simp
  obtain ⟨x0, hx0⟩ : ∃ x0, s[0]'(by omega) = x0 := ⟨_, rfl⟩
  have hb0 := hby 0 (by omega)
  rw [hx0] at hb0
  have hhd : s.head? = some x0 := by rw [List.head?_eq_getElem?, List.getElem?_eq_getElem (show 0 < s.length by omega), hx0]
  by_cases hA : x0.toNat = 48 ∧ 1 < s.length
  ·have e0 : ((x0.toNat : Int) == 48) = true := by rw [hA.1]; rfl
   have hl1 : (1 : Int) < (s.length : Int) := by omega
   have HR : Hid (readS s = -1) := zH (by
    unfold readS; rw [if_pos (.inr ⟨by rw [hhd, show x0 = 48 from UInt8.toNat_inj.1 (by rw [hA.1]; rfl)], hA.2⟩)])
   clear hA hx0 hhd
   go_enter Tryz.func102, Tryz.ntmps102
   go_wp2_with fail
   refine (Zaq (s.length : Int) 1 6 _ hi _).mono ?_
   rintro e w1 ⟨rfl, rfl⟩
   go_wp2
   go_ret
   exact ⟨by rw [HR.out]; rfl, rfl⟩
  ·have HR : Hid (readS s = (digF 0 (s.drop 0)).getD (-1)) := zH (by
    unfold readS
    rw [if_neg, List.drop_zero]
    rintro (h | h)
    ·exact h (by omega)
    ·rw [hhd] at h
     have h1 : x0 = 48 := by simpa using h.1
     exact hA ⟨by rw [h1]; rfl, h.2⟩)
   have step : ∀ {m j : Nat} (h : j < s.length), ¬ (s[j].toNat < 48 ∨ 57 < s[j].toNat) → Hid (digF (m : Int) (s.drop j) = digF (((10 * m + (s[j].toNat - 48) : Nat) : Int)) (s.drop (j + 1))) := fun {m j} h hd => zH (by
    rw [List.drop_eq_getElem_cons h, digF, if_neg hd]
    congr 1
    omega)
   have stop : ∀ {m j : Nat} (h : j < s.length), (s[j].toNat < 48 ∨ 57 < s[j].toNat) → Hid ((digF (m : Int) (s.drop j)).getD (-1) = -1) := fun {m j} h hd => zH (by
    rw [List.drop_eq_getElem_cons h, digF, if_pos hd]; rfl)
   clear hx0 hhd
   have main : Calls Tryz.prog 102 #[.string (bs s)] w fun e w' => e = .returned (.int .i64 (readS s)) ∧ w = w' := by
    by_cases h48 : x0.toNat = 48
    ·have e0 : ((x0.toNat : Int) == 48) = true := by rw [h48]; rfl
     have hl1 : ¬ (1 : Int) < (s.length : Int) := by omega
     go_enter Tryz.func102, Tryz.ntmps102
     go_wp2_with fail
     refine (Zaq (s.length : Int) 1 6 _ hi _).mono ?_
     rintro e w1 ⟨rfl, rfl⟩
     go_wp2
     go_loopw [3, 4] (fun m i wr => ∃ (j q : Nat), j ≤ s.length ∧ q < 10 ^ j ∧ i = .int .i64 j ∧ m = .int .i64 q ∧ Hid (readS s = (digF (q : Int) (s.drop j)).getD (-1)) ∧ w = wr) (fun _ i _ => s.length - (intOf i).toNat)
     case atStart => exact ⟨0, 0, Nat.zero_le _, by decide, rfl, rfl, HR, rfl⟩
     case round =>
      obtain ⟨j, q, hj, hq, rfl, rfl, hR, rfl⟩ := hrel
      by_cases hlt : j < s.length
      ·have hbj := hby j hlt
       have hst := @step q j hlt
       have hsp := @stop q j hlt
       obtain ⟨x, hx⟩ : ∃ x, s[j] = x := ⟨_, rfl⟩
       rw [hx] at hbj hst hsp
       have hq6 : q < 1000000 := Nat.lt_of_lt_of_le hq (Nat.le_trans (Nat.pow_le_pow_right (by omega) (show j ≤ 6 by omega)) (by decide))
       have hxl := x.toNat_lt
       by_cases h1 : x.toNat < 48
       ·have H1 := hsp (.inl h1)
        have t1 : (x.toNat : Int) < 48 := by omega
        clear hst hsp hx hby hb0 e0
        go_wp2
        go_ret
        exact ⟨by rw [hR.out, H1.out]; rfl, rfl⟩
       ·by_cases h2 : 57 < x.toNat
        ·have H1 := hsp (.inr h2)
         have t1 : ¬ (x.toNat : Int) < 48 := by omega
         have t2 : (57 : Int) < (x.toNat : Int) := by omega
         clear hst hsp hx hby hb0 e0
         go_wp2
         go_ret
         exact ⟨by rw [hR.out, H1.out]; rfl, rfl⟩
        ·have H1 := hst (fun h => by omega)
         have t1 : ¬ (x.toNat : Int) < 48 := by omega
         have t2 : ¬ (57 : Int) < (x.toNat : Int) := by omega
         have q1 : IntKind.u8.wrap ((x.toNat : Int) - 48) = (x.toNat : Int) - 48 := by rw [IntKind.wrap_u8']; omega
         have q2 : IntKind.i64.wrap ((x.toNat : Int) - 48) = (x.toNat : Int) - 48 := IntWalk.i64_in _ (by omega)
         have q3 : IntKind.i64.wrap (10 * (q : Int)) = 10 * (q : Int) := IntWalk.i64_in _ (by omega)
         have q4 : IntKind.i64.wrap (10 * (q : Int) + ((x.toNat : Int) - 48)) = 10 * (q : Int) + ((x.toNat : Int) - 48) := IntWalk.i64_in _ (by omega)
         have hpw : 10 * q + (x.toNat - 48) < 10 ^ (j + 1) := by rw [Nat.pow_succ]; omega
         clear hst hsp hx hby hb0 e0
         go_wp2
         go_roundw
         case rel => exact ⟨j + 1, 10 * q + (x.toNat - 48), by omega, hpw, by go_num, by congr 1; omega, zH (by rw [hR.out, H1.out]), trivial⟩
         case measure => simp [intOf]; omega
      ·obtain rfl : j = s.length := by omega
       go_wp2
       go_ret
       exact ⟨by rw [hR.out, List.drop_length]; rfl, rfl⟩
    ·have e0 : ((x0.toNat : Int) == 48) = false := by simp only [beq_eq_false_iff_ne, ne_eq]; omega
     go_enter Tryz.func102, Tryz.ntmps102
     go_wp2_with fail
     refine (Zaq (s.length : Int) 1 6 _ hi _).mono ?_
     rintro e w1 ⟨rfl, rfl⟩
     go_wp2
     go_loopw [3, 4] (fun m i wr => ∃ (j q : Nat), j ≤ s.length ∧ q < 10 ^ j ∧ i = .int .i64 j ∧ m = .int .i64 q ∧ Hid (readS s = (digF (q : Int) (s.drop j)).getD (-1)) ∧ w = wr) (fun _ i _ => s.length - (intOf i).toNat)
     case atStart => exact ⟨0, 0, Nat.zero_le _, by decide, rfl, rfl, HR, rfl⟩
     case round =>
      obtain ⟨j, q, hj, hq, rfl, rfl, hR, rfl⟩ := hrel
      by_cases hlt : j < s.length
      ·have hbj := hby j hlt
       have hst := @step q j hlt
       have hsp := @stop q j hlt
       obtain ⟨x, hx⟩ : ∃ x, s[j] = x := ⟨_, rfl⟩
       rw [hx] at hbj hst hsp
       have hq6 : q < 1000000 := Nat.lt_of_lt_of_le hq (Nat.le_trans (Nat.pow_le_pow_right (by omega) (show j ≤ 6 by omega)) (by decide))
       have hxl := x.toNat_lt
       by_cases h1 : x.toNat < 48
       ·have H1 := hsp (.inl h1)
        have t1 : (x.toNat : Int) < 48 := by omega
        clear hst hsp hx hby hb0 e0
        go_wp2
        go_ret
        exact ⟨by rw [hR.out, H1.out]; rfl, rfl⟩
       ·by_cases h2 : 57 < x.toNat
        ·have H1 := hsp (.inr h2)
         have t1 : ¬ (x.toNat : Int) < 48 := by omega
         have t2 : (57 : Int) < (x.toNat : Int) := by omega
         clear hst hsp hx hby hb0 e0
         go_wp2
         go_ret
         exact ⟨by rw [hR.out, H1.out]; rfl, rfl⟩
        ·have H1 := hst (fun h => by omega)
         have t1 : ¬ (x.toNat : Int) < 48 := by omega
         have t2 : ¬ (57 : Int) < (x.toNat : Int) := by omega
         have q1 : IntKind.u8.wrap ((x.toNat : Int) - 48) = (x.toNat : Int) - 48 := by rw [IntKind.wrap_u8']; omega
         have q2 : IntKind.i64.wrap ((x.toNat : Int) - 48) = (x.toNat : Int) - 48 := IntWalk.i64_in _ (by omega)
         have q3 : IntKind.i64.wrap (10 * (q : Int)) = 10 * (q : Int) := IntWalk.i64_in _ (by omega)
         have q4 : IntKind.i64.wrap (10 * (q : Int) + ((x.toNat : Int) - 48)) = 10 * (q : Int) + ((x.toNat : Int) - 48) := IntWalk.i64_in _ (by omega)
         have hpw : 10 * q + (x.toNat - 48) < 10 ^ (j + 1) := by rw [Nat.pow_succ]; omega
         clear hst hsp hx hby hb0 e0
         go_wp2
         go_roundw
         case rel => exact ⟨j + 1, 10 * q + (x.toNat - 48), by omega, hpw, by go_num, by congr 1; omega, zH (by rw [hR.out, H1.out]), trivial⟩
         case measure => simp [intOf]; omega
      ·obtain rfl : j = s.length := by omega
       go_wp2
       go_ret
       exact ⟨by rw [hR.out, List.drop_length]; rfl, rfl⟩
   exact main
attribute [local go_sem] sepAt sepUpon pureAt pureUpon
def RetSx (b : Nat) (R : Nat → Prop) (T n : Nat) (w : World) (e : Ending) (w' : World) : Prop :=
 ∃ t : ByteArray, e = .returned (.string t) ∧ t.size ≤ n ∧ Cur w' b R T ∧ Alt (fun i => i = b) w w'
theorem one_byte (W : World) (x : UInt8) : (convert 22 9 (.slice (some ⟨W.heap.size, 0, none⟩) 1 1)).run Tryz.prog (W.alloc (.cells #[.int .u8 (x.toNat : Int)] 5)) = .ok (.string (bs [x])) (W.alloc (.cells #[.int .u8 (x.toNat : Int)] 5)) :=
 run_convert_bytes_back (P := Tryz.prog) (W.alloc (.cells #[.int .u8 (x.toNat : Int)] 5)) 22 9 5 ⟨W.heap.size, 0, none⟩ 1 [x] Tryz.underlying22 Tryz.underlying5 Tryz.underlying9 (fun i hi => by
  obtain rfl : i = 0 := by simpa using hi
  exact Zal _ _ 0 _ rfl)
theorem ext_size (t : ByteArray) (i j : Nat) (h : j ≤ t.size) : (t.extract i j).size = j - i := by
 rw [ByteArray.size_extract]; omega
set_option maxRecDepth 100000 in
set_option maxHeartbeats 4000000 in
theorem spoilt_any (s W : ByteArray) (b : Nat) (R : Nat → Prop) (T : Nat) (w : World) (h : Cur w b R T) (hT : T < 700000) (hs : s.size ≤ 100000) (hW : 1 ≤ W.size) (hW2 : W.size ≤ 200) (hR : ∀ i, R i → i < w.heap.size) (hRb : ¬ R b) :
 Calls Tryz.prog 59 #[.pointer (some ⟨b, 0, none⟩), .string s, .string W] w (RetSx b R (T + 100) (s.size + 2) w) := by
 have hb := h.lt
 go_enter Tryz.func59, Tryz.ntmps59
 go_wp2_with fail
 refine (Zaj 2 b R T _ h (by omega) (by omega)).mono ?_
 rintro e a1 ⟨x, h1, h2, rfl, c1, k1, z1⟩
 have hx : x ≤ 1 := by omega
 have hw1 : IntKind.i64.wrap (1 + (x : Int)) = ((1 + x : Nat) : Int) := by rw [IntKind.wrap_i64] <;> omega
 clear h1 h2 h z1
 go_wp2_with fail
 go_loopw [1, 7] (fun v n wr => ∃ (t : ByteArray) (q : Nat), v = .string t ∧ n = .int .i64 q ∧ q ≤ 2 ∧ t.size + q ≤ s.size + 2 ∧ Cur wr b R (T + 60 - 20 * q) ∧ Alt (fun i => i = b) w wr) (fun _ n _ => (intOf n).toNat)
 case atStart => exact ⟨s, 1 + x, rfl, rfl, by omega, by omega, c1.mono (by omega), k1⟩
 case round =>
  obtain ⟨t, q, rfl, rfl, hq, hts, hc, hk⟩ := hrel
  clear c1 k1 hx hw1
  by_cases hq0 : (0 : Int) < (q : Int)
  ·by_cases ht0 : (0 : Int) < (t.size : Int)
   ·go_wp2_with fail
    refine (Zaj (t.size : Int) b R _ _ hc (by omega) (by omega)).mono ?_
    rintro e a2 ⟨i, h1, h2, rfl, c2, k2, z2⟩
    have hi : i < t.size := by omega
    have kk2 := hk.trans_ k2 (fun _ _ h => h)
    clear h1 h2 z2 k2 hc hk
    go_wp2_with fail
    refine (Zaj (W.size : Int) b R _ _ c2 (by omega) (by omega)).mono ?_
    rintro e a3 ⟨u, h1, h2, rfl, c3, k3, z3⟩
    have hu : u < W.size := by omega
    have kk3 := kk2.trans_ k3 (fun _ _ h => h)
    clear h1 h2 z3 k3 c2 kk2
    obtain ⟨y, hy⟩ : ∃ y, W[u]'hu = y := ⟨_, rfl⟩
    have hcv := one_byte a3 y
    have k4 := kk3.alloc_ (.cells #[.int .u8 (y.toNat : Int)] 5)
    have c4 := c3.alt ((Alt.refl_ (fun _ => False) a3).alloc_ (.cells #[.int .u8 (y.toNat : Int)] 5)) (fun h => h) (fun _ _ h => h)
    clear c3 kk3
    go_wp2_with fail
    refine (Zaj 3 b R _ _ c4 (by omega) (by omega)).mono ?_
    rintro e a4 ⟨z, h1, h2, rfl, c5, k5, z5⟩
    have hz : z = 0 ∨ z = 1 ∨ z = 2 := by omega
    have kk5 := k4.trans_ k5 (fun _ _ h => h)
    have hwi : IntKind.i64.wrap ((i : Int) + 1) = ((i + 1 : Nat) : Int) := by rw [IntKind.wrap_i64] <;> omega
    have hbz : (bs [y]).size = 1 := Zbd _
    clear h1 h2 z5 k4 c4 k5 hcv hy
    rcases hz with rfl | rfl | rfl
    ·have e1 : (t.extract 0 i).size = i := by rw [ext_size _ _ _ (by omega)]; omega
     have e2 : (t.extract i t.size).size = t.size - i := ext_size _ _ _ lR
     have hsz : Hid ((t.extract 0 i ++ bs [y] ++ t.extract i t.size).size + (q - 1) ≤ s.size + 2) := zH (by rw [ByteArray.size_append, ByteArray.size_append, e1, hbz, e2]; omega)
     have kk9 := kk5.drewN_
     have c9 := fun j => c5.alt ((Alt.refl_ (fun _ => False) a4).drewN_ j) (fun h => h) (fun _ _ h => h)
     clear c5 kk5
     go_wp2_with fail
     go_quiet (fail)
     clear e1 e2 hbz
     go_wp2
     go_roundw
     case rel => exact ⟨_, q - 1, rfl, congrArg (Value.int .i64) (by omega), by omega, hsz.out, (c9 _).mono (by omega), kk9 _⟩
     case measure => simp [intOf] <;> omega
    ·have e1 : (t.extract 0 i).size = i := by rw [ext_size _ _ _ (by omega)]; omega
     have e2 : (t.extract (i + 1) t.size).size = t.size - (i + 1) := ext_size _ _ _ lR
     have hsz : Hid ((t.extract 0 i ++ bs [y] ++ t.extract (i + 1) t.size).size + (q - 1) ≤ s.size + 2) := zH (by rw [ByteArray.size_append, ByteArray.size_append, e1, hbz, e2]; omega)
     have kk9 := kk5.drewN_
     have c9 := fun j => c5.alt ((Alt.refl_ (fun _ => False) a4).drewN_ j) (fun h => h) (fun _ _ h => h)
     clear c5 kk5
     go_wp2_with fail
     go_quiet (fail)
     clear e1 e2 hbz
     go_wp2
     go_roundw
     case rel => exact ⟨_, q - 1, rfl, congrArg (Value.int .i64) (by omega), by omega, hsz.out, (c9 _).mono (by omega), kk9 _⟩
     case measure => simp [intOf] <;> omega
    ·have e1 : (t.extract 0 i).size = i := by rw [ext_size _ _ _ (by omega)]; omega
     have e2 : (t.extract (i + 1) t.size).size = t.size - (i + 1) := ext_size _ _ _ lR
     have hsz : Hid ((t.extract 0 i ++ t.extract (i + 1) t.size).size + (q - 1) ≤ s.size + 2) := zH (by rw [ByteArray.size_append, e1, e2]; omega)
     have kk9 := kk5.drewN_
     have c9 := fun j => c5.alt ((Alt.refl_ (fun _ => False) a4).drewN_ j) (fun h => h) (fun _ _ h => h)
     clear c5 kk5
     go_wp2_with fail
     go_quiet (fail)
     clear e1 e2 hbz
     go_wp2
     go_roundw
     case rel => exact ⟨_, q - 1, rfl, congrArg (Value.int .i64) (by omega), by omega, hsz.out, (c9 _).mono (by omega), kk9 _⟩
     case measure => simp [intOf] <;> omega
   ·go_wp2
    go_ret
    exact ⟨t, rfl, by omega, hc.mono (by omega), hk⟩
  ·go_wp2
   go_ret
   exact ⟨t, rfl, by omega, hc.mono (by omega), hk⟩
theorem circT_len {x y : Int} {gs : List G3} {os : List Int} (h : circB x y gs os = true) : (circT x y gs os).length ≤ 30000 := by
 obtain ⟨hx, hy, hg, ho, _, _⟩ := Zao h
 have h1 := Zcl (wd := [99, 105, 114, 99, 117, 105, 116]) (ns := [x, y]) (fun n hn => by simp only [List.mem_cons, List.not_mem_nil, or_false] at hn; rcases hn with rfl | rfl <;> omega)
 have h2 := Zcm (circB_gsm h) gs.length lR
 rw [List.take_length] at h2
 have h3 := Zcl (wd := [111, 117, 116, 115]) (circB_osm h)
 simp only [List.length_cons, List.length_nil] at h1 h3
 unfold circT
 rw [List.length_append, List.length_append]
 omega
set_option maxRecDepth 100000 in
set_option maxHeartbeats 2000000 in
theorem DrawParseCircuit_any (Y : Option Addr) (n c : Nat) (w : World) (hY : RY w Y n) :
 Calls Tryz.prog 19 #[.slice Y n c] w fun e w' => ∃ s : List UInt8, e = .returned (.string (bs s)) ∧ s.length ≤ 100000 ∧ Below w.heap.size w w' := by
 have hc0 := Cur.new (c := c) hY
 have hA2 : Below w.heap.size w (w.alloc (.cells #[.slice Y n c, .int .i64 0, .int .u64 0] 59)) := bA
 have hR : ∀ i, tblk Y n i → i < w.heap.size := tblk_lt hY
 have hs1 : (w.alloc (.cells #[.slice Y n c, .int .i64 0, .int .u64 0] 59)).heap.size = w.heap.size + 1 := by simp
 have hRb : ¬ tblk Y n w.heap.size := fun h => by have := hR _ h; omega
 generalize tblk Y n = R at hc0 hR hRb
 go_enter Tryz.func19, Tryz.ntmps19
 go_wp2_with fail
 refine (circuitV_any w.heap.size R 0 _ hc0 (by omega) (fun i hi => by have := hR i hi; omega) hRb).mono ?_
 rintro e a1 ⟨⟨x, y, gs, os⟩, A, ca, O, co, rfl, ho1, hx, hy, hng, hno, hcb, c1, k1⟩
 dsimp only at ho1 hx hy hng hno hcb ⊢
 have kw : Alt (fun i => i = w.heap.size) w a1 := (Alt.of_new (S := fun i => i = w.heap.size) hA2).trans_ k1 (fun _ _ h => h)
 have hlt := circT_len hcb
 obtain ⟨L, hL⟩ : ∃ L, circT x y gs os = L := ⟨_, rfl⟩
 have HL := zH hL
 rw [hL] at hlt
 have hz := k1.size
 have hzs : (bs L).size = L.length := Zbd _
 clear hL hc0 hA2 k1
 go_wp2_with fail
 refine (ciText_any x y A gs.length ca O os.length co gs os _ ⟨ho1.1.reads, ho1.2.1.reads⟩ hcb).mono ?_
 rintro e a2 ⟨he, b2⟩
 rw [HL.out] at he
 subst he
 have c2 := c1.alt (Alt.of_new (S := fun _ => False) b2) (fun h => h) (fun _ _ h => h)
 have k2 := kw.new_ b2
 have hz2 := k2.size
 clear c1 kw b2 ho1 hcb
 go_wp2_with fail
 refine (one_any 3 w.heap.size R _ _ c2 (by omega) (by omega)).mono ?_
 rintro e a3 ⟨t, rfl, c3, k3, z3⟩
 have k4 := k2.trans_ k3 (fun _ _ h => h)
 have hz4 := k4.size
 clear c2 k2 k3 z3
 cases t with
 | true =>
  go_wp2_with fail
  refine (spoilt_any (bs L) _ w.heap.size R _ _ c3 (by omega) (by omega) (by decide) (by decide) (fun i hi => by have := hR i hi; omega) hRb).mono ?_
  rintro e a5 ⟨t, rfl, ht, c5, k5⟩
  have k6 := k4.trans_ k5 (fun _ _ h => h)
  have hts : t.data.toList.length = t.size := by have h9 := Zbd t.data.toList; rw [bs_data] at h9; exact h9.symm
  go_wp2
  go_ret
  exact ⟨t.data.toList, by rw [bs_data]; rfl, by omega, k6.below_ lR (fun i hi h => by omega)⟩
 | false =>
  go_wp2
  go_ret
  exact ⟨L, rfl, by omega, k4.below_ lR (fun i hi h => by omega)⟩
end Go.Proofs.YtnhmfedegfcflaaGreatDoor
namespace Go.Proofs.YtnhmfedegfcflaaGreatDoor
open Go.RowKit
set_option linter.unusedVariables false
set_option linter.unusedSimpArgs false
theorem postRowG.new0 (w : World) : postRowG w 0 [] (.slice (some ⟨w.heap.size, 0, none⟩) 0 0) (w.alloc (.cells #[] 49)) :=
 ⟨_, _, rfl, (OwnG_new0 w w.heap.size lR).hi_ (by simp), bA⟩
section
variable {W : World} {own : Nat → Prop} {cs : List (Addr × Value)} {sk : List (Nat × List Nat × List Nat)} {ini fi : List Nat} {rs : List (Nat × Res)} {ops : Array Oper} {L : Act → (Nat → Value) → Prop} {k : Nat} {o : Oper} {rest : List Oper} {a : Act} {ρ : Nat → Value}
theorem mem_appG0 (d lo m : Nat) (ys : List G3) (A0 : Option Addr) (c0 : Nat) (A : Option Addr) (c : Nat) (s x : Operand) (hr : resAt rs k = Res.rowG lo m ys) (he : effB sk k = true) (hlo : lo ≤ W.heap.size) (hrd : resAt rs d = Res.rowG lo 0 []) (hd : consL sk k = [d]) (hdd : d ∈ depsL sk k) (hρ : ρ d = .slice A0 0 c0)
 (ho : o.op = .call { callee := .builtin .append, args := #[s, x], argTypes := #[24, 24] }) (hs : a.eval s = .slice A0 0 c0) (hx : a.eval x = .slice A m c)
 (hlen : m ≤ 8388608) (hread : ∀ w, Alt (okB W own) W w → CellsL w cs → (mkSep W own cs sk ini fi rs).pre k ρ w → RG w A m ys)
 (h : ∀ A' c', wpSep (mkSep W own cs sk ini fi rs) Tryz.prog ops L (k + 1) rest (a.put o.dst (.slice A' m c')) (upd ρ k (.slice A' m c'))) (hw : Region.wanted o (yielded ops a.tmps) = true := by first | exact Zac rfl | exact Zaa rfl rfl rfl rfl) : wpSep (mkSep W own cs sk ini fi rs) Tryz.prog ops L k (o :: rest) a ρ := by
 refine mem_appG (hw := hw) d lo 0 m [] ys A0 c0 A c s x ?_ he hlo hrd hd hdd hρ ho hs hx (by omega) hread fun A' c' => ?_
 ·rw [hr, Nat.zero_add, List.nil_append]
 ·rw [Nat.zero_add]; exact h A' c'
def Res.two (lo ng no : Nat) (gs : List G3) (os : List Int) (V : Option Addr → Nat → Option Addr → Nat → Value) : Res :=
 ⟨fun _ v => ∃ A c O d, v = V A c O d, fun _ v w => ∀ A c O d, v = V A c O d → OwnC w lo w.heap.size A ng c O no d gs os,
  fun _ v b => ∃ A c O d, v = V A c O d ∧ ((Value.slice A ng c).ownBlock = some b ∨ (Value.slice O no d).ownBlock = some b), fun _ => ⟨V none 0 none 0, none, 0, none, 0, rfl⟩,
  fun _ v w w' S h k hb A c O d hv => by
   have h1 := h A c O d hv
   exact ⟨(h1.1.alt k fun g hg => (hb g ⟨A, c, O, d, hv, .inl hg⟩).1).now, (h1.2.1.alt k fun g hg => (hb g ⟨A, c, O, d, hv, .inr hg⟩).1).now, h1.2.2⟩⟩
def postTwo (w : World) (ng no : Nat) (gs : List G3) (os : List Int) (V : Option Addr → Nat → Option Addr → Nat → Value) (v : Value) (w' : World) : Prop := ∃ A c O d, v = V A c O d ∧ OwnC w' w.heap.size w'.heap.size A ng c O no d gs os ∧ Below w.heap.size w w'
theorem postTwo.mk_ {w w' : World} {ng no : Nat} {gs : List G3} {os : List Int} {V : Option Addr → Nat → Option Addr → Nat → Value} {v : Value} (A : Option Addr) (c : Nat) (O : Option Addr) (d : Nat) (hv : v = V A c O d) (h : OwnC w' w.heap.size w'.heap.size A ng c O no d gs os) (hb : Below w.heap.size w w') : postTwo w ng no gs os V v w' := ⟨A, c, O, d, hv, h, hb⟩
theorem mem_two (lo ng no : Nat) (gs : List G3) (os : List Int) (V : Option Addr → Nat → Option Addr → Nat → Value) (hV : ∀ {A A' : Option Addr} {c c' : Nat} {O O' : Option Addr} {d d' : Nat}, V A c O d = V A' c' O' d' → A = A' ∧ c = c' ∧ O = O' ∧ d = d') {P : Program} (hr : resAt rs k = Res.two lo ng no gs os V) (he : effB sk k = true) (hlo : lo ≤ W.heap.size)
 (hx : ∀ w, Alt (okB W own) W w → CellsL w cs → (mkSep W own cs sk ini fi rs).pre k ρ w → sepAt P o a (postTwo w ng no gs os V) w)
 (h : ∀ A c O d, wpSep (mkSep W own cs sk ini fi rs) P ops L (k + 1) rest (a.put o.dst (V A c O d)) (upd ρ k (V A c O d))) (hw : Region.wanted o (yielded ops a.tmps) = true := by first | exact Zac rfl | exact Zaa rfl rfl rfl rfl) : wpSep (mkSep W own cs sk ini fi rs) P ops L k (o :: rest) a ρ :=
 Zbl (hw := hw) _ hr he (fun w hw hc hp => Zaz (hx w hw hc hp) fun v w' ⟨A, c, O, d, h1, h2, h3⟩ => by
  subst h1
  refine ⟨⟨A, c, O, d, rfl⟩, fun A' c' O' d' hv => ?_, Alt.of_new h3, fun b ⟨A', c', O', d', hv, hb⟩ => ?_⟩
  ·obtain ⟨rfl, rfl, rfl, rfl⟩ := hV hv
   exact h2.lo_ (Nat.le_trans hlo hw.size)
  ·obtain ⟨rfl, rfl, rfl, rfl⟩ := hV hv
   exact ⟨hb.elim (fun h => (h2.1.lt b h).2.2) (fun h => (h2.2.1.lt b h).2.2), .inl (hb.elim (fun h => (h2.1.lt b h).1) (fun h => (h2.2.1.lt b h).1))⟩) fun v hv => by
  obtain ⟨A, c, O, d, rfl⟩ := hv
  exact h A c O d
def Res.stG (lo : Nat) (x y : Int) (ng : Nat) (gs : List G3) : Res :=
 ⟨fun _ v => v = undef, fun ds _ w => ∀ A c b, ds = [.slice A ng c, .pointer (some ⟨b, 0, none⟩)] → BxC w b x y A ng c none 0 0 ∧ Fz w b ∧ b < w.heap.size ∧ OwnG w lo w.heap.size (.slice A ng c) ng gs ∧ (Value.slice A ng c).ownBlock ≠ some b,
  fun ds _ g => ∃ A c b, ds = [.slice A ng c, .pointer (some ⟨b, 0, none⟩)] ∧ (g = b ∨ (Value.slice A ng c).ownBlock = some g), fun _ => ⟨undef, rfl⟩,
  fun ds v w w' S h k hb A c b hv => by
   obtain ⟨h1, h2, h3, h4, h5⟩ := h A c b hv
   have hbS := (hb b ⟨A, c, b, hv, .inl rfl⟩).1
   exact ⟨h1.alt k hbS, h2.alt k h3 hbS, Nat.lt_of_lt_of_le h3 k.size, (h4.alt k fun g hg => (hb g ⟨A, c, b, hv, .inr hg⟩).1).now, h5⟩⟩
theorem mem_stG (d1 d2 lo : Nat) (x y : Int) (ng : Nat) (gs : List G3) (A : Option Addr) (c b : Nat) {P : Program}
 (hr : resAt rs k = Res.stG lo x y ng gs) (he : effB sk k = true) (h1 : resAt rs d1 = Res.rowG lo ng gs) (h2 : resAt rs d2 = Res.box [.int .i64 0, .int .i64 0, .slice none 0 0, .slice none 0 0]) (hdp : depsL sk k = [d1, d2]) (hcn : consL sk k = [d1, d2]) (hne : d1 ≠ d2) (hρ1 : ρ d1 = .slice A ng c) (hρ2 : ρ d2 = .pointer (some ⟨b, 0, none⟩))
 (hx : ∀ w, Alt (okB W own) W w → CellsL w cs → BxC w b 0 0 none 0 0 none 0 0 → Fz w b → sepAt P o a (postSet undef ((((w.setCell ⟨b, 0, none⟩ (.int .i64 x)).setCell ⟨b, 1, none⟩ (.int .i64 y)).setCell ⟨b, 2, none⟩ (.slice A ng c)).setCell ⟨b, 3, none⟩ (.slice none 0 0))) w)
 (h : wpSep (mkSep W own cs sk ini fi rs) P ops L (k + 1) rest (a.put o.dst undef) (upd ρ k undef)) (hw : Region.wanted o (yielded ops a.tmps) = true := by first | exact Zac rfl | exact Zaa rfl rfl rfl rfl) : wpSep (mkSep W own cs sk ini fi rs) P ops L k (o :: rest) a ρ :=
 Zbl (hw := hw) _ hr he (fun w hw hc hp => by
  have hd1 : d1 ∈ depsL sk k := by rw [hdp]; simp
  have hd2 : d2 ∈ depsL sk k := by rw [hdp]; simp
  have q1 := Zbo hd1 hp hρ1 h1
  have q2 := Zbo hd2 hp hρ2 h2
  have hO : OwnG w lo w.heap.size (.slice A ng c) ng gs := q1.1
  obtain ⟨hbl, hcl, hfz⟩ := q2.1 b rfl
  have hap : ∀ g, (Value.slice A ng c).ownBlock = some g → g ≠ b := fun g hg hgb => by
   subst hgb
   have := hp.2 d1 hd1 d2 hd2 hne g (show (resAt rs d1).blk ((depsL sk d1).map ρ) (ρ d1) g by rw [h1, hρ1]; exact hg)
   exact this (show (resAt rs d2).blk ((depsL sk d2).map ρ) (ρ d2) g by rw [h2, hρ2]; exact rfl)
  have hz : BxC w b 0 0 none 0 0 none 0 0 := ⟨hcl.1, hcl.2.1, hcl.2.2.1, hcl.2.2.2.1⟩
  have hin : ∀ {g : Nat}, (g = b ∨ (Value.slice A ng c).ownBlock = some g) → (mkSep W own cs sk ini fi rs).hit k ρ g := fun {g} hg => by
   rcases hg with hg | hg
   ·subst hg
    exact ⟨d2, by show d2 ∈ consL sk k; rw [hcn]; simp, show (resAt rs d2).blk ((depsL sk d2).map ρ) (ρ d2) g by rw [h2, hρ2]; exact rfl⟩
   ·exact ⟨d1, by show d1 ∈ consL sk k; rw [hcn]; simp, show (resAt rs d1).blk ((depsL sk d1).map ρ) (ρ d1) g by rw [h1, hρ1]; exact hg⟩
  have hds : (depsL sk k).map ρ = [.slice A ng c, .pointer (some ⟨b, 0, none⟩)] := by rw [hdp]; simp [hρ1, hρ2]
  refine Zaz (hx w hw hc hz hfz) fun v w' ⟨e1, e2⟩ => ?_
  subst e1; subst e2
  have ka : Alt (fun i => i = b) w ((((w.setCell ⟨b, 0, none⟩ (.int .i64 x)).setCell ⟨b, 1, none⟩ (.int .i64 y)).setCell ⟨b, 2, none⟩ (.slice A ng c)).setCell ⟨b, 3, none⟩ (.slice none 0 0)) := Zbh (Alt.refl_ (fun i => i = b) w) (fun _ => rfl) x y A ng c none 0 0
  have hsz := Zbr (w := w) (b := b) x y A ng c none 0 0
  refine ⟨rfl, fun A' c' b' hv => ?_, ka.mono_ fun i _ hi => hin (.inl hi), fun g ⟨A', c', b', hv, hg⟩ => ?_⟩
  ·rw [hds] at hv
   simp only [List.cons.injEq, Value.pointer.injEq, Option.some.injEq, Addr.mk.injEq, and_true, Value.slice.injEq, true_and] at hv
   obtain ⟨⟨rfl, rfl⟩, rfl⟩ := hv
   exact ⟨BxC.set4 hz x y A ng c none 0 0, (((hfz.set _ _).set _ _).set _ _).set _ _, by rw [hsz]; exact hbl, (hO.alt ka fun g hg => hap g hg).now, fun hc => hap b hc rfl⟩
  ·rw [hds] at hv
   simp only [List.cons.injEq, Value.pointer.injEq, Option.some.injEq, Addr.mk.injEq, and_true, Value.slice.injEq, true_and] at hv
   obtain ⟨⟨rfl, rfl⟩, rfl⟩ := hv
   refine ⟨?_, .inr (hin hg)⟩
   rw [hsz]
   rcases hg with hg | hg
   ·subst hg; exact hbl
   ·exact (hO.lt g hg).2.2) fun v hv => by
  obtain rfl : v = undef := hv
  exact h
end
def tupV (ng no : Nat) (A : Option Addr) (c : Nat) (O : Option Addr) (d : Nat) : Value := .tuple #[.slice A ng c, .slice O no d]
theorem tupV_inj {ng no : Nat} {A A' : Option Addr} {c c' : Nat} {O O' : Option Addr} {d d' : Nat} (h : tupV ng no A c O d = tupV ng no A' c' O' d') : A = A' ∧ c = c' ∧ O = O' ∧ d = d' := by
 unfold tupV at h
 simpa [and_assoc] using h
section
variable {P : Program} {W : World} {own : Nat → Prop} {cs : List (Addr × Value)} {sk : List (Nat × List Nat × List Nat)} {ini fi : List Nat} {rs : List (Nat × Res)} {ops : Array Oper} {L : Act → (Nat → Value) → Prop} {k : Nat} {o : Oper} {rest : List Oper} {a : Act} {ρ : Nat → Value}
end
theorem ofInt_i64 {a : Nat} (ha : a < 9223372036854775808) : (BitVec.ofInt 64 (a : Int)).toNat = a := by
 rw [BitVec.ofInt_natCast, BitVec.toNat_ofNat]; exact Nat.mod_eq_of_lt (by omega)
theorem bor_nat {a b : Nat} (ha : a < 4611686018427387904) (hb : b < 4611686018427387904) : bits .or .i64 (a : Int) (b : Int) = ((a ||| b : Nat) : Int) := by
 have hx : a ||| b < 2 ^ 62 := Nat.or_lt_two_pow (by omega) (by omega)
 show IntKind.i64.wrap ((BitVec.ofInt 64 (a : Int) ||| BitVec.ofInt 64 (b : Int)).toNat : Int) = _
 rw [BitVec.toNat_or, ofInt_i64 (by omega), ofInt_i64 (by omega)]
 exact IntWalk.i64_in _ (by omega)
theorem band_nat {a b : Nat} (ha : a < 4611686018427387904) (hb : b < 4611686018427387904) : bits .and .i64 (a : Int) (b : Int) = ((a &&& b : Nat) : Int) := by
 have hx : a &&& b < 2 ^ 62 := Nat.and_lt_two_pow _ (by omega)
 show IntKind.i64.wrap ((BitVec.ofInt 64 (a : Int) &&& BitVec.ofInt 64 (b : Int)).toNat : Int) = _
 rw [BitVec.toNat_and, ofInt_i64 (by omega), ofInt_i64 (by omega)]
 exact IntWalk.i64_in _ (by omega)
theorem and_one (n : Nat) : n &&& 1 = n % 2 := Nat.and_one_is_mod n
theorem or_place {a b i : Nat} (h : a < 2 ^ i) : a ||| (b * 2 ^ i) = a + b * 2 ^ i := by
 rw [Nat.or_comm, ← Nat.shiftLeft_eq, ← Nat.shiftLeft_add_eq_or_of_lt h, Nat.add_comm]
def bitsN (n k : Nat) : List Int := tab k fun i => ((n / 2 ^ i % 2 : Nat) : Int)
theorem Zby (n k : Nat) : (bitsN n k).length = k := Zbz _ _
theorem bitsN_snoc (n k : Nat) : bitsN n (k + 1) = bitsN n k ++ [((n / 2 ^ k % 2 : Nat) : Int)] := tab_snoc _ _
theorem bitsN_bd (n k : Nat) : allB 0 1 (bitsN n k) = true := allB_iff.2 fun x hx => by
 obtain ⟨j, _, rfl⟩ := mem_tab hx; omega
def numN : List Int → Int
 | [] => 0
 | b :: l => b + 2 * numN l
theorem numN_snoc (l : List Int) (b : Int) : numN (l ++ [b]) = numN l + b * 2 ^ l.length := by
 induction l with
 | nil => simp [numN]
 | cons c l ih =>
  simp only [List.cons_append, numN, ih, List.length_cons, Int.pow_succ]
  have : 2 * (b * 2 ^ l.length) = b * (2 ^ l.length * 2) := by rw [Int.mul_comm 2, Int.mul_assoc]
  omega
theorem numN_bd {l : List Int} (h : allB 0 1 l = true) : 0 ≤ numN l ∧ numN l < 2 ^ l.length := by
 induction l with
 | nil => simp [numN]
 | cons c l ih =>
  simp only [allB, List.all_cons, Bool.and_eq_true] at h
  have h1 := inB_iff.1 h.1
  obtain ⟨h2, h3⟩ := ih h.2
  simp only [numN, List.length_cons, Int.pow_succ]
  omega
theorem two_pow_le {k m : Nat} (h : k ≤ m) : (2 : Int) ^ k ≤ 2 ^ m := by
 have := Nat.pow_le_pow_right (n := 2) (by omega) h
 exact_mod_cast this
theorem numN_le {l : List Int} (h : allB 0 1 l = true) (hl : l.length ≤ 40) : 0 ≤ numN l ∧ numN l < 1099511627776 := by
 have h1 := numN_bd h
 have h2 := two_pow_le hl
 have h3 : (2 : Int) ^ 40 = 1099511627776 := by decide
 omega
theorem numN_drop {l : List Int} {k : Nat} (h : k < l.length) : numN (l.drop k) = gi l k + 2 * numN (l.drop (k + 1)) := by
 rw [List.drop_eq_getElem_cons h, numN, gi_lt h]
theorem allB_take_ {lo hi : Int} {l : List Int} (h : allB lo hi l = true) (k : Nat) : allB lo hi (l.take k) = true := allB_iff.2 fun x hx => allB_iff.1 h x (List.mem_of_mem_take hx)
theorem allB_drop_ {lo hi : Int} {l : List Int} (h : allB lo hi l = true) (k : Nat) : allB lo hi (l.drop k) = true := allB_iff.2 fun x hx => allB_iff.1 h x (List.mem_of_mem_drop hx)
theorem pick_bd {lo hi : Int} {l os : List Int} (h : allB lo hi l = true) (ho : allB 0 (l.length - 1) os = true) : allB lo hi (pick l os) = true := allB_iff.2 fun x hx => by
 simp only [pick, List.mem_map] at hx
 obtain ⟨o, hm, rfl⟩ := hx
 have := allB_iff.1 ho o hm
 exact Zbv h (by omega)
def outsN (gs : List G3) (os : List Int) (x n : Nat) : List Int := pick (vals gs (bitsN n x) gs.length) os
theorem outsN_len (gs : List G3) (os : List Int) (x n : Nat) : (outsN gs os x n).length = os.length := Zbs _ _
theorem outsN_bd {gs : List G3} {os : List Int} {x : Nat} (hg : gatesB x gs gs.length = true) (ho : allB 0 (x + gs.length - 1) os = true) (n : Nat) : allB 0 1 (outsN gs os x n) = true := by
 refine pick_bd (vals_bd (by rw [Zby]) (bitsN_bd n x) _ _ lR hg) ?_
 rw [Zbm, Zby]
 simpa using ho
end Go.Proofs.YtnhmfedegfcflaaGreatDoor
