/- Operations of two numbers, the program's two, part a. -/
import Derived.Test.YtenknpcbbcbciaaGreatQS12
import Derived.Test.YtenknpcbbcbciaaGreatQS05
import Derived.Test.YtenknpcbbcbciaaGreatQS11
namespace Go.Proofs.YtenknpcbbcbciaaGreat
open Go.RowKit
set_option linter.unusedVariables false
set_option linter.unusedSimpArgs false
section
variable (w : World)
theorem run_appL (ty : TypeId) (lo hi lo2 hi2 n c0 m c b q : Nat) (A0 A : Option Addr) (xss : List (List Int)) (ys : List Int) (hown : OwnII w lo hi (.slice A0 n c0) n xss) (hnew : Own w lo2 hi2 (.slice A m c) m ys) (hc : w.cell? ⟨b, 0, none⟩ = some (.slice A m c))
 (hd : hi ≤ lo2) (hl2 : lo ≤ lo2) (hlen : n ≤ 4194304) (hlo : lo ≤ w.heap.size) :
 ∃ A' c' w', (Builtin.append_ #[61, 61] ty #[.slice A0 n c0, .slice (some ⟨b, 0, none⟩) 1 q]).run Tryz.prog w = .ok (.slice A' (n + 1) c') w' ∧
  OwnII w' lo w'.heap.size (.slice A' (n + 1) c') (n + 1) (xss ++ [ys]) ∧ w.grownBy w' (Value.slice A0 n c0).ownBlock ∧ StayA A0 (n * 1) w w' := by
 obtain ⟨vals, h1, h2, h3, h4, h5⟩ := hown
 obtain ⟨i, hi0, hz0, hz1, hz2⟩ := info_parts info_ints
 have hrv : RV w (some ⟨b, 0, none⟩) 1 1 [.slice A m c] := by
  refine ⟨rfl, fun _ => ⟨_, rfl, fun j u hu => ?_⟩⟩
  cases j with
  | zero => simp at hu; subst hu; rw [Zcf]; exact hc
  | succ j => simp at hu
 obtain ⟨A', c', w', hrun, hr, hg, hat, hs⟩ := Zdn (P := Tryz.prog) w 61 ty 24 i (.slice none 0 0) 1 24 Tryz.underlying61 hi0 hz0 hz1 hz2 rfl (by decide) lo n c0 1 q A0 (some ⟨b, 0, none⟩) _ _ h1 hrv (by intro u hu; simp at hu; subst hu; rfl) (by unfold maxLen; omega) (by omega) hlo
 refine ⟨A', c', w', hrun, ?_, hg, hs⟩
 have hl : vals.length = n := by simpa using h1.1
 have hne : ∀ {lo' hi' k : Nat} {u : Value} {zs : List Int}, Own w lo' hi' u k zs → Own w' lo' hi' u k zs := by
  intro lo' hi' k u zs hu
  exact hu.apart hg (Zel hu.1 h1 (by decide))
 refine ⟨_, hr, fun g hg' => (hr.lt g hg').2, by simp [h3], fun j hj => ?_, fun i j u u' hij hu hu' => ?_⟩
 ·by_cases hjn : j < n
  ·obtain ⟨A', m', c'', h6, h7⟩ := h4 j hjn
   refine ⟨A', m', c'', by rw [List.getElem?_append_left (by omega)]; exact h6, ?_⟩
   rw [gl_append_lt (by omega)]
   exact (hne h7).now
  ·obtain rfl : j = n := by omega
   refine ⟨A, m, c, by rw [List.getElem?_append_right (by omega), hl, Nat.sub_self]; rfl, ?_⟩
   rw [← h3, gl_append_eq]
   exact ((hne hnew).lo_ hl2).now
 ·by_cases hjn : j < n
  ·rw [List.getElem?_append_left (by omega)] at hu hu'
   exact h5 i j u u' hij hu hu'
  ·have hj2 : j < (vals ++ [Value.slice A m c]).length := by
    rcases Nat.lt_or_ge j (vals ++ [Value.slice A m c]).length with h | h
    ·exact h
    ·rw [List.getElem?_eq_none h] at hu'; cases hu'
   simp at hj2
   obtain rfl : j = n := by omega
   rw [List.getElem?_append_left (by omega)] at hu
   rw [List.getElem?_append_right (by omega), hl, Nat.sub_self] at hu'
   simp at hu'
   subst hu'
   obtain ⟨A', m', c'', h6, h7⟩ := h4 i (by omega)
   rw [hu] at h6
   injection h6 with h6
   subst h6
   intro g hg1 hg2
   have q1 := h7.lt g hg1
   have q2 := hnew.lt g hg2
   omega
theorem wp_appL {o : Oper} {a : Act} {K : Act → World → Prop} {Q : Exit → Act → World → Prop} (s x : Operand)
 (ho : o.op = .call { callee := .builtin .append, args := #[s, x], argTypes := #[61, 61] })
 {lo hi lo2 hi2 n c0 m c b q : Nat} {A0 A : Option Addr} {xss : List (List Int)} {ys : List Int} (hs : a.eval s = .slice A0 n c0) (hown : OwnII w lo hi (.slice A0 n c0) n xss) (hx : a.eval x = .slice (some ⟨b, 0, none⟩) 1 q) (hnew : Own w lo2 hi2 (.slice A m c) m ys) (hc : w.cell? ⟨b, 0, none⟩ = some (.slice A m c))
 (hd : hi ≤ lo2) (hl2 : lo ≤ lo2) (hlen : n ≤ 4194304) (hlo : lo ≤ w.heap.size)
 (h : ∀ A' c' w', OwnII w' lo w'.heap.size (.slice A' (n + 1) c') (n + 1) (xss ++ [ys]) → w.grownBy w' (Value.slice A0 n c0).ownBlock → StayA A0 (n * 1) w w' → K (a.put o.dst (.slice A' (n + 1) c')) w') : o.wp Tryz.prog a w K Q := by
 obtain ⟨A', c', w', hrun, h2, h3, h5⟩ := run_appL w o.type lo hi lo2 hi2 n c0 m c b q A0 A xss ys hown hnew hc hd hl2 hlen hlo
 unfold Oper.wp execOp
 simp only [ho, resolve, invoke, builtin, Sem.run_bind, Sem.run_pure, Result.andThen_ok, List.map_toArray, List.map_cons, List.map_nil, hs, hx, hrun]
 exact h A' c' w' h2 h3 h5
theorem wpList_appL {ops : Array Oper} {rest : List Oper} {o : Oper} {a : Act} {Q : Exit → Act → World → Prop} (hgd : o.guard = none) (s x : Operand)
 (ho : o.op = .call { callee := .builtin .append, args := #[s, x], argTypes := #[61, 61] })
 {lo hi lo2 hi2 n c0 m c b q : Nat} {A0 A : Option Addr} {xss : List (List Int)} {ys : List Int} (hs : a.eval s = .slice A0 n c0) (hown : OwnII w lo hi (.slice A0 n c0) n xss) (hx : a.eval x = .slice (some ⟨b, 0, none⟩) 1 q) (hnew : Own w lo2 hi2 (.slice A m c) m ys) (hc : w.cell? ⟨b, 0, none⟩ = some (.slice A m c))
 (hd : hi ≤ lo2) (hl2 : lo ≤ lo2) (hlen : n ≤ 4194304) (hlo : lo ≤ w.heap.size)
 (h : ∀ A' c' w', OwnII w' lo w'.heap.size (.slice A' (n + 1) c') (n + 1) (xss ++ [ys]) → w.grownBy w' (Value.slice A0 n c0).ownBlock → StayA A0 (n * 1) w w' → wpList Tryz.prog ops Q rest (a.put o.dst (.slice A' (n + 1) c')) w') : wpList Tryz.prog ops Q (o :: rest) a w :=
 wpList_plain hgd fun _ hK => wp_appL w s x ho hs hown hx hnew hc hd hl2 hlen hlo fun A' c' w' h2 h3 h5 => hK _ _ (h A' c' w' h2 h3 h5)
end
theorem two_pow_small {X : Nat} (h : X ≤ 10) : 2 ^ X ≤ 1024 := by
 have := Nat.pow_le_pow_right (n := 2) (by omega) h
 exact this
theorem Zbl {X N : Nat} (hN : N = 2 ^ X) (h : X ≤ 10) : N ≤ 1024 ∧ wrap64 ((2 : Int) ^ X) = N := by
 have h1 := two_pow_small h
 have h2 : (2 : Int) ^ X = (N : Int) := by rw [hN, Int.natCast_pow]; rfl
 rw [h2]
 exact ⟨by omega, IntWalk.wrap64_in _ (by omega)⟩
def sameB (xs ys : List Int) : Bool := decide (xs = ys)
theorem sameB_len {xs ys : List Int} (h : xs.length ≠ ys.length) : sameB xs ys = false := by
 simp only [sameB, decide_eq_false_iff_not]; intro hc; exact h (by rw [hc])
theorem sameB_at {xs ys : List Int} {k : Nat} (h : gi xs k ≠ gi ys k) : sameB xs ys = false := by
 simp only [sameB, decide_eq_false_iff_not]; intro hc; exact h (by rw [hc])
theorem sameB_all {xs ys : List Int} (h : xs.length = ys.length) (hg : ∀ j, j < xs.length → gi xs j = gi ys j) : sameB xs ys = true := by
 simp only [sameB, decide_eq_true_eq]; exact gi_eq h hg
set_option maxHeartbeats 400000 in
theorem l1Same_any (A B : Option Addr) (n c m d : Nat) (xs ys : List Int) (w : World) (ha : RI w A n xs) (hb : RI w B m ys) (hn : n ≤ 2097152) (hm : m ≤ 2097152) :
 Calls Tryz.prog 79 #[.slice A n c, .slice B m d] w fun e w' => e = .returned (.bool (sameB xs ys)) ∧ ∃ j, w' = w.drewN j := by
 have hl := ha.len
 have hm' := hb.len
 by_cases h0 : n = m
 ·subst h0
  have hne : ((n : Int) != n) = false := by simp
  go_enter Tryz.func79, Tryz.ntmps79
  go_wp2
  go_loopw [13] (fun i wr => ∃ k j : Nat, k ≤ n ∧ i = .int .i64 k ∧ wr = w.drewN j ∧ Hid (∀ q, q < k → gi xs q = gi ys q)) (fun i _ => n - (intOf i).toNat)
  case atStart => exact ⟨0, 0, Nat.zero_le _, rfl, rfl, zH fun q hq => absurd hq (by omega)⟩
  case round =>
   obtain ⟨k, j, hk, rfl, rfl, hq⟩ := hrel
   by_cases hlt : k < n
   ·obtain ⟨b, o, rfl, hbB, e1⟩ := ha.at_ hlt
    obtain ⟨b', o', rfl, hbB', e2⟩ := hb.at_ hlt
    by_cases h1 : gi xs k = gi ys k
    ·have H1 := zH h1
     rw [← h1] at e2
     clear h1
     have hnx : (gi xs k != gi xs k) = false := by simp
     generalize hX : gi xs k = X at *
     clear ha hb
     go_wp2_with fail
     go_quiet (fail)
     go_wp2
     go_roundw
     case rel => exact ⟨k + 1, _, by omega, by go_num, by first | rfl | exact World.drewN_drewN _ _ _, zH fun q hq' => by
      rcases Nat.lt_or_ge q k with h | h
      ·exact hq.out q h
      ·obtain rfl : q = k := by omega
       exact hX.trans H1.out⟩
     case measure => simp [intOf]; omega
    ·have H1 := zH h1
     have hnx : (gi xs k != gi ys k) = true := by simpa using h1
     clear h1
     have HR : Hid (sameB xs ys = false) := zH (sameB_at H1.out)
     generalize gi xs k = X at *
     generalize gi ys k = Y at *
     clear ha hb
     go_wp2_with fail
     go_quiet (fail)
     go_wp2
     go_ret
     exact ⟨by rw [HR.out]; rfl, _, by first | rfl | exact World.drewN_drewN _ _ _⟩
   ·obtain rfl : k = n := by omega
    have HR : Hid (sameB xs ys = true) := zH (sameB_all (by omega) fun q hq' => hq.out q (by omega))
    go_wp2
    go_ret
    exact ⟨by rw [HR.out]; rfl, _, rfl⟩
 ·have h1 : ((n : Int) != m) = true := by simp; omega
  have HR : Hid (sameB xs ys = false) := zH (sameB_len (by omega))
  go_enter Tryz.func79, Tryz.ntmps79
  go_wp2
  go_ret
  exact ⟨by rw [HR.out]; rfl, 0, rfl⟩
set_option maxHeartbeats 400000 in
theorem Equal_any (A B : Option Addr) (n c m d : Nat) (xs ys : List Int) (w : World) (ha : RI w A n xs) (hb : RI w B m ys) (hn : n ≤ 2097152) (hm : m ≤ 2097152) :
 Calls Tryz.prog 77 #[.slice A n c, .slice B m d] w fun e w' => e = .returned (.bool (sameB xs ys)) ∧ ∃ j, w' = w.drewN j := by
 have hl := ha.len
 have hm' := hb.len
 by_cases h0 : n = m
 ·subst h0
  have hne : ((n : Int) != n) = false := by simp
  go_enter Tryz.func77, Tryz.ntmps77
  go_wp2
  go_loopw [13] (fun i wr => ∃ k j : Nat, k ≤ n ∧ i = .int .i64 k ∧ wr = w.drewN j ∧ Hid (∀ q, q < k → gi xs q = gi ys q)) (fun i _ => n - (intOf i).toNat)
  case atStart => exact ⟨0, 0, Nat.zero_le _, rfl, rfl, zH fun q hq => absurd hq (by omega)⟩
  case round =>
   obtain ⟨k, j, hk, rfl, rfl, hq⟩ := hrel
   by_cases hlt : k < n
   ·obtain ⟨b, o, rfl, hbB, e1⟩ := ha.at_ hlt
    obtain ⟨b', o', rfl, hbB', e2⟩ := hb.at_ hlt
    by_cases h1 : gi xs k = gi ys k
    ·have H1 := zH h1
     rw [← h1] at e2
     clear h1
     have hnx : (gi xs k != gi xs k) = false := by simp
     generalize hX : gi xs k = X at *
     clear ha hb
     go_wp2_with fail
     go_quiet (fail)
     go_wp2
     go_roundw
     case rel => exact ⟨k + 1, _, by omega, by go_num, by first | rfl | exact World.drewN_drewN _ _ _, zH fun q hq' => by
      rcases Nat.lt_or_ge q k with h | h
      ·exact hq.out q h
      ·obtain rfl : q = k := by omega
       exact hX.trans H1.out⟩
     case measure => simp [intOf]; omega
    ·have H1 := zH h1
     have hnx : (gi xs k != gi ys k) = true := by simpa using h1
     clear h1
     have HR : Hid (sameB xs ys = false) := zH (sameB_at H1.out)
     generalize gi xs k = X at *
     generalize gi ys k = Y at *
     clear ha hb
     go_wp2_with fail
     go_quiet (fail)
     go_wp2
     go_ret
     exact ⟨by rw [HR.out]; rfl, _, by first | rfl | exact World.drewN_drewN _ _ _⟩
   ·obtain rfl : k = n := by omega
    have HR : Hid (sameB xs ys = true) := zH (sameB_all (by omega) fun q hq' => hq.out q (by omega))
    go_wp2
    go_ret
    exact ⟨by rw [HR.out]; rfl, _, rfl⟩
 ·have h1 : ((n : Int) != m) = true := by simp; omega
  have HR : Hid (sameB xs ys = false) := zH (sameB_len (by omega))
  go_enter Tryz.func77, Tryz.ntmps77
  go_wp2
  go_ret
  exact ⟨by rw [HR.out]; rfl, 0, rfl⟩
def sumI (xs : List Int) : Int := xs.foldl (· + ·) 0
theorem Zea (xs : List Int) (x : Int) : sumI (xs ++ [x]) = sumI xs + x := by simp [sumI]
theorem iFind_bd (l : List Ln) (nm : Str) : -1 ≤ iFind l nm ∧ (iFind l nm < l.length) := by
 unfold iFind
 split
 ·omega
 ·exact Zdp _ _
theorem wids_take (f : List Ln → List Int → Ln → Int) (l : List Ln) (k : Nat) (hk : k ≤ l.length) : wids f (l.take k) = (wids f l).take k := by
 suffices H : ∀ m (l : List Ln), l.length = k + m → wids f (l.take k) = (wids f l).take k from H (l.length - k) l (by omega)
 intro m
 induction m with
 | zero => intro l hl; rw [List.take_of_length_le (by omega), List.take_of_length_le (by rw [wids_len]; omega)]
 | succ m ih =>
  intro l hl
  obtain ⟨n, x, rfl⟩ : ∃ n x, l = n ++ [x] := ⟨l.dropLast, l.getLast (by intro e; subst e; simp at hl), (List.dropLast_concat_getLast _).symm⟩
  rw [List.length_append, List.length_singleton] at hl
  rw [Zdz, List.take_append_of_le_length (by omega), List.take_append_of_le_length (by rw [wids_len]; omega)]
  exact ih n (by omega)
theorem allW_take {l : List Ln} {k : Nat} (hk : k ≤ l.length) (h : allW l) : allW (l.take k) := by
 unfold allW
 rw [wids_take sW l k hk]
 intro z hz
 exact h z (List.mem_of_mem_take hz)
theorem pw_snoc (f : Str → Int) (ws : List Int) (ps : List Str) (p : Str) : pw f ws (ps ++ [p]) = match pw f ws ps with | none => none | some w => if f p < 0 then none else some (w ++ [gi ws (f p).toNat]) := by
 induction ps with
 | nil => simp only [List.nil_append, pw]; split <;> rfl
 | cons a ps ih =>
  simp only [List.cons_append, pw]
  split
  ·rfl
  ·rw [ih]
   cases pw f ws ps with
   | none => rfl
   | some w => by_cases hp : f p < 0 <;> simp [hp]
theorem pw_none {f : Str → Int} {ws : List Int} {ps : List Str} {j : Nat} (hj : j < ps.length) (h : f ps[j] < 0) : pw f ws ps = none := by
 induction ps generalizing j with
 | nil => simp at hj
 | cons a ps ih =>
  simp only [pw]
  split
  ·rfl
  ·rename_i ha
   cases j with
   | zero => exact absurd h ha
   | succ j => rw [ih (j := j) (by simpa using hj) (by simpa using h)]; rfl
def insL (l : List Ln) (p : Int) : List Int := (l.filter fun x => decide (x.kind = 1) && decide (x.party = p)).map Ln.width
def outsC (l : List Ln) : Nat := (l.filter fun x => decide (x.kind = 6)).length
theorem Zbi (l : List Ln) (x : Ln) (p : Int) : insL (l ++ [x]) p = if x.kind = 1 ∧ x.party = p then insL l p ++ [x.width] else insL l p := by
 by_cases h1 : x.kind = 1 <;> by_cases h2 : x.party = p <;> simp [insL, h1, h2]
theorem Zcz (l : List Ln) (x : Ln) : outsC (l ++ [x]) = if x.kind = 6 then outsC l + 1 else outsC l := by
 by_cases h1 : x.kind = 6 <;> simp [outsC, h1]
def goodP (l : List Ln) : Prop := l.length ≤ 30 ∧ allW l ∧ sumI (insL l 0) ≤ 20 ∧ sumI (insL l 1) ≤ 20 ∧ outsC l ≤ 10
instance (l : List Ln) : Decidable (allW l) := by unfold allW; infer_instance
instance (l : List Ln) : Decidable (goodP l) := by unfold goodP; infer_instance
theorem ite_ne {c : Prop} [Decidable c] {K : Int} (h : (if c then K else 0) ≠ 0) : c ∧ (if c then K else 0) = K := by
 by_cases hc : c
 ·exact ⟨hc, if_pos hc⟩
 ·rw [if_neg hc] at h; exact absurd rfl h
theorem lineW_in {x : Ln} {w : List Int} (h : lineW x w ≠ 0) (hk : x.kind = 1) : (x.party = 0 ∨ x.party = 1) ∧ lineW x w = x.width ∧ 1 ≤ x.width ∧ x.width ≤ 10 := by
 have e : lineW x w = kindW x w := (ite_ne h).2
 rw [e] at h ⊢
 unfold kindW at h ⊢
 rw [if_pos hk] at h ⊢
 obtain ⟨h2, h3⟩ := ite_ne h
 rw [h3]
 simp [inB] at h2
 exact ⟨by omega, rfl, by omega, by omega⟩
def nots (X : Int) (us : List Int) (g0 : List G3) : Nat → Go2
 | 0 => ⟨g0, []⟩
 | j + 1 => ⟨(nots X us g0 j).g ++ [⟨2, gi us j, 0⟩], (nots X us g0 j).o ++ [X + (nots X us g0 j).g.length]⟩
theorem nots_o (X : Int) (us : List Int) (g0 : List G3) (i : Nat) : (nots X us g0 i).o.length = i := by
 induction i with
 | zero => rfl
 | succ i ih => simp [nots, ih]
theorem nots_g (X : Int) (us : List Int) (g0 : List G3) (i : Nat) : (nots X us g0 i).g.length = g0.length + i := by
 induction i with
 | zero => simp [nots]
 | succ i ih => simp [nots]; omega
def bitStep (K : Nat) (n u v : Int) (s : Go2) : Go2 :=
 if K = 2 then ⟨s.g ++ [⟨0, u, v⟩] ++ [⟨1, u, v⟩] ++ [⟨0, n, n + 1⟩], s.o ++ [n + 2]⟩ else ⟨s.g ++ [⟨(K : Nat), u, v⟩], s.o ++ [n]⟩
def bitS (K : Nat) (X : Int) (us vs : List Int) (g0 : List G3) : Nat → Go2
 | 0 => ⟨g0, []⟩
 | j + 1 => bitStep K (X + (bitS K X us vs g0 j).g.length) (gi us j) (gi vs j) (bitS K X us vs g0 j)
theorem bitS_o (K : Nat) (X : Int) (us vs : List Int) (g0 : List G3) (i : Nat) : (bitS K X us vs g0 i).o.length = i := by
 induction i with
 | zero => rfl
 | succ i ih => simp only [bitS, bitStep]; split <;> simp [ih]
theorem bitS_g (K : Nat) (X : Int) (us vs : List Int) (g0 : List G3) (i : Nat) : (bitS K X us vs g0 i).g.length ≤ g0.length + 3 * i := by
 induction i with
 | zero => simp [bitS]
 | succ i ih => simp only [bitS, bitStep]; split <;> simp <;> omega
def constS (X : Int) (bits : List Int) (g0 : List G3) : Go2 := ⟨g0 ++ [⟨3, 0, 0⟩] ++ [⟨2, X + g0.length, 0⟩], bits.map fun b => X + g0.length + 1 - b⟩
def mulS (X : Int) (us vs : List Int) (g : List G3) (n : Nat) : Go2 :=
 if n = 1 then ⟨(prodS X g us vs n n).g ++ [⟨3, 0, 0⟩] ++ [⟨2, X + (prodS X g us vs n n).g.length, 0⟩], (prodS X g us vs n n).o ++ [X + (prodS X g us vs n n).g.length + 1]⟩ else prodS X g us vs n n
def eqlS (X : Int) (us vs : List Int) (g : List G3) (n : Nat) : Go2 := ⟨(ands X (eqs X g us vs n).o (eqs X g us vs n).g (n - 1)).1, [(ands X (eqs X g us vs n).o (eqs X g us vs n).g (n - 1)).2]⟩
def twoS (X : Int) (op : Str) (us vs : List Int) (g : List G3) (n : Nat) : Go2 :=
 if op = [43] then ⟨(addS X g us vs n).g, (addS X g us vs n).o⟩
 else if op = [45] then ⟨(subS X g us vs n).g, (subS X g us vs n).o⟩
 else if op = [60] then ⟨(subS X g us vs n).g, [(subS X g us vs n).c]⟩
 else if op = [61] then eqlS X us vs g n
 else if op = [42] then mulS X us vs g n
 else bitS (if op = [38] then 1 else if op = [94] then 0 else 2) X us vs g n
def lineG (X : Int) (x : Ln) (ps : List (List Int)) (g : List G3) : Go2 :=
 if x.kind = 2 then constS X (bitsN x.value.toNat x.width.toNat) g
 else if x.kind = 3 then twoS X x.op (gl ps 0) (gl ps 1) g (gl ps 0).length
 else if x.kind = 4 then nots X (gl ps 0) g (gl ps 0).length
 else if x.kind = 5 then chs X g (gi (gl ps 0) 0) (gl ps 1) (gl ps 2) (gl ps 1).length
 else ⟨g, gl ps 0⟩
structure Cs where
 g : List G3
 os : List Int
 ws : List (List Int)
 es : List Int
def nxt (l : List Ln) (in0 : Int) (p : Int) (k : Nat) : Int := (if p = 0 then 0 else in0) + sumI (insL (l.take k) p)
def psL (l : List Ln) (ws : List (List Int)) (x : Ln) : List (List Int) := x.parts.map fun nm => gl ws (sFind l nm).toNat
def stepG (l : List Ln) (in0 in1 : Int) (k : Nat) (s : Cs) : Go2 :=
 if (lx l k).kind = 1 then ⟨s.g, spn (nxt l in0 (lx l k).party k) (lx l k).width.toNat⟩ else lineG (in0 + in1) (lx l k) (psL l s.ws (lx l k)) s.g
def stepC (l : List Ln) (r : Go2) (k : Nat) (s : Cs) : Cs := ⟨r.g, if (lx l k).kind = 6 then s.os ++ r.o else s.os, s.ws ++ [r.o], s.es ++ [(r.g.length : Int)]⟩
def cS (l : List Ln) (in0 in1 : Int) : Nat → Cs
 | 0 => ⟨[], [], [], []⟩
 | k + 1 => stepC l (stepG l in0 in1 k (cS l in0 in1 k)) k (cS l in0 in1 k)
def okW (us : List Int) : Prop := 1 ≤ us.length ∧ us.length ≤ 10
def Fit (x : Ln) (ps : List (List Int)) : Prop :=
 (x.kind = 1 ∧ (x.party = 0 ∨ x.party = 1) ∧ 1 ≤ x.width ∧ x.width ≤ 10 ∧ ps.length = 0) ∨
 (x.kind = 2 ∧ 1 ≤ x.width ∧ x.width ≤ 10 ∧ 0 ≤ x.value ∧ x.value ≤ 1023 ∧ ps.length = 0) ∨
 (x.kind = 3 ∧ ps.length = 2 ∧ okW (gl ps 0) ∧ (gl ps 1).length = (gl ps 0).length ∧ opB x.op = true ∧ (x.op = [42] → (gl ps 0).length ≤ 5)) ∨
 (x.kind = 4 ∧ ps.length = 1 ∧ okW (gl ps 0)) ∨
 (x.kind = 5 ∧ ps.length = 3 ∧ (gl ps 0).length = 1 ∧ okW (gl ps 1) ∧ (gl ps 2).length = (gl ps 1).length) ∨
 (x.kind = 6 ∧ ps.length = 1 ∧ okW (gl ps 0))
theorem pw_at {f : Str → Int} {ws : List Int} : ∀ {ps : List Str} {w : List Int}, pw f ws ps = some w → ∀ j (h : j < ps.length), 0 ≤ f ps[j] ∧ gi w j = gi ws (f ps[j]).toNat := by
 intro ps
 induction ps with
 | nil => intro w hw j h; simp at h
 | cons p ps ih =>
  intro w hw j h
  unfold pw at hw
  split at hw
  ·cases hw
  ·rename_i hp
   rw [Option.map_eq_some_iff] at hw
   obtain ⟨v, hv, rfl⟩ := hw
   cases j with
   | zero => exact ⟨by simpa using hp, rfl⟩
   | succ j =>
    have := ih hv j (by simpa using h)
    exact ⟨by simpa using this.1, by simpa [gi] using this.2⟩
theorem opB_cases {op : Str} (h : opB op = true) : op = [43] ∨ op = [45] ∨ op = [42] ∨ op = [60] ∨ op = [61] ∨ op = [38] ∨ op = [124] ∨ op = [94] := by
 simp only [opB, List.contains_cons, List.contains_nil, Bool.or_false, Bool.or_eq_true, beq_iff_eq] at h
 exact h
theorem twoS_len {X : Int} {op : Str} {us vs : List Int} {g : List G3} {n : Nat} (h1 : 1 ≤ n) (h2 : n ≤ 10) (ho : opB op = true) (hm : op = [42] → n ≤ 5) :
 (twoS X op us vs g n).g.length ≤ g.length + 300 ∧ ((twoS X op us vs g n).o.length : Int) = twoW op n n := by
 rcases opB_cases ho with rfl | rfl | rfl | rfl | rfl | rfl | rfl | rfl
 ·have a := addS_g X g us vs n; have b := addS_o X g us vs n
  have e : twoS X [43] us vs g n = ⟨(addS X g us vs n).g, (addS X g us vs n).o⟩ := rfl
  rw [e]; exact ⟨by dsimp only; omega, by dsimp only; rw [b]; simp [twoW, opB]⟩
 ·have a := subS_g X g us vs n; have b := subS_o X g us vs n
  have e : twoS X [45] us vs g n = ⟨(subS X g us vs n).g, (subS X g us vs n).o⟩ := rfl
  rw [e]; exact ⟨by dsimp only; omega, by dsimp only; rw [b]; simp [twoW, opB]⟩
 ·have h5 := hm rfl
  have a := prodS_g X g us vs n (by omega) n
  have b := prodS_o X g us vs n h1 (n - 1)
  rw [Nat.sub_add_cancel h1] at b
  have e : twoS X [42] us vs g n = mulS X us vs g n := rfl
  have hw : twoW [42] (n : Int) n = 2 * n := by
   have : ¬ (10 < 2 * (n : Int)) := by omega
   simp [twoW, opB, this]
  rw [e, hw]
  unfold mulS
  by_cases hn : n = 1
  ·rw [if_pos hn]; subst hn
   simp at b ⊢
   omega
  ·rw [if_neg hn]
   rw [if_neg (by omega)] at b
   omega
 ·have a := subS_g X g us vs n
  have e : twoS X [60] us vs g n = ⟨(subS X g us vs n).g, [(subS X g us vs n).c]⟩ := rfl
  rw [e]; exact ⟨by dsimp only; omega, by simp [twoW, opB]⟩
 ·have a := ands_g X (eqs X g us vs n).o (eqs X g us vs n).g (n - 1); have b := eqs_g X g us vs n
  have e : twoS X [61] us vs g n = eqlS X us vs g n := rfl
  rw [e]; exact ⟨by unfold eqlS; dsimp only; omega, by simp [twoW, opB, eqlS]⟩
 ·have a := bitS_g 1 X us vs g n; have b := bitS_o 1 X us vs g n
  have e : twoS X [38] us vs g n = bitS 1 X us vs g n := rfl
  rw [e, b]; exact ⟨by omega, by simp [twoW, opB]⟩
 ·have a := bitS_g 2 X us vs g n; have b := bitS_o 2 X us vs g n
  have e : twoS X [124] us vs g n = bitS 2 X us vs g n := rfl
  rw [e, b]; exact ⟨by omega, by simp [twoW, opB]⟩
 ·have a := bitS_g 0 X us vs g n; have b := bitS_o 0 X us vs g n
  have e : twoS X [94] us vs g n = bitS 0 X us vs g n := rfl
  rw [e, b]; exact ⟨by omega, by simp [twoW, opB]⟩
theorem fit_of {X : Int} {x : Ln} {w : List Int} {ps : List (List Int)} {g : List G3} (hbd : ∀ z ∈ w, 0 ≤ z ∧ z ≤ 10) (hl : w.length = partsN x.kind) (hp : ps.length = w.length) (hg : ∀ j, j < w.length → ((gl ps j).length : Int) = gi w j ∧ 1 ≤ gi w j) (hk : kindW x w ≠ 0) :
 Fit x ps ∧ (x.kind ≠ 1 → (lineG X x ps g).g.length ≤ g.length + 300 ∧ ((lineG X x ps g).o.length : Int) = kindW x w) := by
 have hb := gi_bd hbd (by omega)
 unfold kindW at hk ⊢
 by_cases k1 : x.kind = 1
 ·rw [if_pos k1] at hk
  obtain ⟨h2, _⟩ := ite_ne hk
  simp [inB] at h2
  rw [k1] at hl
  exact ⟨.inl ⟨k1, by omega, by omega, by omega, by rw [hp, hl]; rfl⟩, fun h => absurd k1 h⟩
 rw [if_neg k1] at hk ⊢
 by_cases k2 : x.kind = 2
 ·rw [if_pos k2] at hk ⊢
  obtain ⟨h2, h3⟩ := ite_ne hk
  rw [h3]
  simp only [Bool.and_eq_true, inB_iff] at h2
  obtain ⟨⟨h4, h5⟩, h6, h7⟩ := h2
  have h8 : (2 : Int) ^ x.width.toNat ≤ 1024 := by
   have : x.width.toNat ≤ 10 := by omega
   calc (2 : Int) ^ x.width.toNat ≤ 2 ^ 10 := by exact_mod_cast Nat.pow_le_pow_right (by omega) this
    _ = 1024 := by decide
  rw [k2] at hl
  refine ⟨.inr (.inl ⟨k2, h4, h5, h6, by omega, by rw [hp, hl]; rfl⟩), fun _ => ?_⟩
  unfold lineG
  rw [if_pos k2]
  exact ⟨by simp [constS], by simp [constS, bitsN, tab_len]; omega⟩
 rw [if_neg k2] at hk ⊢
 by_cases k3 : x.kind = 3
 ·rw [if_pos k3] at hk ⊢
  have hl2 : w.length = 2 := by rw [hl, k3]; rfl
  obtain ⟨a0, a1⟩ := hg 0 (by omega)
  obtain ⟨b0, b1⟩ := hg 1 (by omega)
  have c0 := hb 0
  have hc : ¬ (gi w 0 ≠ gi w 1 ∨ opB x.op = false ∨ (x.op = [42] ∧ 2 * gi w 0 > 10)) := fun hc => hk (by unfold twoW; rw [if_pos hc])
  have e1 : gi w 0 = gi w 1 := by
   rcases Classical.em (gi w 0 = gi w 1) with h | h
   ·exact h
   ·exact absurd (.inl h) hc
  have e2 : opB x.op = true := by
   cases h : opB x.op with
   | true => rfl
   | false => exact absurd (.inr (.inl h)) hc
  have e3 : x.op = [42] → (gl ps 0).length ≤ 5 := fun h => by
   have : ¬ (2 * gi w 0 > 10) := fun h9 => hc (.inr (.inr ⟨h, h9⟩))
   omega
  refine ⟨.inr (.inr (.inl ⟨k3, by omega, ⟨by omega, by omega⟩, by omega, e2, e3⟩)), fun _ => ?_⟩
  unfold lineG
  rw [if_neg k2, if_pos k3, ← e1, ← a0]
  exact twoS_len (by omega) (by omega) e2 e3
 rw [if_neg k3] at hk ⊢
 by_cases k4 : x.kind = 4
 ·rw [if_pos (.inl k4)] at hk ⊢
  have hl2 : w.length = 1 := by rw [hl, k4]; rfl
  obtain ⟨a0, a1⟩ := hg 0 (by omega)
  have c0 := hb 0
  refine ⟨.inr (.inr (.inr (.inl ⟨k4, by omega, by omega, by omega⟩))), fun _ => ?_⟩
  unfold lineG
  rw [if_neg k2, if_neg k3, if_pos k4]
  exact ⟨by rw [nots_g]; omega, by rw [nots_o]; exact a0⟩
 by_cases k6 : x.kind = 6
 ·rw [if_pos (.inr k6)] at hk ⊢
  have hl2 : w.length = 1 := by rw [hl, k6]; rfl
  obtain ⟨a0, a1⟩ := hg 0 (by omega)
  have c0 := hb 0
  refine ⟨.inr (.inr (.inr (.inr (.inr ⟨k6, by omega, by omega, by omega⟩)))), fun _ => ?_⟩
  unfold lineG
  rw [if_neg k2, if_neg k3, if_neg k4, if_neg (by omega)]
  exact ⟨by dsimp only; omega, a0⟩
 rw [if_neg (by omega)] at hk ⊢
 by_cases k5 : x.kind = 5
 ·rw [if_pos k5] at hk ⊢
  obtain ⟨h2, h3⟩ := ite_ne hk
  rw [h3]
  have hl2 : w.length = 3 := by rw [hl, k5]; rfl
  obtain ⟨a0, a1⟩ := hg 0 (by omega)
  obtain ⟨b0, b1⟩ := hg 1 (by omega)
  obtain ⟨d0, d1⟩ := hg 2 (by omega)
  have c1 := hb 1
  refine ⟨.inr (.inr (.inr (.inr (.inl ⟨k5, by omega, by omega, ⟨by omega, by omega⟩, by omega⟩)))), fun _ => ?_⟩
  unfold lineG
  rw [if_neg k2, if_neg k3, if_neg k4, if_pos k5]
  exact ⟨by rw [chs_g]; omega, by rw [chs_o]; exact b0⟩
 rw [if_neg k5] at hk
 exact absurd rfl hk
structure CInv (l : List Ln) (k : Nat) (s : Cs) : Prop where
 ws : s.ws.length = k
 es : s.es.length = k
 wid : ∀ j, j < k → ((gl s.ws j).length : Int) = gi (wids sW l) j ∧ 1 ≤ gi (wids sW l) j
 g : s.g.length ≤ 300 * k
 os : s.os.length ≤ 10 * k
theorem sFind_take {l : List Ln} {k : Nat} {nm : Str} (h : 0 ≤ sFind (l.take k) nm) : sFind l nm = sFind (l.take k) nm := by
 have := lfind_append (sP nm) (l.take k) (l.drop k) h
 rw [List.take_append_drop] at this
 exact this
theorem insL_sum_step {l : List Ln} {p : Int} {k : Nat} (hk : k < l.length) : sumI (insL (l.take (k + 1)) p) = sumI (insL (l.take k) p) + if (lx l k).kind = 1 ∧ (lx l k).party = p then (lx l k).width else 0 := by
 rw [Zdg hk, Zbi]
 split
 ·simp [sumI]
 ·simp
theorem Zev {l : List Ln} {k : Nat} {s : Cs} (X : Int) (h : allW l) (hk : k < l.length) (hi : CInv l k s) :
 Fit (lx l k) (psL l s.ws (lx l k)) ∧ (∀ nm ∈ (lx l k).parts, 0 ≤ sFind l nm ∧ sFind l nm < k) ∧
 ((lx l k).kind ≠ 1 → (lineG X (lx l k) (psL l s.ws (lx l k)) s.g).g.length ≤ s.g.length + 300 ∧ ((lineG X (lx l k) (psL l s.ws (lx l k)) s.g).o.length : Int) = gi (wids sW l) k) ∧
 ((lx l k).kind = 1 → (lx l k).width = gi (wids sW l) k) ∧ 1 ≤ gi (wids sW l) k ∧ gi (wids sW l) k ≤ 10 := by
 have h1 := allW_take (k := k + 1) (by omega) h
 rw [Zdg hk, allW_snoc] at h1
 have hW : gi (wids sW l) k = sW (l.take k) (wids sW (l.take k)) (lx l k) := by
  have e := wids_take sW l (k + 1) (by omega)
  rw [Zdg hk, Zdz, wids_take sW l k (by omega)] at e
  have hlen : (List.take k (wids sW l)).length = k := by rw [List.length_take, wids_len]; omega
  have e2 := congrArg (fun z => gi z k) e
  simp only [gi, List.getD_eq_getElem?_getD] at e2 ⊢
  rw [List.getElem?_append_right (by omega), hlen, Nat.sub_self, List.getElem?_take, if_pos (by omega)] at e2
  rw [← e2, wids_take sW l k (by omega)]
  rfl
 have hbd0 := wids_bd (l.take k)
 have hne := h1.2
 have hbk : 0 ≤ gi (wids sW l) k ∧ gi (wids sW l) k ≤ 10 := gi_bd (wids_bd l) (by omega) k
 rw [hW]
 rw [hW] at hbk
 obtain ⟨WS, hWS⟩ : ∃ WS, WS = wids sW (l.take k) := ⟨_, rfl⟩
 rw [← hWS] at hne hbk hbd0 ⊢
 unfold sW at hne hbk ⊢
 cases hp : pw (sFind (l.take k)) WS (lx l k).parts with
 | none => rw [hp] at hne; exact absurd rfl hne
 | some w =>
  rw [hp] at hne hbk
  dsimp only at hne hbk ⊢
  obtain ⟨hc, he⟩ := ite_ne hne
  rw [he] at hne hbk
  rw [he]
  have hpl := pw_len hp
  have hat := pw_at hp
  have hfd : ∀ nm ∈ (lx l k).parts, 0 ≤ sFind (l.take k) nm := fun nm hm => by
   obtain ⟨j, hj, rfl⟩ := List.getElem_of_mem hm
   exact (hat j hj).1
  have hlt : ∀ nm, sFind (l.take k) nm < k := fun nm => by
   have := (Zdp (sP nm) (l.take k)).2
   unfold sFind
   rw [List.length_take] at this; omega
  have hj2 : ∀ j, j < w.length → ((gl (psL l s.ws (lx l k)) j).length : Int) = gi w j ∧ 1 ≤ gi w j := fun j hj => by
   have hj' : j < (lx l k).parts.length := by omega
   obtain ⟨a1, a2⟩ := hat j hj'
   have hm : (lx l k).parts[j] ∈ (lx l k).parts := List.getElem_mem hj'
   have hq := hlt (lx l k).parts[j]
   have e : gl (psL l s.ws (lx l k)) j = gl s.ws (sFind l (lx l k).parts[j]).toNat := by
    unfold gl psL
    rw [List.getD_eq_getElem?_getD, List.getElem?_map, List.getElem?_eq_getElem hj']
    rfl
   rw [e, a2, sFind_take a1, hWS, wids_take sW l k (by omega)]
   have hw := hi.wid (sFind (l.take k) (lx l k).parts[j]).toNat (by omega)
   have e3 : gi (List.take k (wids sW l)) (sFind (l.take k) (lx l k).parts[j]).toNat = gi (wids sW l) (sFind (l.take k) (lx l k).parts[j]).toNat := by
    unfold gi; rw [List.getD_eq_getElem?_getD, List.getD_eq_getElem?_getD, List.getElem?_take, if_pos (by omega)]
   rw [e3]
   exact hw
  obtain ⟨f1, f2⟩ := fit_of (X := X) (g := s.g) (pw_bd hbd0 (by omega) _ _ hp) hc.2.2 (by unfold psL; rw [List.length_map, hpl]) hj2 hne
  refine ⟨f1, fun nm hm => ?_, f2, fun h1 => ?_, by omega, hbk.2⟩
  ·rw [sFind_take (hfd nm hm)]; exact ⟨hfd nm hm, hlt nm⟩
  ·unfold kindW at hne ⊢
   rw [if_pos h1] at hne ⊢
   exact (ite_ne hne).2.symm
theorem Zeq {xs : List (List Int)} {y : List Int} {j : Nat} (h : j < xs.length) : gl (xs ++ [y]) j = gl xs j := by
 unfold gl; rw [List.getD_eq_getElem?_getD, List.getD_eq_getElem?_getD, List.getElem?_append_left h]
theorem Zdu {xs : List (List Int)} {y : List Int} {j : Nat} (h : xs.length = j) : gl (xs ++ [y]) j = y := by
 subst h; unfold gl; rw [List.getD_eq_getElem?_getD, List.getElem?_append_right (by omega)]; simp
theorem cS_inv {l : List Ln} (in0 in1 : Int) (h : allW l) : ∀ k, k ≤ l.length → CInv l k (cS l in0 in1 k) := by
 intro k
 induction k with
 | zero => intro _; exact ⟨rfl, rfl, fun j hj => by omega, by simp [cS], by simp [cS]⟩
 | succ k ih =>
  intro hk
  have hi := ih (by omega)
  obtain ⟨f1, f2, f3, f4, f5, f6⟩ := Zev (in0 + in1) h (by omega : k < l.length) hi
  have hs : (stepG l in0 in1 k (cS l in0 in1 k)).g.length ≤ (cS l in0 in1 k).g.length + 300 ∧ ((stepG l in0 in1 k (cS l in0 in1 k)).o.length : Int) = gi (wids sW l) k := by
   unfold stepG
   by_cases h1 : (lx l k).kind = 1
   ·rw [if_pos h1]
    have := f4 h1
    exact ⟨by dsimp only; omega, by dsimp only; rw [Zck]; omega⟩
   ·rw [if_neg h1]; exact f3 h1
  show CInv l (k + 1) (stepC l (stepG l in0 in1 k (cS l in0 in1 k)) k (cS l in0 in1 k))
  generalize stepG l in0 in1 k (cS l in0 in1 k) = r at hs
  generalize cS l in0 in1 k = s at hi hs
  have a1 := hi.ws
  refine ⟨by simp [stepC, hi.ws], by simp [stepC, hi.es], fun j hj => ?_, by have := hi.g; simp only [stepC]; omega, ?_⟩
  ·simp only [stepC]
   rcases Nat.lt_or_ge j k with h1 | h1
   ·rw [Zeq (by omega)]; exact hi.wid j h1
   ·obtain rfl : j = k := by omega
    rw [Zdu a1]; exact ⟨hs.2, f5⟩
  ·have := hi.os
   simp only [stepC]
   split
   ·rw [List.length_append]; omega
   ·omega
def RetRdQ (Qo : OQ) (lo b : Nat) (x y : Int) (gs : List G3) (os : List Int) (G : Option Nat) (w : World) (e : Ending) (w' : World) : Prop :=
 ∃ G' O oc, e = .returned (.slice O os.length oc) ∧ MkQ Qo w' lo b x y gs G' ∧ Mv b G G' w w' ∧ RM w' b G' O os.length os ∧ ∀ k o, O = some ⟨k, o, none⟩ → w.heap.size ≤ k ∧ k < w'.heap.size
section
variable {Qo : OQ} {w w' : World} {lo b n : Nat} {x y : Int} {gs : List G3} {G G' : Option Nat} {os : List Int} {e : Ending} {O : Option Addr} {oc : Nat}
theorem RetRdQ.mk_ (hn : os.length = n) (he : e = .returned (.slice O n oc)) (hm : MkQ Qo w' lo b x y gs G') (hv : Mv b G G' w w') (ho : RM w' b G' O n os) (hk : ∀ k o, O = some ⟨k, o, none⟩ → w.heap.size ≤ k ∧ k < w'.heap.size) : RetRdQ Qo lo b x y gs os G w e w' := by
 subst hn; exact ⟨G', O, oc, he, hm, hv, ho, hk⟩
theorem RetRdQ.ofOM (hn : os.length = n) (he : e = .returned (.slice O n oc)) (hm : MkQ Qo w' lo b x y gs G') (hv : Mv b G G' w w') (ho : OM w' b G' w.heap.size (.slice O n oc) n os) : RetRdQ Qo lo b x y gs os G w e w' :=
 RetRdQ.mk_ hn he hm hv ho.reads fun k o h => by
  have hk := ho.1.1.1
  rcases ho.1.1.2 with h1 | ⟨g, cap, cur, hv2, hlo, hg, r⟩
  ·simp only [Value.slice.injEq] at h1
   rw [h1.1.1] at h; cases h
  ·simp only [Value.slice.injEq] at hv2
   obtain ⟨rfl, _, _⟩ := hv2
   simp only [Option.some.injEq, Addr.mk.injEq, and_true] at h
   obtain ⟨rfl, _⟩ := h
   have := ho.1.lt g (by simp [Value.ownBlock])
   omega
theorem Own.capLe {lo hi c : Nat} {A : Option Addr} {xs : List Int} (h : Own w lo hi (.slice A n c) n xs) : n ≤ c := by
 rcases h.1.2 with ⟨h1, h2⟩ | ⟨g, cap, cur, hv, _, _, hc, _⟩
 ·omega
 ·simp only [Value.slice.injEq] at hv; omega
theorem RM.take_ {A : Option Addr} {n k : Nat} {xs : List Int} (h : RM w b G A n xs) (hk : k ≤ n) : RM w b G A k (xs.take k) :=
 ⟨RI.take_ h.1 hk, fun h0 => h.2 (by omega)⟩
theorem RM.drop_ {g o n k : Nat} {xs : List Int} (h : RM w b G (some ⟨g, o, none⟩) n xs) (hk : k ≤ n) : RM w b G (some ⟨g, o + k, none⟩) (n - k) (xs.drop k) :=
 ⟨RI.drop_ h.1 hk, fun h0 q p hA => by
  simp only [Option.some.injEq, Addr.mk.injEq, and_true] at hA
  obtain ⟨rfl, _⟩ := hA
  exact h.2 (by omega) _ _ rfl⟩
end
variable {Qo : OQ}
set_option maxRecDepth 100000 in
set_option maxHeartbeats 4000000 in
theorem maker_two_add (lo b : Nat) (x y : Int) (g0 : List G3) (G : Option Nat) (A B : Option Addr) (n c d : Nat) (us vs : List Int) (w : World) (hm : MkQ Qo w lo b x y g0 G) (ha : RM w b G A n us) (hb : RM w b G B n vs) (hx : 0 ≤ x ∧ x ≤ 20) (hy : 0 ≤ y ∧ y ≤ 20) (hg : g0.length ≤ 40000) (hn1 : 1 ≤ n) (hn : n ≤ 10) (hlo : lo ≤ w.heap.size) :
 Calls Tryz.prog 152 #[.pointer (some ⟨b, 0, none⟩), .string (bs [43]), .slice A n c, .slice B n d] w (RetRowQ Qo lo b x y ((⟨(addS (x + y) g0 us vs n).g, (addS (x + y) g0 us vs n).o⟩ : Go2)).g ((⟨(addS (x + y) g0 us vs n).g, (addS (x + y) g0 us vs n).o⟩ : Go2)).o G w) := by
 have t43 : ((bs [43]).toList == [43]) = true := bs_is rfl
 have t45 : ((bs [43]).toList == [45]) = false := Zac (by decide)
 have t60 : ((bs [43]).toList == [60]) = false := Zac (by decide)
 have t61 : ((bs [43]).toList == [61]) = false := Zac (by decide)
 have t42 : ((bs [43]).toList == [42]) = false := Zac (by decide)
 have HO : Hid ((addS (x + y) g0 us vs n).o.length = n) := zH (addS_o (x + y) g0 us vs n)
 obtain ⟨SG, SO, SC, hS⟩ : ∃ SG SO SC, Hid (addS (x + y) g0 us vs n = ⟨SG, SO, SC⟩) := ⟨_, _, _, zH rfl⟩
 have hcall := Zeh lo b x y g0 G A B n c d us vs w hm ha hb hx hy (by omega) (by omega) hlo
 rw [hS.out] at hcall HO
 rw [hS.out]
 dsimp only at hcall HO ⊢
 go_enter Tryz.func152, Tryz.ntmps152
 go_wp2_with fail
 refine (hcall).mono ?_
 rintro e w1 ⟨G1, O, oc, rfl, hm1, hv1, ho1⟩
 go_wp2
 go_ret
 exact RetRowQ.mk_ HO.out rfl hm1 hv1 ho1
set_option maxRecDepth 100000 in
set_option maxHeartbeats 4000000 in
theorem maker_two_sub (lo b : Nat) (x y : Int) (g0 : List G3) (G : Option Nat) (A B : Option Addr) (n c d : Nat) (us vs : List Int) (w : World) (hm : MkQ Qo w lo b x y g0 G) (ha : RM w b G A n us) (hb : RM w b G B n vs) (hx : 0 ≤ x ∧ x ≤ 20) (hy : 0 ≤ y ∧ y ≤ 20) (hg : g0.length ≤ 40000) (hn1 : 1 ≤ n) (hn : n ≤ 10) (hlo : lo ≤ w.heap.size) :
 Calls Tryz.prog 152 #[.pointer (some ⟨b, 0, none⟩), .string (bs [45]), .slice A n c, .slice B n d] w (RetRowQ Qo lo b x y ((⟨(subS (x + y) g0 us vs n).g, (subS (x + y) g0 us vs n).o⟩ : Go2)).g ((⟨(subS (x + y) g0 us vs n).g, (subS (x + y) g0 us vs n).o⟩ : Go2)).o G w) := by
 have t43 : ((bs [45]).toList == [43]) = false := Zac (by decide)
 have t45 : ((bs [45]).toList == [45]) = true := bs_is rfl
 have t60 : ((bs [45]).toList == [60]) = false := Zac (by decide)
 have t61 : ((bs [45]).toList == [61]) = false := Zac (by decide)
 have t42 : ((bs [45]).toList == [42]) = false := Zac (by decide)
 have HO : Hid ((subS (x + y) g0 us vs n).o.length = n) := zH (subS_o (x + y) g0 us vs n)
 obtain ⟨SG, SO, SC, hS⟩ : ∃ SG SO SC, Hid (subS (x + y) g0 us vs n = ⟨SG, SO, SC⟩) := ⟨_, _, _, zH rfl⟩
 have hcall := Zed lo b x y g0 G A B n c d us vs w hm ha hb hx hy (by omega) (by omega) hlo
 rw [hS.out] at hcall HO
 rw [hS.out]
 dsimp only at hcall HO ⊢
 go_enter Tryz.func152, Tryz.ntmps152
 go_wp2_with fail
 refine (hcall).mono ?_
 rintro e w1 ⟨G1, O, oc, rfl, hm1, hv1, ho1⟩
 go_wp2
 go_ret
 exact RetRowQ.mk_ HO.out rfl hm1 hv1 ho1
set_option maxRecDepth 100000 in
set_option maxHeartbeats 4000000 in
theorem maker_two_less (lo b : Nat) (x y : Int) (g0 : List G3) (G : Option Nat) (A B : Option Addr) (n c d : Nat) (us vs : List Int) (w : World) (hm : MkQ Qo w lo b x y g0 G) (ha : RM w b G A n us) (hb : RM w b G B n vs) (hx : 0 ≤ x ∧ x ≤ 20) (hy : 0 ≤ y ∧ y ≤ 20) (hg : g0.length ≤ 40000) (hn1 : 1 ≤ n) (hn : n ≤ 10) (hlo : lo ≤ w.heap.size) :
 Calls Tryz.prog 152 #[.pointer (some ⟨b, 0, none⟩), .string (bs [60]), .slice A n c, .slice B n d] w (RetRowQ Qo lo b x y ((⟨(subS (x + y) g0 us vs n).g, [(subS (x + y) g0 us vs n).c]⟩ : Go2)).g ((⟨(subS (x + y) g0 us vs n).g, [(subS (x + y) g0 us vs n).c]⟩ : Go2)).o G w) := by
 have t43 : ((bs [60]).toList == [43]) = false := Zac (by decide)
 have t45 : ((bs [60]).toList == [45]) = false := Zac (by decide)
 have t60 : ((bs [60]).toList == [60]) = true := bs_is rfl
 have t61 : ((bs [60]).toList == [61]) = false := Zac (by decide)
 have t42 : ((bs [60]).toList == [42]) = false := Zac (by decide)
 have HO : Hid ((subS (x + y) g0 us vs n).o.length = n) := zH (subS_o (x + y) g0 us vs n)
 obtain ⟨SG, SO, SC, hS⟩ : ∃ SG SO SC, Hid (subS (x + y) g0 us vs n = ⟨SG, SO, SC⟩) := ⟨_, _, _, zH rfl⟩
 have hcall := Zed lo b x y g0 G A B n c d us vs w hm ha hb hx hy (by omega) (by omega) hlo
 rw [hS.out] at hcall HO
 rw [hS.out]
 dsimp only at hcall HO ⊢
 go_enter Tryz.func152, Tryz.ntmps152
 go_wp2_with fail
 refine (hcall).mono ?_
 rintro e w1 ⟨G1, O, oc, rfl, hm1, hv1, ho1⟩
 have hz1 := hv1.size
 have hm2 := hm1.alloc_ (.cells #[.int .i64 SC] 3)
 have hv2 := hv1.alloc_ (.cells #[.int .i64 SC] 3)
 have ho2 := OM.new1Q hm1 SC hz1
 go_wp2
 go_ret
 exact RetRowQ.mk_ (n := 1) rfl rfl hm2 hv2 ho2
set_option maxRecDepth 100000 in
set_option maxHeartbeats 4000000 in
theorem maker_two_eq (lo b : Nat) (x y : Int) (g0 : List G3) (G : Option Nat) (A B : Option Addr) (n c d : Nat) (us vs : List Int) (w : World) (hm : MkQ Qo w lo b x y g0 G) (ha : RM w b G A n us) (hb : RM w b G B n vs) (hx : 0 ≤ x ∧ x ≤ 20) (hy : 0 ≤ y ∧ y ≤ 20) (hg : g0.length ≤ 40000) (hn1 : 1 ≤ n) (hn : n ≤ 10) (hlo : lo ≤ w.heap.size) :
 Calls Tryz.prog 152 #[.pointer (some ⟨b, 0, none⟩), .string (bs [61]), .slice A n c, .slice B n d] w (RetRowQ Qo lo b x y (eqlS (x + y) us vs g0 n).g (eqlS (x + y) us vs g0 n).o G w) := by
 have t43 : ((bs [61]).toList == [43]) = false := Zac (by decide)
 have t45 : ((bs [61]).toList == [45]) = false := Zac (by decide)
 have t60 : ((bs [61]).toList == [60]) = false := Zac (by decide)
 have t61 : ((bs [61]).toList == [61]) = true := bs_is rfl
 have t42 : ((bs [61]).toList == [42]) = false := Zac (by decide)
 unfold eqlS
 dsimp only
 obtain ⟨SG, SC, hS⟩ : ∃ SG SC, Hid (ands (x + y) (eqs (x + y) g0 us vs n).o (eqs (x + y) g0 us vs n).g (n - 1) = (SG, SC)) := ⟨_, _, zH rfl⟩
 have hcall := maker_equalQ_any lo b x y g0 G A B n c d us vs w hm ha hb hx hy (by omega) (by omega) hlo hn1
 rw [hS.out] at hcall ⊢
 dsimp only at hcall ⊢
 go_enter Tryz.func152, Tryz.ntmps152
 go_wp2_with fail
 refine (hcall).mono ?_
 rintro e w1 ⟨G1, rfl, hm1, hv1⟩
 have hz1 := hv1.size
 have hm2 := hm1.alloc_ (.cells #[.int .i64 SC] 3)
 have hv2 := hv1.alloc_ (.cells #[.int .i64 SC] 3)
 have ho2 := OM.new1Q hm1 SC hz1
 go_wp2
 go_ret
 exact RetRowQ.mk_ (n := 1) rfl rfl hm2 hv2 ho2
end Go.Proofs.YtenknpcbbcbciaaGreat
