/- Lines of a network: an outer row of the call's own whose lists are read, beside a maker. Lengths below 2^20. Constants and turned wires of a maker whose outs are any slice; a line of a program. -/
import Derived.Test.YtjjphaiomaiilaaGreatQB14
import Derived.Test.YtjjphaiomaiilaaGreatQB13
import Derived.Test.YtjjphaiomaiilaaGreatQB15
import Derived.Test.YtjjphaiomaiilaaGreatQB17
import Derived.Test.YtjjphaiomaiilaaGreatQB05
import Derived.Test.YtjjphaiomaiilaaGreatQB12
namespace Go.Proofs.YtjjphaiomaiilaaGreat
open Go.RowKit
set_option linter.unusedVariables false
set_option linter.unusedSimpArgs false
theorem gl_set {L : List (List Int)} {i j : Nat} (u : List Int) (hi : i < L.length) : gl (L.set i u) j = if i = j then u else gl L j := by
  unfold gl
  rw [List.getD_eq_getElem?_getD, List.getD_eq_getElem?_getD, List.getElem?_set]
  split
  · rename_i h; subst h; simp [hi]
  · rfl
def NL (w : World) (b : Nat) (G : Option Nat) (lo : Nat) (v : Value) (n : Nat) (xss : List (List Int)) : Prop :=
  ∃ vals : List Value, w.ownsRow lo 30 1 v n vals ∧ (∀ g, v.ownBlock = some g → g ≠ b ∧ G ≠ some g) ∧ xss.length = n ∧
    ∀ j : Nat, j < n → ∃ A m c, vals[j]? = some (.slice A m c) ∧ RM w b G A m (gl xss j) ∧ ∀ k o, A = some ⟨k, o, none⟩ → v.ownBlock ≠ some k ∧ k < w.heap.size
section
variable {w w' : World} {b lo lo' n : Nat} {G G' : Option Nat} {v : Value} {xss : List (List Int)} {x y : Int} {Ao : Option Addr} {no co : Nat} {gs : List G3}
theorem NL.len (h : NL w b G lo v n xss) : xss.length = n := by obtain ⟨_, _, _, h3, _⟩ := h; exact h3
theorem NL.lt (h : NL w b G lo v n xss) : ∀ g, v.ownBlock = some g → lo ≤ g ∧ g < w.heap.size ∧ g ≠ b ∧ G ≠ some g := by
  obtain ⟨vals, h1, h2, _⟩ := h
  exact fun g hg => ⟨(h1.lt g hg).1, (h1.lt g hg).2, (h2 g hg).1, (h2 g hg).2⟩
theorem NL.none_ (w : World) (b : Nat) (G : Option Nat) (lo : Nat) : NL w b G lo (.slice none 0 0) 0 [] :=
  ⟨[], World.ownsRow_nil w lo _ _, fun g hg => by simp [Value.ownBlock] at hg, rfl, fun j hj => absurd hj (by omega)⟩
theorem NL.new0 (w : World) (b : Nat) (G : Option Nat) (lo : Nat) (hl : lo ≤ w.heap.size) (hb : b < w.heap.size) (hG : ∀ g, G = some g → g < w.heap.size) : NL (w.alloc (.cells #[] 30)) b G lo (.slice (some ⟨w.heap.size, 0, none⟩) 0 0) 0 [] := by
  have h := World.ownsRow_lit (base := lo) (e := 30) (size := 1) w #[] 0 hl (by unfold maxLen; omega) (by simp)
  refine ⟨[], by simpa using h, fun g hg => ?_, rfl, fun j hj => absurd hj (by omega)⟩
  have hg' : w.heap.size = g := by simpa [Value.ownBlock] using hg
  exact ⟨by omega, fun hc => by have := hG g hc; omega⟩
theorem ownsRow_alt {S : Nat → Prop} {e : TypeId} {s : Nat} {vals : List Value} (h : w.ownsRow lo e s v n vals) (k : Alt S w w') (hs : ∀ g, v.ownBlock = some g → ¬ S g) : w'.ownsRow lo e s v n vals := by
  refine ⟨h.1, ?_⟩
  rcases h.2 with h1 | ⟨g, cap, cur, rfl, hlo, hg, r⟩
  · exact .inl h1
  · have hl := h.lt g (by simp [Value.ownBlock])
    exact .inr ⟨g, cap, cur, rfl, hlo, by rw [k.block g hl.2 (hs g (by simp [Value.ownBlock]))]; exact hg, r⟩
theorem RM.alt {S : Nat → Prop} {A : Option Addr} {m : Nat} {xs : List Int} (h : RM w b G A m xs) (k : Alt S w w') (hs : ∀ q o, A = some ⟨q, o, none⟩ → ¬ S q) : RM w' b G A m xs :=
  ⟨h.1.alt k (fun _ q o hA => hs q o hA), h.2⟩
theorem NL.mv (h : NL w b G lo v n xss) (k : Mv b G G' w w') : NL w' b G' lo v n xss := by
  have hlt := h.lt
  obtain ⟨vals, h1, h2, h3, h4⟩ := h
  have hal : Alt (fun i => i = b ∨ G = some i) w w' := ⟨k.os, k.tape, k.output, k.size, fun i hi hn => k.block i hi (fun hc => hn (.inl hc)) (fun hc => hn (.inr hc))⟩
  refine ⟨vals, ownsRow_alt h1 hal (fun g hg hc => hc.elim (h2 g hg).1 (h2 g hg).2), fun g hg => ⟨(h2 g hg).1, k.off (hlt g hg).2.1 (h2 g hg).2⟩, h3, fun j hj => ?_⟩
  obtain ⟨A, m, c, h5, h6, h7⟩ := h4 j hj
  exact ⟨A, m, c, h5, h6.mv k, fun q o hA => ⟨(h7 q o hA).1, Nat.lt_of_lt_of_le (h7 q o hA).2 k.size⟩⟩
theorem NL.below_ {B : Nat} (h : NL w b G lo v n xss) (k : Below B w w') (hB : w.heap.size ≤ B) : NL w' b G lo v n xss := by
  obtain ⟨vals, h1, h2, h3, h4⟩ := h
  have hal : Alt (fun i => B ≤ i) w w' := Alt.of_below k fun _ _ h => h
  refine ⟨vals, ownsRow_alt h1 hal (fun g hg hc => by have := (h1.lt g hg).2; omega), h2, h3, fun j hj => ?_⟩
  obtain ⟨A, m, c, h5, h6, h7⟩ := h4 j hj
  exact ⟨A, m, c, h5, h6.below_ k hB, fun q o hA => ⟨(h7 q o hA).1, Nat.lt_of_lt_of_le (h7 q o hA).2 k.size⟩⟩
theorem NL.alloc_ (h : NL w b G lo v n xss) (o : Obj) : NL (w.alloc o) b G lo v n xss := h.below_ ((Below.refl _ _).alloc (Nat.le_refl _) o) (Nat.le_refl _)
theorem NL.drewN_ (h : NL w b G lo v n xss) (k : Nat) : NL (w.drewN k) b G lo v n xss := h.below_ (below_of_drewN k) (Nat.le_refl _)
theorem NL.at_ {A : Option Addr} {c : Nat} (h : NL w b G lo (.slice A n c) n xss) {k : Nat} (hk : k < n) :
    ∃ g A' m c', A = some ⟨g, 0, none⟩ ∧ lo ≤ g ∧ g < w.heap.size ∧ w.cell? ⟨g, k, none⟩ = some (.slice A' m c') ∧ w.frozen? ⟨g, k, none⟩ = false ∧ RM w b G A' m (gl xss k) ∧ ∀ q o, A' = some ⟨q, o, none⟩ → q ≠ g ∧ q < w.heap.size := by
  obtain ⟨vals, h1, h2, h3, h4⟩ := h
  obtain ⟨g, cap, hv, hl, hlt⟩ := h1.form (by omega)
  simp only [Value.slice.injEq, true_and] at hv
  obtain ⟨rfl, rfl⟩ := hv
  obtain ⟨A', m, c', h5, h6, h7⟩ := h4 k hk
  exact ⟨g, A', m, c', rfl, hl, hlt, by rw [h1.cellAt k (by omega), h5], h1.frozenAt k, h6, fun q o hA => ⟨fun hc => (h7 q o hA).1 (by simp [Value.ownBlock, hc]), (h7 q o hA).2⟩⟩
theorem NL.reads {A : Option Addr} {c : Nat} (h : NL w b G lo (.slice A n c) n xss) : RII w A n xss := by
  refine ⟨h.len, fun hn => ?_⟩
  obtain ⟨g, A', m, c', rfl, _, hlt, _⟩ := h.at_ hn
  refine ⟨g, 0, rfl, hlt, fun j hj => ?_⟩
  obtain ⟨g', A', m, c', hg, _, _, hc, _, hr, _⟩ := h.at_ hj
  simp only [Option.some.injEq, Addr.mk.injEq, and_true] at hg
  subst hg
  exact ⟨A', m, c', by rw [Nat.zero_add]; exact hc, hr.1⟩
theorem NL.stored {g c m c' j : Nat} {A' : Option Addr} {ys : List Int} (h : NL w b G lo (.slice (some ⟨g, 0, none⟩) n c) n xss) (hj : j < n) (hr : RM w b G A' m ys) (hd : ∀ q o, A' = some ⟨q, o, none⟩ → q ≠ g ∧ q < w.heap.size) :
    NL (w.setCell ⟨g, j, none⟩ (.slice A' m c')) b G lo (.slice (some ⟨g, 0, none⟩) n c) n (xss.set j ys) := by
  obtain ⟨vals, h1, h2, h3, h4⟩ := h
  have k1 : Alt (fun i => i = g) w (w.setCell ⟨g, j, none⟩ (.slice A' m c')) := (Alt.refl_ _ w).set_ _ _ (fun _ => rfl)
  have hl : vals.length = n := by simpa using h1.1
  refine ⟨vals.set j (.slice A' m c'), (h1.stored j _).1, h2, by simp [h3], fun i hi => ?_⟩
  by_cases hij : j = i
  · subst hij
    refine ⟨A', m, c', by rw [List.getElem?_set]; simp [hl, hj], ?_, fun q o hA => ⟨fun hc => ?_, by simpa using (hd q o hA).2⟩⟩
    · rw [gl_set _ (by omega), if_pos rfl]; exact hr.alt k1 (fun q o hA => (hd q o hA).1)
    · simp [Value.ownBlock] at hc; exact (hd q o hA).1 hc.symm
  · obtain ⟨A2, m2, c2, h5, h6, h7⟩ := h4 i hi
    refine ⟨A2, m2, c2, by rw [List.getElem?_set_ne hij]; exact h5, ?_, fun q o hA => ⟨(h7 q o hA).1, by simpa using (h7 q o hA).2⟩⟩
    rw [gl_set _ (by omega), if_neg hij]
    exact h6.alt k1 (fun q o hA hc => (h7 q o hA).1 (by simp [Value.ownBlock, hc]))
end
section
variable (w : World)
theorem run_appN (ty : TypeId) (lo n c0 m c b bq q : Nat) (G : Option Nat) (A0 A : Option Addr) (xss : List (List Int)) (ys : List Int) (hown : NL w b G lo (.slice A0 n c0) n xss) (hnew : RM w b G A m ys) (hd : ∀ k o, A = some ⟨k, o, none⟩ → (Value.slice A0 n c0).ownBlock ≠ some k ∧ k < w.heap.size)
    (hc : w.cell? ⟨bq, 0, none⟩ = some (.slice A m c)) (hlen : n ≤ 4194304) (hlo : lo ≤ w.heap.size) (hb : b < w.heap.size) (hG : ∀ g, G = some g → g < w.heap.size) :
    ∃ A' c' w', (Builtin.append_ #[64, 64] ty #[.slice A0 n c0, .slice (some ⟨bq, 0, none⟩) 1 q]).run Tryz.prog w = .ok (.slice A' (n + 1) c') w' ∧
      NL w' b G lo (.slice A' (n + 1) c') (n + 1) (xss ++ [ys]) ∧ w.grownBy w' (Value.slice A0 n c0).ownBlock := by
  obtain ⟨vals, h1, h2, h3, h4⟩ := hown
  obtain ⟨i, hi0, hz0, hz1, hz2⟩ := info_parts info_ints
  have hrv : RV w (some ⟨bq, 0, none⟩) 1 1 [.slice A m c] := by
    refine ⟨rfl, fun _ => ⟨_, rfl, fun j u hu => ?_⟩⟩
    cases j with
    | zero => simp at hu; subst hu; rw [addr_add]; exact hc
    | succ j => simp at hu
  obtain ⟨A', c', w', hrun, hr, hg, hat, hs⟩ := run_appV (P := Tryz.prog) w 64 ty 30 i (.slice none 0 0) 1 24 Tryz.underlying64 hi0 hz0 hz1 hz2 rfl (by decide) lo n c0 1 q A0 (some ⟨bq, 0, none⟩) _ _ h1 hrv (by intro u hu; simp at hu; subst hu; rfl) (by unfold maxLen; omega) (by omega) hlo
  have hl : vals.length = n := by simpa using h1.1
  have ka := Alt.of_grown (S := fun i => (Value.slice A0 n c0).ownBlock = some i) hg (fun _ h => h)
  refine ⟨A', c', w', hrun, ⟨_, hr, fun g hg' => ?_, by simp [h3], fun j hj => ?_⟩, hg⟩
  · rcases hat with h | h
    · exact h2 g (h ▸ hg')
    · rw [h] at hg'; injection hg' with hg'; subst hg'
      exact ⟨by omega, fun hc => by have := hG _ hc; omega⟩
  · by_cases hjn : j < n
    · obtain ⟨A2, m2, c2, h5, h6, h7⟩ := h4 j hjn
      refine ⟨A2, m2, c2, by rw [List.getElem?_append_left (by omega)]; exact h5, ?_, fun k o hA => ⟨fun hcc => ?_, Nat.lt_of_lt_of_le (h7 k o hA).2 hg.size⟩⟩
      · rw [gl_append_lt (by omega)]; exact h6.alt ka (fun k o hA => (h7 k o hA).1)
      · rcases hat with h | h
        · exact (h7 k o hA).1 (h ▸ hcc)
        · rw [h] at hcc; injection hcc with hcc; have := (h7 k o hA).2; omega
    · obtain rfl : j = n := by omega
      refine ⟨A, m, c, by rw [List.getElem?_append_right (by omega), hl, Nat.sub_self]; rfl, ?_, fun k o hA => ⟨fun hcc => ?_, Nat.lt_of_lt_of_le (hd k o hA).2 hg.size⟩⟩
      · rw [← h3, gl_append_eq]; exact hnew.alt ka (fun k o hA => (hd k o hA).1)
      · rcases hat with h | h
        · exact (hd k o hA).1 (h ▸ hcc)
        · rw [h] at hcc; injection hcc with hcc; have := (hd k o hA).2; omega
end
variable {Qo : OQ}
theorem bitsN_len2 (v k : Nat) : (bitsN v k).length = k := by simp [bitsN, tab_len]
theorem bitsN_01 (v k j : Nat) (hj : j < k) : gi (bitsN v k) j = 0 ∨ gi (bitsN v k) j = 1 := by
  unfold bitsN
  rw [gi_tab hj]
  have : v / 2 ^ j % 2 = 0 ∨ v / 2 ^ j % 2 = 1 := by omega
  rcases this with h | h <;> simp [h]
def cstW (N : Int) (bits : List Int) : List Int := bits.map fun b => N + 1 - b
theorem cstW_snoc {N : Int} {bits : List Int} {j : Nat} (h : j < bits.length) : cstW N (bits.take (j + 1)) = cstW N (bits.take j) ++ [N + 1 - gi bits j] := by
  unfold cstW; rw [gi_take_snoc h]; simp
theorem RI.app_other {w w' : World} {bb bo n m : Nat} {xs : List Int} {r : Option Nat} (h : RI w (some ⟨bb, bo, none⟩) n xs) (hg : w.grownBy w' r) (hne : r ≠ some bb) : RI w' (some ⟨bb, bo, none⟩) n xs :=
  h.alt (Alt.of_grown (S := fun i => r = some i) hg (fun _ h => h)) (fun _ q o hA => by
    simp only [Option.some.injEq, Addr.mk.injEq, and_true] at hA
    obtain ⟨rfl, _⟩ := hA
    exact hne)
set_option maxHeartbeats 1600000 in
theorem maker_constant_any (lo b : Nat) (x y : Int) (g0 : List G3) (G : Option Nat) (v k : Nat) (w : World) (hm : MkQ Qo w lo b x y g0 G) (hx : 0 ≤ x ∧ x ≤ 20) (hy : 0 ≤ y ∧ y ≤ 20) (hg : g0.length ≤ 40000) (hv : v ≤ 1023) (hk1 : 1 ≤ k) (hk : k ≤ 10) (hlo : lo ≤ w.heap.size) :
    Calls Tryz.prog 134 #[.pointer (some ⟨b, 0, none⟩), .int .i64 v, .int .i64 k] w (RetRowQ Qo lo b x y (constS (x + y) (bitsN v k) g0).g (constS (x + y) (bitsN v k) g0).o G w) := by
  obtain ⟨N, hN⟩ : ∃ N : Int, Hid (x + y + (g0.length : Int) = N) := ⟨_, Lib.hid rfl⟩
  have hCG : Hid ((constS (x + y) (bitsN v k) g0).g = g0 ++ [⟨3, 0, 0⟩] ++ [⟨2, N, 0⟩]) := Lib.hid (by unfold constS; rw [hN.out])
  have hCO : Hid ((constS (x + y) (bitsN v k) g0).o = cstW N (bitsN v k)) := Lib.hid (by unfold constS cstW; rw [hN.out])
  have hbl := bitsN_len2 v k
  have hb01 : Hid (∀ j, j < k → gi (bitsN v k) j = 0 ∨ gi (bitsN v k) j = 1) := Lib.hid (fun j hj => bitsN_01 v k j hj)
  have hNb : 0 ≤ N ∧ N ≤ 50000 := by have := hN.out; omega
  rw [hCG.out, hCO.out]
  obtain ⟨bits, hbits⟩ : ∃ bits, Hid (bitsN v k = bits) := ⟨_, Lib.hid rfl⟩
  rw [hbits.out] at hbl hb01 ⊢
  go_enter Tryz.func134, Tryz.ntmps134
  go_wp2_with fail
  refine (maker_zeroQ_v lo b x y g0 G N w hm hx hy (by omega) hlo hN.out).mono ?_
  rintro e w1 ⟨G1, rfl, hm1, hv1⟩
  have hz1 := hv1.size
  have ho1 := OM.new0Q hm1 hz1
  have hm2 := hm1.alloc_ (.cells #[] 3)
  have hv2 := hv1.alloc_ (.cells #[] 3)
  have hT0 := bitsOf_any v k (w1.alloc (.cells #[] 3)) (by omega) (by omega)
  rw [hbits.out] at hT0
  go_wp2_with fail
  refine (hT0).mono ?_
  rintro e w3 hT
  obtain ⟨A, c, rfl, hown, hb3⟩ := hT.open_ hbl
  have hm3 := hm2.below_ hb3 (Nat.le_refl _)
  have hv3 := hv2.below_ hb3 (Nat.le_refl _)
  have ho3 := ho1.below_ hb3 (Nat.le_refl _)
  have hz3 := hb3.size
  rw [World.size_alloc] at hz3
  have hr3 := hown.reads
  obtain ⟨bb, rfl, hbb1, hbb2, hbb3⟩ := hown.some_ (by omega)
  rw [World.size_alloc] at hbb1
  have hne3 : (Value.slice (some ⟨w1.heap.size, 0, none⟩) 0 0).ownBlock ≠ some bb := by simp [Value.ownBlock]; omega
  clear hm1 hv1 ho1 hm2 hv2 hT0 hT hown
  go_wp2
  go_loopw [8, 18] (fun o i wr => ∃ (j : Nat) (O : Option Addr) (oc : Nat), j ≤ k ∧ i = .int .i64 j ∧ o = .slice O j oc ∧ MkQ Qo wr lo b x y (g0 ++ [⟨3, 0, 0⟩] ++ [⟨2, N, 0⟩]) G1 ∧ OM wr b G1 w.heap.size (.slice O j oc) j (cstW N (bits.take j)) ∧ Mv b G G1 w wr ∧ RI wr (some ⟨bb, 0, none⟩) k bits ∧ (Value.slice O j oc).ownBlock ≠ some bb ∧ bb < wr.heap.size) (fun _ i _ => k - (intOf i).toNat)
  case atStart => exact ⟨0, _, _, Nat.zero_le _, rfl, rfl, hm3, ho3, hv3, hr3, hne3, hbb3⟩
  case round =>
    obtain ⟨j, O, oc, hj, rfl, rfl, hmr, hor, hvr, hrr, hne, hbl2⟩ := hrel
    clear hm3 ho3 hv3 hr3 hne3
    have hzr := hvr.size
    by_cases hlt : j < k
    · obtain ⟨bb', bo', hA, _, cb⟩ := hrr.at_ hlt
      simp only [Option.some.injEq, Addr.mk.injEq, and_true] at hA
      obtain ⟨rfl, rfl⟩ := hA
      simp only [Nat.zero_add] at cb
      have h01 := hb01.out j hlt
      have hsn : Hid (cstW N (bits.take (j + 1)) = cstW N (bits.take j) ++ [N + 1 - gi bits j]) := Lib.hid (cstW_snoc (by omega))
      obtain ⟨u, hu⟩ : ∃ u, Hid (gi bits j = u) := ⟨_, Lib.hid rfl⟩
      rw [hu.out] at cb h01 hsn
      have hub : 0 ≤ u ∧ u ≤ 1 := by omega
      clear h01
      have hwr : IntKind.i64.wrap (N + 1 - u) = N + 1 - u := by rw [IntKind.wrap_i64] <;> omega
      have hoA := hor.alloc_ (.cells #[.int .i64 (N + 1 - u)] 3); have hmA := hmr.alloc_ (.cells #[.int .i64 (N + 1 - u)] 3); have hvA := hvr.alloc_ (.cells #[.int .i64 (N + 1 - u)] 3); have hrA := hrr.alloc (.cells #[.int .i64 (N + 1 - u)] 3)
      go_wp2_with (at_builtin; refine wpList_appI _ rfl _ _ rfl rfl hoA.1 rfl (RI_one _ _ _ _ (by simp)) (by omega) (by first | omega | (simp; done) | (simp; omega)) ?_; intro A5 c5 w5 hown5 hg5 hat5 hk5)
      have ho5 := hoA.appQ hmA hown5 hat5; have hm5 := hmA.app hoA hg5; have hv5 := hvA.app hoA hg5
      have hr5 := RI.app_other (m := 0) hrA hg5 hne
      have hne5 : (Value.slice A5 (j + 1) c5).ownBlock ≠ some bb := by
        rcases hat5 with h | h
        · rw [h]; exact hne
        · rw [h]; simp; omega
      have hbl5 : bb < w5.heap.size := by have := hg5.size; simp at this; omega
      clear hoA hmA hvA hrA hown5 hg5 hat5 hk5 hor hmr hvr hrr hne
      go_wp2
      go_roundw
      case rel => exact ⟨j + 1, _, _, by omega, by go_num, rfl, hm5, by rw [hsn.out]; exact ho5, hv5, hr5, hne5, hbl5⟩
      case measure => simp [intOf]; omega
    · obtain rfl : k = j := Nat.le_antisymm (Nat.le_of_not_lt hlt) hj
      rw [List.take_of_length_le (by omega)] at hor
      have hcl : (cstW N bits).length = k := by simp [cstW, hbl]
      go_wp2
      go_ret
      exact RetRowQ.mk_ hcl rfl hmr hvr hor
set_option maxHeartbeats 1600000 in
theorem gdConst_any (lo b : Nat) (x y : Int) (g0 : List G3) (G : Option Nat) (v k : Nat) (w : World) (hm : MkQ Qo w lo b x y g0 G) (hx : 0 ≤ x ∧ x ≤ 20) (hy : 0 ≤ y ∧ y ≤ 20) (hg : g0.length ≤ 40000) (hv : v ≤ 1023) (hk1 : 1 ≤ k) (hk : k ≤ 10) (hlo : lo ≤ w.heap.size) :
    Calls Tryz.prog 93 #[.pointer (some ⟨b, 0, none⟩), .int .i64 v, .int .i64 k] w (RetRdQ Qo lo b x y (constS (x + y) (bitsN v k) g0).g (constS (x + y) (bitsN v k) g0).o G w) := by
  obtain ⟨N, hN⟩ : ∃ N : Int, Hid (x + y + (g0.length : Int) = N) := ⟨_, Lib.hid rfl⟩
  have hCG : Hid ((constS (x + y) (bitsN v k) g0).g = g0 ++ [⟨3, 0, 0⟩] ++ [⟨2, N, 0⟩]) := Lib.hid (by unfold constS; rw [hN.out])
  have hCO : Hid ((constS (x + y) (bitsN v k) g0).o = cstW N (bitsN v k)) := Lib.hid (by unfold constS cstW; rw [hN.out])
  have hbl := bitsN_len2 v k
  have hb01 : Hid (∀ j, j < k → gi (bitsN v k) j = 0 ∨ gi (bitsN v k) j = 1) := Lib.hid (fun j hj => bitsN_01 v k j hj)
  have hNb : 0 ≤ N ∧ N ≤ 50000 := by have := hN.out; omega
  rw [hCG.out, hCO.out]
  obtain ⟨bits, hbits⟩ : ∃ bits, Hid (bitsN v k = bits) := ⟨_, Lib.hid rfl⟩
  rw [hbits.out] at hbl hb01 ⊢
  go_enter Tryz.func93, Tryz.ntmps93
  go_wp2_with fail
  refine (ciMaker_oneQ_any lo b x y g0 G w hm hx hy (by omega) hlo).mono ?_
  rintro e w0 ⟨G0, rfl, hm0, hv0⟩
  rw [hN.out]
  go_wp2_with fail
  refine (ciMaker_notQ_v lo b x y (g0 ++ [⟨3, 0, 0⟩]) G0 N (N + 1) _ hm0 hx hy (by simp; omega) (Nat.le_trans hlo hv0.size) (by have := hN.out; simp; omega)).mono ?_
  rintro e w1 ⟨G1, rfl, hm1, hv1_⟩
  have hv1 := hv0.trans_ hv1_
  have hz1 := hv1.size
  have hT0 := btOf_any v k w1 (by omega) (by omega)
  rw [hbits.out] at hT0
  go_wp2_with fail
  refine (hT0).mono ?_
  rintro e w3 hT
  obtain ⟨A, c, rfl, hown, hb3⟩ := hT.open_ hbl
  have hm3 := hm1.below_ hb3 (Nat.le_refl _)
  have hv3 := hv1.below_ hb3 (Nat.le_refl _)
  have hz3 := hb3.size
  have ho3 := OM.none_ w3 b G1 w.heap.size
  have hr3 := hown.reads
  obtain ⟨bb, rfl, hbb1, hbb2, hbb3⟩ := hown.some_ (by omega)
  have hne3 : (Value.slice none 0 0).ownBlock ≠ some bb := by simp [Value.ownBlock]
  clear hm1 hv1 hm0 hv0 hv1_ hT0 hT hown
  go_wp2
  go_loopw [9, 21] (fun o i wr => ∃ (j : Nat) (O : Option Addr) (oc : Nat), j ≤ k ∧ i = .int .i64 j ∧ o = .slice O j oc ∧ MkQ Qo wr lo b x y (g0 ++ [⟨3, 0, 0⟩] ++ [⟨2, N, 0⟩]) G1 ∧ OM wr b G1 w.heap.size (.slice O j oc) j (cstW N (bits.take j)) ∧ Mv b G G1 w wr ∧ RI wr (some ⟨bb, 0, none⟩) k bits ∧ (Value.slice O j oc).ownBlock ≠ some bb ∧ bb < wr.heap.size) (fun _ i _ => k - (intOf i).toNat)
  case atStart => exact ⟨0, _, _, Nat.zero_le _, rfl, rfl, hm3, ho3, hv3, hr3, hne3, hbb3⟩
  case round =>
    obtain ⟨j, O, oc, hj, rfl, rfl, hmr, hor, hvr, hrr, hne, hbl2⟩ := hrel
    clear hm3 ho3 hv3 hr3 hne3
    have hzr := hvr.size
    by_cases hlt : j < k
    · obtain ⟨bb', bo', hA, _, cb⟩ := hrr.at_ hlt
      simp only [Option.some.injEq, Addr.mk.injEq, and_true] at hA
      obtain ⟨rfl, rfl⟩ := hA
      simp only [Nat.zero_add] at cb
      have h01 := hb01.out j hlt
      have hsn : Hid (cstW N (bits.take (j + 1)) = cstW N (bits.take j) ++ [N + 1 - gi bits j]) := Lib.hid (cstW_snoc (by omega))
      obtain ⟨u, hu⟩ : ∃ u, Hid (gi bits j = u) := ⟨_, Lib.hid rfl⟩
      rw [hu.out] at cb h01 hsn
      rcases h01 with hu0 | hu0
      · have hsn2 : Hid (cstW N (bits.take (j + 1)) = cstW N (bits.take j) ++ [N + 1]) := Lib.hid (by rw [hsn.out, hu0]; congr 2; omega)
        rw [hu0] at cb
        clear hsn hu0 hu
        have hoA := hor.alloc_ (.cells #[.int .i64 (N + 1)] 3); have hmA := hmr.alloc_ (.cells #[.int .i64 (N + 1)] 3); have hvA := hvr.alloc_ (.cells #[.int .i64 (N + 1)] 3); have hrA := hrr.alloc (.cells #[.int .i64 (N + 1)] 3)
        go_wp2_with (at_builtin; refine wpList_appI _ rfl _ _ rfl rfl hoA.1 rfl (RI_one _ _ _ _ (by simp)) (by omega) (by first | omega | (simp; done) | (simp; omega)) ?_; intro A5 c5 w5 hown5 hg5 hat5 hk5)
        have ho5 := hoA.appQ hmA hown5 hat5; have hm5 := hmA.app hoA hg5; have hv5 := hvA.app hoA hg5
        have hr5 := RI.app_other (m := 0) hrA hg5 hne
        have hne5 : (Value.slice A5 (j + 1) c5).ownBlock ≠ some bb := by
          rcases hat5 with h | h
          · rw [h]; exact hne
          · rw [h]; simp; omega
        have hbl5 : bb < w5.heap.size := by have := hg5.size; simp at this; omega
        clear hoA hmA hvA hrA hown5 hg5 hat5 hk5 hor hmr hvr hrr hne
        go_wp2
        go_roundw
        case rel => exact ⟨j + 1, _, _, by omega, by go_num, rfl, hm5, by rw [hsn2.out]; exact ho5, hv5, hr5, hne5, hbl5⟩
        case measure => simp [intOf]; omega
      · have hsn2 : Hid (cstW N (bits.take (j + 1)) = cstW N (bits.take j) ++ [N]) := Lib.hid (by rw [hsn.out, hu0]; congr 2; omega)
        rw [hu0] at cb
        clear hsn hu0 hu
        have hoA := hor.alloc_ (.cells #[.int .i64 (N)] 3); have hmA := hmr.alloc_ (.cells #[.int .i64 (N)] 3); have hvA := hvr.alloc_ (.cells #[.int .i64 (N)] 3); have hrA := hrr.alloc (.cells #[.int .i64 (N)] 3)
        go_wp2_with (at_builtin; refine wpList_appI _ rfl _ _ rfl rfl hoA.1 rfl (RI_one _ _ _ _ (by simp)) (by omega) (by first | omega | (simp; done) | (simp; omega)) ?_; intro A5 c5 w5 hown5 hg5 hat5 hk5)
        have ho5 := hoA.appQ hmA hown5 hat5; have hm5 := hmA.app hoA hg5; have hv5 := hvA.app hoA hg5
        have hr5 := RI.app_other (m := 0) hrA hg5 hne
        have hne5 : (Value.slice A5 (j + 1) c5).ownBlock ≠ some bb := by
          rcases hat5 with h | h
          · rw [h]; exact hne
          · rw [h]; simp; omega
        have hbl5 : bb < w5.heap.size := by have := hg5.size; simp at this; omega
        clear hoA hmA hvA hrA hown5 hg5 hat5 hk5 hor hmr hvr hrr hne
        go_wp2
        go_roundw
        case rel => exact ⟨j + 1, _, _, by omega, by go_num, rfl, hm5, by rw [hsn2.out]; exact ho5, hv5, hr5, hne5, hbl5⟩
        case measure => simp [intOf]; omega
    · obtain rfl : k = j := Nat.le_antisymm (Nat.le_of_not_lt hlt) hj
      rw [List.take_of_length_le (by omega)] at hor
      have hcl : (cstW N bits).length = k := by simp [cstW, hbl]
      go_wp2
      go_ret
      exact RetRdQ.ofOM hcl rfl hmr hvr hor
end Go.Proofs.YtjjphaiomaiilaaGreat
