/- Drawn circuits with two numbers, drawn rows of bits. -/
import Derived.Test.YtimmjppkaadggaaQP14
import Derived.Test.YtimmjppkaadggaaQP19
import Derived.Test.YtimmjppkaadggaaQP20
import Derived.Test.YtimmjppkaadggaaQP21
namespace Go.Proofs.Ytimmjppkaadggaa
open Go.RowKit
set_option linter.unusedVariables false
set_option linter.unusedSimpArgs false
attribute [local go_sem] sepAt sepUpon pureAt pureUpon
def RetCb (b : Nat) (R : Nat → Prop) (T k : Nat) (w : World) (e : Ending) (w' : World) : Prop :=
  ∃ (xs : List Int) (A : Option Addr) (c : Nat), e = .returned (.slice A k c) ∧ Own w' w.heap.size w'.heap.size (.slice A k c) k xs ∧ allB 0 1 xs = true ∧ Cur w' b R T ∧ Alt (fun i => i = b) w w'
set_option maxHeartbeats 1000000 in
theorem bits_any (k b : Nat) (R : Nat → Prop) (T : Nat) (w : World) (h : Cur w b R T) (hT : T < 700000000) (hk : k ≤ 100) (hR : ∀ i, R i → i < w.heap.size) (hRb : ¬ R b) :
    Calls Try.prog 25 #[.pointer (some ⟨b, 0, none⟩), .int .i64 k] w (RetCb b R (T + 200) k w) := by
  have hb := h.lt
  go_enter Try.func25, Try.ntmps25
  go_wp2
  go_loopw [5, 1] (fun v n wr => ∃ (i : Nat) (A : Option Addr) (c : Nat) (xs : List Int), i ≤ k ∧ n = .int .i64 ((k - i : Nat) : Int) ∧ v = .slice A i c ∧ Own wr w.heap.size wr.heap.size (.slice A i c) i xs ∧ allB 0 1 xs = true ∧ Cur wr b R (T + 2 * i) ∧ Alt (fun i => i = b) w wr) (fun _ n _ => (intOf n).toNat)
  case atStart => exact ⟨0, _, _, [], Nat.zero_le _, by simp, rfl, Own.none_ _ _ _, rfl, h.mono (by omega), Alt.refl_ _ _⟩
  case round =>
    obtain ⟨i, A, c, xs, hi, rfl, rfl, ho, hx, hu, ha⟩ := hrel
    clear h
    have hz := ha.size
    by_cases hlt : i < k
    · have hp : (0 : Int) < ((k - i : Nat) : Int) := by omega
      have hp' : 0 < k - i := by omega
      go_wp2_with fail
      refine (pick_any 2 b R _ _ hu (by omega) (by omega)).mono ?_
      rintro e w2 ⟨v, hv, hv2, rfl, u2, k2, z2⟩
      have hv1 : v ≤ 1 := by omega
      have ho2 := (ho.alt k2 (fun g hg e => by have := (ho.lt g hg).1; omega)).now
      have ha2 := ha.trans_ k2 (fun _ _ h => h)
      have hz2 := ha2.size
      have hoA := ho2.alloc (.cells #[.int .i64 v] 3)
      have haA := ha2.alloc_ (.cells #[.int .i64 v] 3)
      have uA := u2.alt ((Alt.refl_ (fun _ => False) w2).alloc_ (.cells #[.int .i64 v] 3)) (fun h => h) (fun _ _ h => h)
      clear ho ha hu k2 u2 ha2 z2
      go_wp2_with (at_builtin; refine wpList_app _ rfl _ _ rfl rfl hoA rfl (RI_one _ _ _ _ (by simp)) (by omega) (by first | omega | (simp; done) | (simp; omega)) ?_; intro A5 c5 w5 hown5 hg5 hat5)
      have a5 := haA.trans_ (Alt.of_grown (S := fun j => (Value.slice A i c).ownBlock = some j) hg5 (fun j hj => hj)) (fun j hj h => by have := (hoA.lt j h).1; omega)
      have u5 := uA.alt (Alt.of_grown (S := fun j => (Value.slice A i c).ownBlock = some j) hg5 (fun j hj => hj)) (fun h => by have := (hoA.lt b h).1; omega) (fun j hj h => by have := (hoA.lt j h).1; have := hR j hj; omega)
      have hx5 : allB 0 1 (xs ++ [(v : Int)]) = true := allB_iff.2 fun z hz => (List.mem_append.1 hz).elim (allB_iff.1 hx z) (fun h => by simp at h; omega)
      clear hoA haA uA hg5 hat5 hx
      go_wp2
      go_roundw
      case rel => exact ⟨i + 1, _, _, _, by omega, by go_num, rfl, hown5, hx5, u5.mono (by omega), a5⟩
      case measure => simp [intOf]; omega
    · obtain rfl : i = k := by omega
      have hp : ¬ (0 : Int) < ((i - i : Nat) : Int) := by omega
      go_wp2
      go_ret
      exact ⟨xs, _, _, rfl, ho, hx, hu.mono (by omega), ha⟩
set_option maxRecDepth 100000 in
set_option maxHeartbeats 1000000 in
theorem DrawCountCircuit_any (Y : Option Addr) (n c : Nat) (w : World) (hY : RY w Y n) :
    Calls Try.prog 17 #[.slice Y n c] w (RetIb (-1) 17 w) := by
  have hc0 := Cur.newW (c := c) hY
  have hA2 : Below w.heap.size w (w.alloc (.cells #[.slice Y n c, .int .i64 0, .int .u64 0] 41)) := (Below.refl _ _).alloc (Nat.le_refl _) _
  go_enter Try.func17, Try.ntmps17
  go_wp2_with fail
  refine (pick_any 19 w.heap.size (tblkW Y n) 0 _ hc0 (by omega) (by omega)).mono ?_
  rintro e a1 ⟨u, hu, hu2, rfl, c1, k1, z1⟩
  have kw : Alt (fun i => i = w.heap.size) w a1 := (Alt.of_new (S := fun i => i = w.heap.size) hA2).trans_ k1 (fun _ _ h => h)
  have hub : u ≤ 18 := by omega
  have hw1 : IntKind.i64.wrap ((u : Int) - 1) = (u : Int) - 1 := by rw [IntKind.wrap_i64] <;> omega
  go_wp2
  go_ret
  exact ⟨(u : Int) - 1, by omega, by omega, rfl, kw.below_ (Nat.le_refl _) (fun i hi e => by omega)⟩
def RetGk (w : World) (e : Ending) (w' : World) : Prop :=
  ∃ (C : Ci) (A : Option Addr) (ca : Nat) (O : Option Addr) (co : Nat), e = .returned (.tuple #[.agg #[.int .i64 C.i0, .int .i64 C.i1, .slice A C.gs.length ca, .slice O C.os.length co], .bool true]) ∧ OwnCr w' w.heap.size w'.heap.size A C.gs.length ca O C.os.length co C.gs C.os ∧ (0 ≤ C.i0 ∧ C.i0 ≤ 20) ∧ (0 ≤ C.i1 ∧ C.i1 ≤ 20) ∧ C.gs.length ≤ 300 ∧ C.os.length ≤ 40 ∧ Below w.heap.size w w'
theorem RetGk.of_ {w w' : World} {o : Option Ci} {e : Ending} {x y : Int} {gs : List G3} {os : List Int} (ho : o = some ⟨x, y, gs, os⟩) (hc : circB x y gs os = true) (h : RetCr w o e w') : RetGk w e w' := by
  subst ho
  obtain ⟨A, ca, O, co, h1, h2, h3⟩ := h
  obtain ⟨hx, hy, hg, hos, _⟩ := circB_bd hc
  exact ⟨⟨x, y, gs, os⟩, A, ca, O, co, h1, h2, by simpa using hx, by simpa using hy, hg, hos, h3⟩
theorem RetC.toCr {w w' : World} {o : Option Ci} {e : Ending} (h : RetC w o e w') : RetCr w o e w' := by
  obtain ⟨A, ca, O, co, h1, h2, h3⟩ := h
  exact ⟨A, ca, O, co, h1, h2.toR, h3⟩
theorem gadF_t {G : Nat → Go2} {hi : Int} {n : Nat} (h : inB 1 hi (n : Int) = true) : gadF G hi (n : Int) = some ⟨n, n, (G n).g, (G n).o⟩ := by simp [gadF, h]
theorem gdKind_any (k n : Nat) (w : World) (hk : k < 7) (h1 : 1 ≤ n) (h5 : n ≤ 5) : Calls Try.prog 23 #[.int .i64 k, .int .i64 n] w (RetGk w) := by
  have h8 : inB 1 8 (n : Int) = true := inB_t (by omega)
  have h55 : inB 1 5 (n : Int) = true := inB_t (by omega)
  rcases (show k = 0 ∨ k = 1 ∨ k = 2 ∨ k = 3 ∨ k = 4 ∨ k = 5 ∨ k = 6 by omega) with rfl | rfl | rfl | rfl | rfl | rfl | rfl
  · exact (gdKind_0 n w).mono fun e w' h => RetGk.of_ (gadF_t h8) (adderG_ok n h1 (by omega)) h.toCr
  · exact (gdKind_1 n w).mono fun e w' h => RetGk.of_ (gadF_t h8) (subG_ok n h1 (by omega)) h.toCr
  · exact (gdKind_2 n w).mono fun e w' h => RetGk.of_ (gadF_t h8) (lessG_ok n h1 (by omega)) h
  · exact (gdKind_3 n w).mono fun e w' h => RetGk.of_ (gadF_t h8) (equalG_ok n h1 (by omega)) h.toCr
  · exact (gdKind_4 n w).mono fun e w' h => RetGk.of_ (o := chooseF n) (x := 2 * n) (y := 1) (gs := (chooseG n).g) (os := (chooseG n).o) (by simp [chooseF, h8]) (by simpa using chooseG_ok n h1 (by omega)) h.toCr
  · exact (gdKind_5 n w).mono fun e w' h => RetGk.of_ (gadF_t h8) (greatestG_ok n h1 (by omega)) h.toCr
  · exact (gdKind_6 n w).mono fun e w' h => RetGk.of_ (gadF_t h55) (prodG_ok n h1 (by omega)) h.toCr
theorem OwnCr.alt {S : Nat → Prop} {w w' : World} {lo ng cg no co : Nat} {Ag Ao : Option Addr} {gs : List G3} {os : List Int} (h : OwnCr w lo w.heap.size Ag ng cg Ao no co gs os) (k : Alt S w w') (hs : ∀ i, lo ≤ i → i < w.heap.size → ¬ S i) : OwnCr w' lo w'.heap.size Ag ng cg Ao no co gs os :=
  ⟨(h.1.alt k (fun g hg => hs g (h.1.lt g hg).1 (h.1.lt g hg).2.2)).now, h.2.1.alt k (fun hn q o hq => hs q (h.2.2 hn q o hq).1 (h.2.2 hn q o hq).2), fun hn q o hq => ⟨(h.2.2 hn q o hq).1, Nat.lt_of_lt_of_le (h.2.2 hn q o hq).2 k.size⟩⟩
def Res.bitR (W0 : World) (b : Nat) (R : Nat → Prop) (T lo n : Nat) : Res :=
  ⟨fun _ v => ∃ A c, v = .slice A n c, fun _ v w => (∃ xs, Own w lo w.heap.size v n xs ∧ allB 0 1 xs = true) ∧ Cur w b R T ∧ ∀ i, R i → i < w.heap.size ∧ w.heap[i]? = W0.heap[i]?, fun _ v c => v.ownBlock = some c ∨ c = b ∨ R c, fun _ => ⟨.slice none n 0, none, 0, rfl⟩,
    fun _ v w w' S h k hb => by
      obtain ⟨⟨xs, ho, hx⟩, hc, hR⟩ := h
      exact ⟨⟨xs, (ho.alt k fun g hg => (hb g (.inl hg)).1).now, hx⟩, hc.alt k (hb b (.inr (.inl rfl))).1 (fun i hi => (hb i (.inr (.inr hi))).1), fun i hi => ⟨Nat.lt_of_lt_of_le (hR i hi).1 k.size, (k.block i (hR i hi).1 (hb i (.inr (.inr hi))).1).trans (hR i hi).2⟩⟩⟩
section
variable {P : Program} {W : World} {own : Nat → Prop} {cs : List (Addr × Value)} {sk : List (Nat × List Nat × List Nat)} {ini fi : List Nat} {rs : List (Nat × Res)} {ops : Array Oper} {L : Act → (Nat → Value) → Prop} {k : Nat} {o : Oper} {rest : List Oper} {a : Act} {ρ : Nat → Value}
theorem mem_bits (d b : Nat) (R : Nat → Prop) (T T' lo n : Nat) (W0 : World) (v0 : Value) (rd : Res) (hR : ¬ R b) (hr : resAt rs k = Res.bitR W0 b R T' lo n) (he : effB sk k = true) (hlo : lo ≤ W.heap.size) (hrd : resAt rs d = rd) (hcur : ∀ ds v w, rd.R ds v w → Cur w b R T ∧ ∀ i, R i → i < w.heap.size ∧ w.heap[i]? = W0.heap[i]?) (hblk : ∀ ds v c, c = b ∨ R c → rd.blk ds v c) (hd : consL sk k = [d]) (hdd : d ∈ depsL sk k) (hρ : ρ d = v0)
    (hx : ∀ w, Alt (okB W own) W w → CellsL w cs → Cur w b R T → (∀ i, R i → i < w.heap.size) → sepAt P o a (fun v w' => ∃ (xs : List Int) (A : Option Addr) (c : Nat), v = .slice A n c ∧ Own w' w.heap.size w'.heap.size (.slice A n c) n xs ∧ allB 0 1 xs = true ∧ Cur w' b R T' ∧ Alt (fun i => i = b) w w') w)
    (h : ∀ A c, wpSep (mkSep W own cs sk ini fi rs) P ops L (k + 1) rest (a.put o.dst (.slice A n c)) (upd ρ k (.slice A n c))) (hw : Region.wanted o (yielded ops a.tmps) = true := by first | exact wanted_none rfl | exact wanted_some rfl rfl rfl rfl) : wpSep (mkSep W own cs sk ini fi rs) P ops L k (o :: rest) a ρ :=
  mem_eff (hw := hw) _ hr he (fun w hw hc hp => by
    have h1 := hcur _ _ _ (has_dep hdd hp hρ hrd).1
    have hh : (mkSep W own cs sk ini fi rs).hit k ρ = fun c => rd.blk ((depsL sk d).map ρ) v0 c := hit_one hd hρ hrd
    rw [hh]
    refine sepAt_mono (hx w hw hc h1.1 (fun i hi => (h1.2 i hi).1)) fun v w' ⟨xs, A, c, he1, ho, hx1, hc1, ha1⟩ => ?_
    subst he1
    refine ⟨⟨A, c, rfl⟩, ⟨⟨xs, ho.lo_ (Nat.le_trans hlo hw.size), hx1⟩, hc1, fun i hi => ?_⟩, ha1.mono_ (fun i _ hi => hblk _ _ _ (.inl hi)), fun j hj => ?_⟩
    · exact ⟨Nat.lt_of_lt_of_le (h1.2 i hi).1 ha1.size, (ha1.block i (h1.2 i hi).1 (fun e => hR (e ▸ hi))).trans (h1.2 i hi).2⟩
    · rcases hj with hj | hj | hj
      · exact ⟨(ho.lt j hj).2.2, .inl (ho.lt j hj).1⟩
      · subst hj; exact ⟨hc1.lt, .inr (hblk _ _ _ (.inl rfl))⟩
      · exact ⟨Nat.lt_of_lt_of_le (h1.2 j hj).1 ha1.size, .inr (hblk _ _ _ (.inr hj))⟩) fun v hv => by
    obtain ⟨A, c, rfl⟩ := hv
    exact h A c
end
def RetRw (w : World) (e : Ending) (w' : World) : Prop :=
  ∃ (C : Ci) (A : Option Addr) (ca : Nat) (O : Option Addr) (co : Nat) (p q : Int), e = .returned (.tuple #[.agg #[.int .i64 C.i0, .int .i64 C.i1, .slice A C.gs.length ca, .slice O C.os.length co], .int .i64 p, .int .i64 q]) ∧ (RG w' A C.gs.length C.gs ∧ RI w' O C.os.length C.os) ∧ C.gs.length ≤ 310 ∧ C.os.length ≤ 50 ∧ Below w.heap.size w w'
theorem RetRw.of_ {w a1 : World} {S : Nat → Prop} {x y p q : Int} {gs : List G3} {os : List Int} {A : Option Addr} {ca : Nat} {O : Option Addr} {co lo : Nat} (k : Alt S w a1) (hS : ∀ i, i < w.heap.size → ¬ S i) (ho : OwnCr a1 lo a1.heap.size A gs.length ca O os.length co gs os) (hlo : w.heap.size < lo) (hng : gs.length ≤ 310) (hno : os.length ≤ 50) :
    RetRw w (.returned (.tuple #[.agg #[.int .i64 x, .int .i64 y, .slice A gs.length ca, .slice O os.length co], .int .i64 p, .int .i64 q])) ((((a1.setCell ⟨w.heap.size, 0, none⟩ (.int .i64 x)).setCell ⟨w.heap.size, 1, none⟩ (.int .i64 y)).setCell ⟨w.heap.size, 2, none⟩ (.slice A gs.length ca)).setCell ⟨w.heap.size, 3, none⟩ (.slice O os.length co)) :=
  ⟨⟨x, y, gs, os⟩, A, ca, O, co, p, q, rfl, (ho.set4 (.inl hlo) _ _ _ _ _ _ _ _).reads, hng, hno, below_set4 (k.below_ (Nat.le_refl _) hS) (Nat.le_refl _) _ _ _ _ _ _ _ _⟩
theorem RetRw.at_ {w a1 : World} {S : Nat → Prop} {x y p q : Int} {gs : List G3} {os : List Int} {A : Option Addr} {ca : Nat} {O : Option Addr} {co lo : Nat} (k : Alt S w a1) (hS : ∀ i, i < w.heap.size → ¬ S i) (ho : OwnCr a1 lo a1.heap.size A gs.length ca O os.length co gs os) (hng : gs.length ≤ 310) (hno : os.length ≤ 50) :
    RetRw w (.returned (.tuple #[.agg #[.int .i64 x, .int .i64 y, .slice A gs.length ca, .slice O os.length co], .int .i64 p, .int .i64 q])) a1 :=
  ⟨⟨x, y, gs, os⟩, A, ca, O, co, p, q, rfl, ho.reads, hng, hno, k.below_ (Nat.le_refl _) hS⟩
set_option maxRecDepth 100000 in
set_option maxHeartbeats 8000000 in
theorem DrawRunWith_any (Y : Option Addr) (n c : Nat) (w : World) (hY : RY w Y n) :
    Calls Try.prog 5 #[.slice Y n c] w (RetRw w) := by
  have hA1 : Below w.heap.size w (w.alloc (.cells #[.int .i64 0, .int .i64 0, .slice none 0 0, .slice none 0 0] 27)) := (Below.refl _ _).alloc (Nat.le_refl _) _
  have hr0 : BxC (w.alloc (.cells #[.int .i64 0, .int .i64 0, .slice none 0 0, .slice none 0 0] 27)) w.heap.size 0 0 none 0 0 none 0 0 := BxC.new w _
  have hs0 : (w.alloc (.cells #[.int .i64 0, .int .i64 0, .slice none 0 0, .slice none 0 0] 27)).heap.size = w.heap.size + 1 := by simp
  have hfz : Fz (w.alloc (.cells #[.int .i64 0, .int .i64 0, .slice none 0 0, .slice none 0 0] 27)) w.heap.size := Fz.new w _ _
  have hY1 := hY.alt (Alt.of_new (S := fun _ => False) hA1) (fun _ _ _ _ h => h)
  have hc0 := Cur.newW (c := c) hY1
  have hA2 : Below (w.alloc (.cells #[.int .i64 0, .int .i64 0, .slice none 0 0, .slice none 0 0] 27)).heap.size (w.alloc (.cells #[.int .i64 0, .int .i64 0, .slice none 0 0, .slice none 0 0] 27)) ((w.alloc (.cells #[.int .i64 0, .int .i64 0, .slice none 0 0, .slice none 0 0] 27)).alloc (.cells #[.slice Y n c, .int .i64 0, .int .u64 0] 41)) := (Below.refl _ _).alloc (Nat.le_refl _) _
  have hR : ∀ i, tblkW Y n i → i < w.heap.size := tblkW_lt hY
  have hs1 : ((w.alloc (.cells #[.int .i64 0, .int .i64 0, .slice none 0 0, .slice none 0 0] 27)).alloc (.cells #[.slice Y n c, .int .i64 0, .int .u64 0] 41)).heap.size = w.heap.size + 2 := by simp
  rw [hs0] at hc0
  have hRb : ¬ tblkW Y n (w.heap.size + 1) := fun h => by have := hR _ h; omega
  generalize tblkW Y n = R at hc0 hR hRb
  go_enter Try.func5, Try.ntmps5
  go_wp2_with fail
  refine (one_any 3 (w.heap.size + 1) R 0 _ hc0 (by omega) (by omega)).mono ?_
  rintro e a1 ⟨t, rfl, c1, k1, z1⟩
  have kb1 : Alt (fun i => i = w.heap.size + 1) (w.alloc (.cells #[.int .i64 0, .int .i64 0, .slice none 0 0, .slice none 0 0] 27)) a1 := (Alt.of_new (S := fun i => i = w.heap.size + 1) hA2).trans_ k1 (fun _ _ h => h)
  have hz1 : a1.heap.size = w.heap.size + 2 := by rw [z1, hs1]
  clear z1 k1 hc0 hA2 hs1 hY1
  cases t with
  | true =>
    go_wp2_with fail
    refine (anyCircuit_any (w.heap.size + 1) R _ _ c1 (by omega) (fun i hi => by have := hR i hi; omega) hRb).mono ?_
    rintro e a2 ⟨⟨x, y, gs, os⟩, A, ca, O, co, rfl, ho2, hx, hy, hng, hno, c2, k2⟩
    dsimp only at ho2 hx hy hng hno ⊢
    rw [hz1] at ho2
    have kb2 := kb1.trans_ k2 (fun _ _ h => h)
    have ho2 := ho2.toR
    clear k2 c1 kb1
    go_wp2_with fail
    refine (pick_any 8 (w.heap.size + 1) R _ _ c2 (by omega) (by omega)).mono ?_
    rintro e a3 ⟨u3, _, hu3, rfl, c3, k3, z3⟩
    have ho3 := ho2.alt k3 (fun i hi _ e => by omega)
    have kb3 := kb2.trans_ k3 (fun _ _ h => h)
    clear ho2 kb2 k3 c2
    go_wp2_with fail
    refine (pick_any 8 (w.heap.size + 1) R _ _ c3 (by omega) (by omega)).mono ?_
    rintro e a4 ⟨u4, _, hu4, rfl, c4, k4, z4⟩
    have ho4 := ho3.alt k4 (fun i hi _ e => by omega)
    have kb4 := kb3.trans_ k4 (fun _ _ h => h)
    clear ho3 kb3 k4 c3
    have kw : Alt (fun i => i = w.heap.size + 1) w a4 := (Alt.of_new (S := fun i => i = w.heap.size + 1) hA1).trans_ kb4 (fun _ _ h => h)
    have hr9 := hr0.alt kb4 (by omega)
    have hF := Fz.alt hfz kb4 (by omega) (by omega)
    have f0 := hF 0; have f1 := hF 1; have f2 := hF 2; have f3 := hF 3
    have hq := hr9; obtain ⟨r0, r1, r2, r3⟩ := hq
    go_wp2
    have hq9 := BxC.set4 (hr9) x y A gs.length ca O os.length co
    obtain ⟨q0, q1, q2, q3⟩ := hq9
    refine bodyPost_ret (v := .tuple #[.agg #[.int .i64 x, .int .i64 y, .slice A gs.length ca, .slice O os.length co], .int .i64 u3, .int .i64 u4]) (by simp [results, Try.results5, go_sem, q0, q1, q2, q3]) rfl ?_
    exact RetRw.of_ kw (fun i hi h => by omega) ho4 (by omega) hng hno
  | false =>
    go_wp2_with fail
    refine (one_any 16 (w.heap.size + 1) R _ _ c1 (by omega) (by omega)).mono ?_
    rintro e a2 ⟨t, rfl, c2, k2, z2⟩
    have kb2 := kb1.trans_ k2 (fun _ _ h => h)
    have hz2 : a2.heap.size = w.heap.size + 2 := by rw [z2, hz1]
    clear k2 c1 kb1 z2 hz1
    cases t with
    | true =>
      have hal : Below a2.heap.size a2 (a2.alloc (.cells #[.int .i64 2, .int .i64 1, .slice none 0 0, .slice none 0 0] 27)) := (Below.refl _ _).alloc (Nat.le_refl _) _
      have hp2 := PX.newV a2 (w.heap.size + 3) 2 1 27
      rw [hz2] at hp2
      have cA := c2.alt (Alt.of_new (S := fun _ => False) hal) (fun h => h) (fun _ _ h => h)
      have kA := kb2.alloc_ (.cells #[.int .i64 2, .int .i64 1, .slice none 0 0, .slice none 0 0] 27)
      have hzA : (a2.alloc (.cells #[.int .i64 2, .int .i64 1, .slice none 0 0, .slice none 0 0] 27)).heap.size = w.heap.size + 3 := by simp [hz2]
      clear c2 kb2 hal
      go_wp2_with fail
      generalize a2.alloc (.cells #[.int .i64 2, .int .i64 1, .slice none 0 0, .slice none 0 0] 27) = a3 at *
      refine (pick_any 2 (w.heap.size + 1) R _ _ cA (by omega) (by omega)).mono ?_
      rintro e a4 ⟨u4, hu4, hu4b, rfl, c4, k4, z4⟩
      have hp4 := hp2.alt k4 (by omega) (fun g hg => by omega)
      have kb4 := kA.trans_ k4 (fun _ _ h => h)
      have hz4 : a4.heap.size = w.heap.size + 3 := by rw [z4, hzA]
      clear z4 k4 cA kA hp2 hzA
      have hNb : u4 ≤ 1 := by omega
      clear hu4 hu4b
      go_wp2
      go_loopg [] (16 + u4) (fun k wr => ∃ (os : List Int) (O : Option Addr) (co U : Nat), os.length + k = 16 + u4 ∧ PX wr (w.heap.size + 3) (w.heap.size + 2) ⟨2, 1, [], os⟩ none 0 O co ∧ Cur wr (w.heap.size + 1) R U ∧ U + 20 * k ≤ 2000 ∧ Alt (fun i => i = w.heap.size + 1) (w.alloc (.cells #[.int .i64 0, .int .i64 0, .slice none 0 0, .slice none 0 0] 27)) wr)
      case atStart => exact ⟨[], none, 0, _, by simp, hp4, c4, by omega, kb4⟩
      case round =>
        obtain ⟨os, O, co, U, hok, hp, hu, hU, hk⟩ := hrel
        clear hp4 kb4 c4
        have HOK := Lib.hid hok
        have hob : os.length ≤ 17 := by omega
        clear hok
        have hz3 := hk.size
        have hz5 := hp.lt
        have hq := hp.bx; obtain ⟨m0, m1, m2, m3⟩ := hq
        dsimp only at m0 m1 m2 m3
        by_cases hlt : os.length < 16 + u4
        · have hlt' : (os.length : Int) < 16 + (u4 : Int) := by omega
          have hlo5 : w.heap.size + 3 ≤ wr.heap.size := by omega
          have hO : ∀ g, (Value.slice O os.length co).ownBlock = some g → w.heap.size + 3 ≤ g ∧ g < wr.heap.size ∧ g ≠ w.heap.size + 2 := fun g hg => ⟨(hp.ox.1.2.1.lt g hg).1, (hp.ox.1.2.1.lt g hg).2.2, fun h => hp.ox.2.2 (h ▸ hg)⟩
          go_wp2_with fail
          go_wp2_with fail
          refine wp_region_mem (6) ((fun i => (i = w.heap.size + 1 ∨ R i) ∨ (Value.slice O os.length co).ownBlock = some i)) [(⟨w.heap.size + 2, 3, none⟩, .slice O os.length co), (⟨w.heap.size + 2, 3, none⟩, .slice O os.length co)] [(3, [101], [101]), (4, [], []), (5, [100, 4], [100])] [100, 101] [3, 5] [(100, Res.rowE (w.heap.size + 3) os.length), (101, Res.cur wr (w.heap.size + 1) R U 1), (3, Res.cur wr (w.heap.size + 1) R (U + 2) 3), (4, Res.rowE (w.heap.size + 3) 1), (5, Res.rowE (w.heap.size + 3) (os.length + 1))] ((upd (upd (fun _ => undef) 100 (.slice O os.length co)) 101 (.int .i64 (0 : Nat)))) (by kernel_rfl) (by kernel_rfl) (by kernel_rfl) (by simp only [CellsL, List.mem_cons, forall_eq_or_imp, List.not_mem_nil, false_implies, implies_true, and_true]; repeat (any_goals (apply And.intro)); all_goals (first | assumption | go_simp)) (fun q9 hq9 => by simp only [List.mem_cons, List.not_mem_nil, or_false, or_self] at hq9; subst hq9; rintro ((h | h) | h) <;> first | (have h' : w.heap.size + 2 = w.heap.size + 1 := h; omega) | (have h' : w.heap.size + 2 < w.heap.size := hR _ h; omega) | exact (hO _ h).2.2 rfl) (⟨⟨⟨os, hp.ox.1.2.1⟩, fun i hi => ⟨.inr (.inr hi), (hO i hi).2.1⟩⟩, ⟨⟨hu.alt ((Alt.refl_ (fun _ => False) wr).drewN_ 1) (fun h => h) (fun _ _ h => h), fun i hi => ⟨by have := hR i hi; show i < wr.heap.size; omega, rfl⟩⟩, fun i hi => ⟨.inr (.inl hi), hi.elim (fun h => h ▸ hu.lt) (fun h => by have := hR i h; show i < wr.heap.size; omega)⟩⟩, trivial⟩) ((fun d hd d' hd' hn c hc hc' => by simp only [List.mem_cons, List.not_mem_nil, or_false] at hd hd'; rcases hd with rfl | rfl <;> rcases hd' with rfl | rfl <;> first | exact hn rfl | (have h1 := hO c hc; rcases hc' with h2 | h2; (have h3 : c = w.heap.size + 1 := h2; omega); (have h3 := hR c h2; omega)) | (have h1 := hO c hc'; rcases hc with h2 | h2; (have h3 : c = w.heap.size + 1 := h2; omega); (have h3 := hR c h2; omega)))) ?_
          simp only [List.take_succ_cons, List.take_zero, List.drop_succ_cons, List.drop_zero, List.take_nil, List.drop_nil, List.take, List.drop]
          repeat (first
            | ((with_reducible refine mem_pure0 ?_ ?_ ?_)
               · exact rfl
               · exact rfl
               intro K hK
               apply Exists.intro
               refine ⟨fun w3 hw3 => ?_, ?_⟩
               · have hcs := hw3
                 simp only [CellsL, List.mem_cons, forall_eq_or_imp, List.not_mem_nil, false_implies, implies_true, and_true] at hcs
                 clear hw3
                 go_simp
                 first | done | exact ⟨rfl, rfl⟩ | rfl
               refine hK _ ?_
               clear hK K
               try simp only [Act.put, List.setIfInBounds_toArray, List.set_cons_zero, List.set_cons_succ])
            | ((with_reducible refine mem_skip ?_ ?_ ?_)
               · exact rfl
               · exact wanted_not rfl rfl rfl rfl
               simp only [Act.put, List.setIfInBounds_toArray, List.set_cons_zero, List.set_cons_succ])
            | ((with_reducible refine mem_pure ?_ ?_ ?_)
               · exact rfl
               · exact wanted_some rfl rfl rfl rfl
               intro K hK
               apply Exists.intro
               refine ⟨fun w3 hw3 => ?_, ?_⟩
               · have hcs := hw3
                 simp only [CellsL, List.mem_cons, forall_eq_or_imp, List.not_mem_nil, false_implies, implies_true, and_true] at hcs
                 clear hw3
                 go_simp
                 first | done | exact ⟨rfl, rfl⟩ | rfl
               refine hK _ ?_
               clear hK K
               try simp only [Act.put, List.setIfInBounds_toArray, List.set_cons_zero, List.set_cons_succ]))
          refine mem_pick 101 (w.heap.size + 1) R U (U + 2) 1 3 wr (.int .i64 (0 : Nat)) hRb (by rfl) (by rfl) (by rfl) (by rfl) (by decide) (by rfl) (fun w3 hw3 hc3 hu3 => ?_) (fun x9 hx9 => ?_)
          · go_simp
            refine (pick_any _ _ R U _ hu3 (by omega) (by omega)).mono ?_
            rintro e w4 ⟨v, hv, hw, rfl, c4, k4, z4⟩
            exact retPost.mk_ ⟨v, hv, rfl, c4, k4⟩
          try simp only [Act.put, List.setIfInBounds_toArray, List.set_cons_zero, List.set_cons_succ]
          repeat (first
            | ((with_reducible refine mem_pure0 ?_ ?_ ?_)
               · exact rfl
               · exact rfl
               intro K hK
               apply Exists.intro
               refine ⟨fun w3 hw3 => ?_, ?_⟩
               · have hcs := hw3
                 simp only [CellsL, List.mem_cons, forall_eq_or_imp, List.not_mem_nil, false_implies, implies_true, and_true] at hcs
                 clear hw3
                 go_simp
                 first | done | exact ⟨rfl, rfl⟩ | rfl
               refine hK _ ?_
               clear hK K
               try simp only [Act.put, List.setIfInBounds_toArray, List.set_cons_zero, List.set_cons_succ])
            | ((with_reducible refine mem_skip ?_ ?_ ?_)
               · exact rfl
               · exact wanted_not rfl rfl rfl rfl
               simp only [Act.put, List.setIfInBounds_toArray, List.set_cons_zero, List.set_cons_succ])
            | ((with_reducible refine mem_pure ?_ ?_ ?_)
               · exact rfl
               · exact wanted_some rfl rfl rfl rfl
               intro K hK
               apply Exists.intro
               refine ⟨fun w3 hw3 => ?_, ?_⟩
               · have hcs := hw3
                 simp only [CellsL, List.mem_cons, forall_eq_or_imp, List.not_mem_nil, false_implies, implies_true, and_true] at hcs
                 clear hw3
                 go_simp
                 first | done | exact ⟨rfl, rfl⟩ | rfl
               refine hK _ ?_
               clear hK K
               try simp only [Act.put, List.setIfInBounds_toArray, List.set_cons_zero, List.set_cons_succ]))
          refine mem_rowE (w.heap.size + 3) 1 (by rfl) (by rfl) hlo5 (fun w3 hw3 hc3 hp3 => ?_) (fun A3 c3' => ?_)
          · go_simp
            exact ⟨_, postRow.new1 _ _⟩
          try simp only [Act.put, List.setIfInBounds_toArray, List.set_cons_zero, List.set_cons_succ]
          refine mem_appE 100 4 (w.heap.size + 3) os.length 1 O co A3 c3' (.tmp 35) (.tmp 38) (by rfl) (by rfl) hlo5 (by rfl) (by rfl) (by decide) (by rfl) (by rfl) (by decide) (by rfl) (by rfl) (by rfl) (by rfl) (by omega) (fun G' cG' => ?_)
          try simp only [Act.put, List.setIfInBounds_toArray, List.set_cons_zero, List.set_cons_succ]
          repeat (first
            | ((with_reducible refine mem_pure0 ?_ ?_ ?_)
               · exact rfl
               · exact rfl
               intro K hK
               apply Exists.intro
               refine ⟨fun w3 hw3 => ?_, ?_⟩
               · have hcs := hw3
                 simp only [CellsL, List.mem_cons, forall_eq_or_imp, List.not_mem_nil, false_implies, implies_true, and_true] at hcs
                 clear hw3
                 go_simp
                 first | done | exact ⟨rfl, rfl⟩ | rfl
               refine hK _ ?_
               clear hK K
               try simp only [Act.put, List.setIfInBounds_toArray, List.set_cons_zero, List.set_cons_succ])
            | ((with_reducible refine mem_skip ?_ ?_ ?_)
               · exact rfl
               · exact wanted_not rfl rfl rfl rfl
               simp only [Act.put, List.setIfInBounds_toArray, List.set_cons_zero, List.set_cons_succ])
            | ((with_reducible refine mem_pure ?_ ?_ ?_)
               · exact rfl
               · exact wanted_some rfl rfl rfl rfl
               intro K hK
               apply Exists.intro
               refine ⟨fun w3 hw3 => ?_, ?_⟩
               · have hcs := hw3
                 simp only [CellsL, List.mem_cons, forall_eq_or_imp, List.not_mem_nil, false_implies, implies_true, and_true] at hcs
                 clear hw3
                 go_simp
                 first | done | exact ⟨rfl, rfl⟩ | rfl
               refine hK _ ?_
               clear hK K
               try simp only [Act.put, List.setIfInBounds_toArray, List.set_cons_zero, List.set_cons_succ]))
          refine wpSep_end ?_
          intro wy hwy hcy hfin hap
          obtain ⟨xs, hO4⟩ : ∃ xs, Own wy (w.heap.size + 3) wy.heap.size (.slice G' (os.length + 1) cG') (os.length + 1) xs := hfin.2.1.1
          have hC4 : Cur wy (w.heap.size + 1) R (U + 2) ∧ ∀ i, R i → i < wy.heap.size ∧ wy.heap[i]? = wr.heap[i]? := hfin.1.1
          have hokk : ∀ g, (Value.slice G' (os.length + 1) cG').ownBlock = some g → okB wr (fun i => (i = w.heap.size + 1 ∨ R i) ∨ (Value.slice O os.length co).ownBlock = some i) g := fun g hg => (hfin.2.1.2 g hg).1
          have k4 := alt_back hk hwy (fun i hi => by have := hO i hi; omega) (fun i hi => (hC4.2 i hi).2)
          have hxl : xs.length = os.length + 1 := hO4.len
          have hSbm : ¬ okB wr (fun i => (i = w.heap.size + 1 ∨ R i) ∨ (Value.slice O os.length co).ownBlock = some i) (w.heap.size + 2) := fun hc => by
            rcases hc with h1 | (h1 | h1) | h1
            · omega
            · omega
            · have := hR _ h1; omega
            · exact (hO _ h1).2.2 rfl
          have p4 := hp.outE hwy hSbm (fun g hg hc => by simp [Value.ownBlock] at hg) hO4 hokk
          have k5 := k4.set_ ⟨w.heap.size + 2, 3, none⟩ (.slice G' (os.length + 1) cG') (fun h => absurd h (by show ¬ w.heap.size + 2 < _; omega))
          have c5 := hC4.1.alt ((Alt.refl_ (fun i => i = w.heap.size + 2) wy).set_ ⟨w.heap.size + 2, 3, none⟩ (.slice G' (os.length + 1) cG') (fun _ => rfl)) (by omega) (fun i hi h => by have := hR i hi; omega)
          have hq := hp.bx.alt hwy hSbm; obtain ⟨m0, m1, m2, m3⟩ := hq
          have f3 := (hp.fz.alt hwy hp.lt hSbm) 3
          dsimp only at m0 m1 m2 m3
          have hok' := HOK.out
          clear hfin hap hcy hwy hokk
          go_wp2
          go_roundg (gk - 1)
          case rel => exact ⟨xs, G', cG', U + 2, by omega, by rw [← hxl] at p4 ⊢; exact p4, c5, by omega, k5⟩
          case measure => omega
        · have hlt' : ¬ (os.length : Int) < 16 + (u4 : Int) := by omega
          clear HOK
          have hO1 : ∀ g, (Value.slice O os.length co).ownBlock = some g → w.heap.size + 3 ≤ g ∧ g < wr.heap.size := fun g hg => ⟨(hp.ox.1.2.1.lt g hg).1, (hp.ox.1.2.1.lt g hg).2.2⟩
          have hr9 := hr0.alt hk (by omega)
          have hF := Fz.alt hfz hk (by omega) (by omega)
          have kw : Alt (fun i => i = w.heap.size + 1) w wr := (Alt.of_new (S := fun i => i = w.heap.size + 1) hA1).trans_ hk (fun _ _ h => h)
          go_wp2_with fail
          go_wp2_with fail
          refine wp_region_mem (8) ((fun i => (i = w.heap.size + 1 ∨ R i) ∨ i = w.heap.size)) [(⟨w.heap.size + 2, 0, none⟩, .int .i64 2), (⟨w.heap.size + 2, 1, none⟩, .int .i64 1), (⟨w.heap.size + 2, 2, none⟩, .slice none 0 0), (⟨w.heap.size + 2, 3, none⟩, .slice O os.length co)] [(2, [101], [101]), (4, [2], [2]), (5, [102], [102])] [101, 102] [4, 5] [(101, Res.curI wr (w.heap.size + 1) R U), (102, Res.bx w.heap.size [.int .i64 0, .int .i64 0, .slice none 0 0, .slice none 0 0]), (2, Res.curN wr (w.heap.size + 1) R (U + 2) 4), (4, Res.curN wr (w.heap.size + 1) R (U + 2 + 2) 2), (5, Res.bx w.heap.size [.int .i64 2, .int .i64 1, .slice none 0 0, .slice O os.length co])] ((upd (upd (fun _ => undef) 101 (.int .i64 0)) 102 undef)) (by kernel_rfl) (by kernel_rfl) (by kernel_rfl) (by simp only [CellsL, List.mem_cons, forall_eq_or_imp, List.not_mem_nil, false_implies, implies_true, and_true]; repeat (any_goals (apply And.intro)); all_goals (first | assumption | go_simp)) (fun q9 hq9 => by simp only [List.mem_cons, List.not_mem_nil, or_false] at hq9; rcases hq9 with rfl | rfl | rfl | rfl <;> rintro ((h | h) | h) <;> first | (have h' : w.heap.size + 2 = w.heap.size + 1 := h; omega) | (have h' : w.heap.size + 2 = w.heap.size := h; omega) | (have h' : w.heap.size + 2 < w.heap.size := hR _ h; omega)) (⟨⟨⟨hu.alt ((Alt.refl_ (fun _ => False) wr).drewN_ 1) (fun h => h) (fun _ _ h => h), fun i hi => ⟨by have := hR i hi; show i < wr.heap.size; omega, rfl⟩⟩, fun i hi => ⟨.inr (.inl hi), hi.elim (fun h => h ▸ hu.lt) (fun h => by have := hR i h; show i < wr.heap.size; omega)⟩⟩, ⟨⟨by show w.heap.size < wr.heap.size; omega, ⟨hr9.1, hr9.2.1, hr9.2.2.1, hr9.2.2.2, trivial⟩, hF⟩, fun i hi => ⟨.inr (.inr hi), by have hi' : i = w.heap.size := hi; show i < wr.heap.size; omega⟩⟩, trivial⟩) ((fun d hd d' hd' hn c hc hc' => by simp only [List.mem_cons, List.not_mem_nil, or_false] at hd hd'; rcases hd with rfl | rfl <;> rcases hd' with rfl | rfl <;> first | exact hn rfl | (have h1 : c = w.heap.size := hc; rcases hc' with h2 | h2; (have h3 : c = w.heap.size + 1 := h2; omega); (have h3 := hR c h2; omega)) | (have h1 : c = w.heap.size := hc'; rcases hc with h2 | h2; (have h3 : c = w.heap.size + 1 := h2; omega); (have h3 := hR c h2; omega)))) ?_
          simp only [List.take_succ_cons, List.take_zero, List.drop_succ_cons, List.drop_zero, List.take_nil, List.drop_nil, List.take, List.drop]
          repeat (first
            | ((with_reducible refine mem_pure0 ?_ ?_ ?_)
               · exact rfl
               · exact rfl
               intro K hK
               apply Exists.intro
               refine ⟨fun w3 hw3 => ?_, ?_⟩
               · have hcs := hw3
                 simp only [CellsL, List.mem_cons, forall_eq_or_imp, List.not_mem_nil, false_implies, implies_true, and_true] at hcs
                 clear hw3
                 go_simp
                 first | done | exact ⟨rfl, rfl⟩ | rfl
               refine hK _ ?_
               clear hK K
               try simp only [Act.put, List.setIfInBounds_toArray, List.set_cons_zero, List.set_cons_succ])
            | ((with_reducible refine mem_skip ?_ ?_ ?_)
               · exact rfl
               · exact wanted_not rfl rfl rfl rfl
               simp only [Act.put, List.setIfInBounds_toArray, List.set_cons_zero, List.set_cons_succ])
            | ((with_reducible refine mem_pure ?_ ?_ ?_)
               · exact rfl
               · exact wanted_some rfl rfl rfl rfl
               intro K hK
               apply Exists.intro
               refine ⟨fun w3 hw3 => ?_, ?_⟩
               · have hcs := hw3
                 simp only [CellsL, List.mem_cons, forall_eq_or_imp, List.not_mem_nil, false_implies, implies_true, and_true] at hcs
                 clear hw3
                 go_simp
                 first | done | exact ⟨rfl, rfl⟩ | rfl
               refine hK _ ?_
               clear hK K
               try simp only [Act.put, List.setIfInBounds_toArray, List.set_cons_zero, List.set_cons_succ]))
          refine mem_cur 101 (w.heap.size + 1) R U (U + 2) Qi (Qn 4) Qi.one (Qn.one _) wr (.int .i64 0) hRb (by rfl) (by rfl) (by rfl) (by rfl) (by decide) (by rfl) (fun w3 hw3 hc3 hp3 hu3 => ?_) (fun v9 hv9 => ?_)
          · go_simp
            refine (pick_any _ _ R _ _ hu3 (by omega) (by omega)).mono ?_
            rintro e w4 ⟨v, hv, hv2, rfl, c4, k4, z4⟩
            exact retPost.mk_ ⟨⟨v, hv, rfl⟩, c4, k4⟩
          obtain ⟨x8, hx8, rfl⟩ := hv9
          try simp only [Act.put, List.setIfInBounds_toArray, List.set_cons_zero, List.set_cons_succ]
          repeat (first
            | ((with_reducible refine mem_pure0 ?_ ?_ ?_)
               · exact rfl
               · exact rfl
               intro K hK
               apply Exists.intro
               refine ⟨fun w3 hw3 => ?_, ?_⟩
               · have hcs := hw3
                 simp only [CellsL, List.mem_cons, forall_eq_or_imp, List.not_mem_nil, false_implies, implies_true, and_true] at hcs
                 clear hw3
                 go_simp
                 first | done | exact ⟨rfl, rfl⟩ | rfl
               refine hK _ ?_
               clear hK K
               try simp only [Act.put, List.setIfInBounds_toArray, List.set_cons_zero, List.set_cons_succ])
            | ((with_reducible refine mem_skip ?_ ?_ ?_)
               · exact rfl
               · exact wanted_not rfl rfl rfl rfl
               simp only [Act.put, List.setIfInBounds_toArray, List.set_cons_zero, List.set_cons_succ])
            | ((with_reducible refine mem_pure ?_ ?_ ?_)
               · exact rfl
               · exact wanted_some rfl rfl rfl rfl
               intro K hK
               apply Exists.intro
               refine ⟨fun w3 hw3 => ?_, ?_⟩
               · have hcs := hw3
                 simp only [CellsL, List.mem_cons, forall_eq_or_imp, List.not_mem_nil, false_implies, implies_true, and_true] at hcs
                 clear hw3
                 go_simp
                 first | done | exact ⟨rfl, rfl⟩ | rfl
               refine hK _ ?_
               clear hK K
               try simp only [Act.put, List.setIfInBounds_toArray, List.set_cons_zero, List.set_cons_succ]))
          refine mem_cur 2 (w.heap.size + 1) R (U + 2) (U + 2 + 2) (Qn 4) (Qn 2) (Qn.one _) (Qn.one _) wr (.int .i64 x8) hRb (by rfl) (by rfl) (by rfl) (by rfl) (by decide) (by rfl) (fun w3 hw3 hc3 hp3 hu3 => ?_) (fun v9 hv9 => ?_)
          · go_simp
            refine (pick_any _ _ R _ _ hu3 (by omega) (by omega)).mono ?_
            rintro e w4 ⟨v, hv, hv2, rfl, c4, k4, z4⟩
            exact retPost.mk_ ⟨⟨v, hv, rfl⟩, c4, k4⟩
          obtain ⟨x9, hx9, rfl⟩ := hv9
          try simp only [Act.put, List.setIfInBounds_toArray, List.set_cons_zero, List.set_cons_succ]
          repeat (first
            | ((with_reducible refine mem_pure0 ?_ ?_ ?_)
               · exact rfl
               · exact rfl
               intro K hK
               apply Exists.intro
               refine ⟨fun w3 hw3 => ?_, ?_⟩
               · have hcs := hw3
                 simp only [CellsL, List.mem_cons, forall_eq_or_imp, List.not_mem_nil, false_implies, implies_true, and_true] at hcs
                 clear hw3
                 go_simp
                 first | done | exact ⟨rfl, rfl⟩ | rfl
               refine hK _ ?_
               clear hK K
               try simp only [Act.put, List.setIfInBounds_toArray, List.set_cons_zero, List.set_cons_succ])
            | ((with_reducible refine mem_skip ?_ ?_ ?_)
               · exact rfl
               · exact wanted_not rfl rfl rfl rfl
               simp only [Act.put, List.setIfInBounds_toArray, List.set_cons_zero, List.set_cons_succ])
            | ((with_reducible refine mem_pure ?_ ?_ ?_)
               · exact rfl
               · exact wanted_some rfl rfl rfl rfl
               intro K hK
               apply Exists.intro
               refine ⟨fun w3 hw3 => ?_, ?_⟩
               · have hcs := hw3
                 simp only [CellsL, List.mem_cons, forall_eq_or_imp, List.not_mem_nil, false_implies, implies_true, and_true] at hcs
                 clear hw3
                 go_simp
                 first | done | exact ⟨rfl, rfl⟩ | rfl
               refine hK _ ?_
               clear hK K
               try simp only [Act.put, List.setIfInBounds_toArray, List.set_cons_zero, List.set_cons_succ]))
          refine mem_bx 102 w.heap.size _ _ undef (by rfl) (by rfl) (by rfl) (by rfl) (by decide) (by rfl) (fun w3 hw3 hc3 hz3 hd3 hf3 => ?_) ?_
          · obtain ⟨d0, d1, d2, d3, _⟩ := hd3
            have f0 := hf3 0; have f1 := hf3 1; have f2 := hf3 2; have f3 := hf3 3
            go_simp
            exact bx_set4 ⟨d0, d1, d2, d3⟩ hf3 _ _ _ _ _ _ _ _
          try simp only [Act.put, List.setIfInBounds_toArray, List.set_cons_zero, List.set_cons_succ]
          repeat (first
            | ((with_reducible refine mem_pure0 ?_ ?_ ?_)
               · exact rfl
               · exact rfl
               intro K hK
               apply Exists.intro
               refine ⟨fun w3 hw3 => ?_, ?_⟩
               · have hcs := hw3
                 simp only [CellsL, List.mem_cons, forall_eq_or_imp, List.not_mem_nil, false_implies, implies_true, and_true] at hcs
                 clear hw3
                 go_simp
                 first | done | exact ⟨rfl, rfl⟩ | rfl
               refine hK _ ?_
               clear hK K
               try simp only [Act.put, List.setIfInBounds_toArray, List.set_cons_zero, List.set_cons_succ])
            | ((with_reducible refine mem_skip ?_ ?_ ?_)
               · exact rfl
               · exact wanted_not rfl rfl rfl rfl
               simp only [Act.put, List.setIfInBounds_toArray, List.set_cons_zero, List.set_cons_succ])
            | ((with_reducible refine mem_pure ?_ ?_ ?_)
               · exact rfl
               · exact wanted_some rfl rfl rfl rfl
               intro K hK
               apply Exists.intro
               refine ⟨fun w3 hw3 => ?_, ?_⟩
               · have hcs := hw3
                 simp only [CellsL, List.mem_cons, forall_eq_or_imp, List.not_mem_nil, false_implies, implies_true, and_true] at hcs
                 clear hw3
                 go_simp
                 first | done | exact ⟨rfl, rfl⟩ | rfl
               refine hK _ ?_
               clear hK K
               try simp only [Act.put, List.setIfInBounds_toArray, List.set_cons_zero, List.set_cons_succ]))
          refine wpSep_end ?_
          intro wy hwy hcy hfin hap
          have hC4 : Cur wy (w.heap.size + 1) R (U + 2 + 2) ∧ ∀ i, R i → i < wy.heap.size ∧ wy.heap[i]? = wr.heap[i]? := hfin.1.1
          obtain ⟨_, ⟨q0, q1, q2, q3, _⟩, _⟩ := hfin.2.1.1
          have k4 := alt_back (own := fun i => i = w.heap.size) kw hwy (fun i hi => by omega) (fun i hi => (hC4.2 i hi).2)
          have hSn : ∀ i, w.heap.size + 3 ≤ i → i < wr.heap.size → ¬ okB wr (fun i => (i = w.heap.size + 1 ∨ R i) ∨ i = w.heap.size) i := fun i h1 h2 hc => by
            rcases hc with h | (h | h) | h
            · omega
            · have h' : i = w.heap.size + 1 := h; omega
            · have := hR _ h; omega
            · have h' : i = w.heap.size := h; omega
          have ho4 : OwnCr wy (w.heap.size + 3) wy.heap.size none ([] : List G3).length 0 O os.length co [] os := OwnC.toR ⟨OwnG.none_ _ _ _, (hp.ox.1.2.1.alt hwy (fun q hq => hSn q (hO1 q hq).1 (hO1 q hq).2)).now, fun g hg => by simp [Value.ownBlock] at hg⟩
          clear hfin hap hcy hwy m0 m1 m2 m3 hr9 hF
          go_wp2
          refine bodyPost_ret (v := .tuple #[.agg #[.int .i64 2, .int .i64 1, .slice none 0 0, .slice O os.length co], .int .i64 x8, .int .i64 x9]) (by simp [results, Try.results5, go_sem, q0, q1, q2, q3]) rfl ?_
          exact RetRw.at_ k4 (fun i hi e => by omega) ho4 (by simp) (by omega)
    | false =>
      go_wp2_with fail
      refine (pick_any 7 (w.heap.size + 1) R _ _ c2 (by omega) (by omega)).mono ?_
      rintro e a3 ⟨u3, hu3, hu3b, rfl, c3, k3, z3⟩
      have kb3 := kb2.trans_ k3 (fun _ _ h => h)
      have hz3 : a3.heap.size = w.heap.size + 2 := by rw [z3, hz2]
      clear k3 z3 kb2 c2
      go_wp2_with fail
      refine (pick_any 5 (w.heap.size + 1) R _ _ c3 (by omega) (by omega)).mono ?_
      rintro e a4 ⟨u4, hu4, hu4b, rfl, c4, k4, z4⟩
      have kb4 := kb3.trans_ k4 (fun _ _ h => h)
      have hz4 : a4.heap.size = w.heap.size + 2 := by rw [z4, hz3]
      clear k4 z4 kb3 c3
      obtain ⟨v4, hv4⟩ : ∃ v4 : Nat, 1 + u4 = v4 := ⟨_, rfl⟩
      have hu7 : u3 < 7 := by omega
      have hw4 : IntKind.i64.wrap (1 + (u4 : Int)) = (v4 : Int) := by rw [IntKind.wrap_i64] <;> omega
      have hv5 : 1 ≤ v4 ∧ v4 ≤ 5 := by omega
      clear hv4 hu3 hu4
      go_wp2_with fail
      refine (gdKind_any u3 v4 _ hu7 hv5.1 hv5.2).mono ?_
      rintro e a5 ⟨⟨x, y, gs, os⟩, A, ca, O, co, rfl, ho5, hx, hy, hng, hno, b5⟩
      dsimp only at ho5 hx hy hng hno ⊢
      have hz5 := b5.size
      rw [hz4] at ho5 hz5
      obtain ⟨X, rfl⟩ : ∃ X : Nat, x = X := ⟨x.toNat, by omega⟩
      obtain ⟨Z, rfl⟩ : ∃ Z : Nat, y = Z := ⟨y.toNat, by omega⟩
      have kb5 := kb4.new_ b5
      have c5 := c4.alt (Alt.of_new (S := fun _ => False) b5) (fun h => h) (fun _ _ h => h)
      have hal := (Below.refl a5.heap.size a5).alloc (Nat.le_refl _) (.cells #[.int .i64 X, .int .i64 Z, .slice A gs.length ca, .slice O os.length co] 27)
      have kb6 := kb5.alloc_ (.cells #[.int .i64 X, .int .i64 Z, .slice A gs.length ca, .slice O os.length co] 27)
      have hbx := BxC.new (x := X) (y := Z) (Ag := A) (ng := gs.length) (cg := ca) (Ao := O) (no := os.length) (co := co) a5 27
      have c6 := c5.alt (Alt.of_new (S := fun _ => False) hal) (fun h => h) (fun _ _ h => h)
      have ho6 := ho5.below hal (.inl (Nat.le_refl _))
      obtain ⟨K, hK⟩ : ∃ K, a5.heap.size = K := ⟨_, rfl⟩
      have hKs : (a5.alloc (.cells #[.int .i64 X, .int .i64 Z, .slice A gs.length ca, .slice O os.length co] 27)).heap.size = K + 1 := by simp [hK]
      rw [hK] at hbx ho6 hz5
      clear c4 kb4 hal kb5 c5 ho5 b5 hz3 hz2
      go_wp2_with fail
      generalize a5.alloc (.cells #[.int .i64 X, .int .i64 Z, .slice A gs.length ca, .slice O os.length co] 27) = a6 at *
      clear hK
      have hKb : ¬ K = w.heap.size + 1 := by omega
      have hKD : ¬ K = w.heap.size := by omega
      have hq := hbx; obtain ⟨m0, m1, m2, m3⟩ := hq
      go_wp2_with fail
      refine wp_region_mem (12) ((fun i => i = w.heap.size + 1 ∨ R i)) [(⟨K, 0, none⟩, .int .i64 X), (⟨K, 1, none⟩, .int .i64 Z)] [(3, [101], [101]), (4, [3], []), (8, [3], [3]), (9, [8], [])] [101] [4, 8, 9] [(101, Res.curI a6 (w.heap.size + 1) R 8), (3, Res.bitR a6 (w.heap.size + 1) R 208 (K + 1) X), (4, Res.anyQ Qi Qi.one), (8, Res.bitR a6 (w.heap.size + 1) R 408 (K + 1) Z), (9, Res.anyQ Qi Qi.one)] ((upd (fun _ => undef) 101 (.int .i64 0))) (by kernel_rfl) (by kernel_rfl) (by kernel_rfl) (by simp only [CellsL, List.mem_cons, forall_eq_or_imp, List.not_mem_nil, false_implies, implies_true, and_true]; repeat (any_goals (apply And.intro)); all_goals (first | assumption | go_simp)) (fun q9 hq9 => by simp only [List.mem_cons, List.not_mem_nil, or_false] at hq9; rcases hq9 with rfl | rfl <;> rintro (h | h) <;> first | exact hKb h | (have h' : K < w.heap.size := hR _ h; omega)) (⟨⟨⟨(c6.mono (by omega)).alt ((Alt.refl_ (fun _ => False) a6).drewN_ 1) (fun h => h) (fun _ _ h => h), fun i hi => ⟨by have := hR i hi; show i < a6.heap.size; omega, rfl⟩⟩, fun i hi => ⟨.inr hi, hi.elim (fun h => h ▸ c6.lt) (fun h => by have := hR i h; show i < a6.heap.size; omega)⟩⟩, trivial⟩) ((fun d hd d' hd' hn c hc hc' => by simp only [List.mem_cons, List.not_mem_nil, or_false] at hd hd'; rcases hd with rfl; rcases hd' with rfl; exact hn rfl)) ?_
      simp only [List.take_succ_cons, List.take_zero, List.drop_succ_cons, List.drop_zero, List.take_nil, List.drop_nil, List.take, List.drop]
      repeat (first
        | ((with_reducible refine mem_pure0 ?_ ?_ ?_)
           · exact rfl
           · exact rfl
           intro K hK
           apply Exists.intro
           refine ⟨fun w3 hw3 => ?_, ?_⟩
           · have hcs := hw3
             simp only [CellsL, List.mem_cons, forall_eq_or_imp, List.not_mem_nil, false_implies, implies_true, and_true] at hcs
             clear hw3
             go_simp
             first | done | exact ⟨rfl, rfl⟩ | rfl
           refine hK _ ?_
           clear hK K
           try simp only [Act.put, List.setIfInBounds_toArray, List.set_cons_zero, List.set_cons_succ])
        | ((with_reducible refine mem_skip ?_ ?_ ?_)
           · exact rfl
           · exact wanted_not rfl rfl rfl rfl
           simp only [Act.put, List.setIfInBounds_toArray, List.set_cons_zero, List.set_cons_succ])
        | ((with_reducible refine mem_pure ?_ ?_ ?_)
           · exact rfl
           · exact wanted_some rfl rfl rfl rfl
           intro K hK
           apply Exists.intro
           refine ⟨fun w3 hw3 => ?_, ?_⟩
           · have hcs := hw3
             simp only [CellsL, List.mem_cons, forall_eq_or_imp, List.not_mem_nil, false_implies, implies_true, and_true] at hcs
             clear hw3
             go_simp
             first | done | exact ⟨rfl, rfl⟩ | rfl
           refine hK _ ?_
           clear hK K
           try simp only [Act.put, List.setIfInBounds_toArray, List.set_cons_zero, List.set_cons_succ]))
      refine mem_bits 101 (w.heap.size + 1) R 8 208 (K + 1) X a6 (.int .i64 0) (Res.curI a6 (w.heap.size + 1) R 8) hRb (by rfl) (by rfl) (by omega) (by rfl) (fun ds v w h => h) (fun ds v c h => h) (by rfl) (by decide) (by rfl) (fun w3 hw3 hc3 hu3 hR3 => ?_) (fun A3 c3 => ?_)
      · have hcs := hc3
        simp only [CellsL, List.mem_cons, forall_eq_or_imp, List.not_mem_nil, false_implies, implies_true, and_true] at hcs
        go_simp
        refine (bits_any X (w.heap.size + 1) R 8 _ hu3 (by omega) (by omega) hR3 hRb).mono ?_
        rintro e w4 ⟨xs, A9, c9, rfl, h1, h2, h3, h4⟩
        exact retPost.mk_ ⟨xs, A9, c9, rfl, h1, h2, h3, h4⟩
      try simp only [Act.put, List.setIfInBounds_toArray, List.set_cons_zero, List.set_cons_succ]
      repeat (first
        | ((with_reducible refine mem_pure0 ?_ ?_ ?_)
           · exact rfl
           · exact rfl
           intro K hK
           apply Exists.intro
           refine ⟨fun w3 hw3 => ?_, ?_⟩
           · have hcs := hw3
             simp only [CellsL, List.mem_cons, forall_eq_or_imp, List.not_mem_nil, false_implies, implies_true, and_true] at hcs
             clear hw3
             go_simp
             first | done | exact ⟨rfl, rfl⟩ | rfl
           refine hK _ ?_
           clear hK K
           try simp only [Act.put, List.setIfInBounds_toArray, List.set_cons_zero, List.set_cons_succ])
        | ((with_reducible refine mem_skip ?_ ?_ ?_)
           · exact rfl
           · exact wanted_not rfl rfl rfl rfl
           simp only [Act.put, List.setIfInBounds_toArray, List.set_cons_zero, List.set_cons_succ])
        | ((with_reducible refine mem_pure ?_ ?_ ?_)
           · exact rfl
           · exact wanted_some rfl rfl rfl rfl
           intro K hK
           apply Exists.intro
           refine ⟨fun w3 hw3 => ?_, ?_⟩
           · have hcs := hw3
             simp only [CellsL, List.mem_cons, forall_eq_or_imp, List.not_mem_nil, false_implies, implies_true, and_true] at hcs
             clear hw3
             go_simp
             first | done | exact ⟨rfl, rfl⟩ | rfl
           refine hK _ ?_
           clear hK K
           try simp only [Act.put, List.setIfInBounds_toArray, List.set_cons_zero, List.set_cons_succ]))
      refine mem_any Qi Qi.one (by rfl) (by rfl) (fun w3 hw3 hc3 hp3 => ?_) (fun v9 hv9 => ?_)
      · obtain ⟨⟨xs, h4, h5⟩, _⟩ : (∃ xs, Own w3 (K + 1) w3.heap.size (.slice A3 X c3) X xs ∧ allB 0 1 xs = true) ∧ (Cur w3 (w.heap.size + 1) R 208 ∧ ∀ i, R i → i < w3.heap.size ∧ w3.heap[i]? = a6.heap[i]?) := hp3.1.1.1
        go_simp
        refine (btNum_any A3 X c3 xs w3 h4.reads (by omega) h5).mono ?_
        rintro e w4 ⟨rfl, rfl⟩
        exact retPost.mk_ ⟨⟨_, rfl⟩, Below.refl _ _⟩
      obtain ⟨p1, rfl⟩ := hv9
      try simp only [Act.put, List.setIfInBounds_toArray, List.set_cons_zero, List.set_cons_succ]
      repeat (first
        | ((with_reducible refine mem_pure0 ?_ ?_ ?_)
           · exact rfl
           · exact rfl
           intro K hK
           apply Exists.intro
           refine ⟨fun w3 hw3 => ?_, ?_⟩
           · have hcs := hw3
             simp only [CellsL, List.mem_cons, forall_eq_or_imp, List.not_mem_nil, false_implies, implies_true, and_true] at hcs
             clear hw3
             go_simp
             first | done | exact ⟨rfl, rfl⟩ | rfl
           refine hK _ ?_
           clear hK K
           try simp only [Act.put, List.setIfInBounds_toArray, List.set_cons_zero, List.set_cons_succ])
        | ((with_reducible refine mem_skip ?_ ?_ ?_)
           · exact rfl
           · exact wanted_not rfl rfl rfl rfl
           simp only [Act.put, List.setIfInBounds_toArray, List.set_cons_zero, List.set_cons_succ])
        | ((with_reducible refine mem_pure ?_ ?_ ?_)
           · exact rfl
           · exact wanted_some rfl rfl rfl rfl
           intro K hK
           apply Exists.intro
           refine ⟨fun w3 hw3 => ?_, ?_⟩
           · have hcs := hw3
             simp only [CellsL, List.mem_cons, forall_eq_or_imp, List.not_mem_nil, false_implies, implies_true, and_true] at hcs
             clear hw3
             go_simp
             first | done | exact ⟨rfl, rfl⟩ | rfl
           refine hK _ ?_
           clear hK K
           try simp only [Act.put, List.setIfInBounds_toArray, List.set_cons_zero, List.set_cons_succ]))
      refine mem_bits 3 (w.heap.size + 1) R 208 408 (K + 1) Z a6 (.slice A3 X c3) (Res.bitR a6 (w.heap.size + 1) R 208 (K + 1) X) hRb (by rfl) (by rfl) (by omega) (by rfl) (fun ds v w h => h.2) (fun ds v c h => .inr h) (by rfl) (by decide) (by rfl) (fun w3 hw3 hc3 hu3 hR3 => ?_) (fun A4 c4 => ?_)
      · have hcs := hc3
        simp only [CellsL, List.mem_cons, forall_eq_or_imp, List.not_mem_nil, false_implies, implies_true, and_true] at hcs
        go_simp
        refine (bits_any Z (w.heap.size + 1) R 208 _ hu3 (by omega) (by omega) hR3 hRb).mono ?_
        rintro e w4 ⟨xs, A9, c9, rfl, h1, h2, h3, h4⟩
        exact retPost.mk_ ⟨xs, A9, c9, rfl, h1, h2, h3, h4⟩
      try simp only [Act.put, List.setIfInBounds_toArray, List.set_cons_zero, List.set_cons_succ]
      refine mem_any Qi Qi.one (by rfl) (by rfl) (fun w3 hw3 hc3 hp3 => ?_) (fun v9 hv9 => ?_)
      · obtain ⟨⟨xs, h4, h5⟩, _⟩ : (∃ xs, Own w3 (K + 1) w3.heap.size (.slice A4 Z c4) Z xs ∧ allB 0 1 xs = true) ∧ (Cur w3 (w.heap.size + 1) R 408 ∧ ∀ i, R i → i < w3.heap.size ∧ w3.heap[i]? = a6.heap[i]?) := hp3.1.1.1
        go_simp
        refine (btNum_any A4 Z c4 xs w3 h4.reads (by omega) h5).mono ?_
        rintro e w4 ⟨rfl, rfl⟩
        exact retPost.mk_ ⟨⟨_, rfl⟩, Below.refl _ _⟩
      obtain ⟨p2, rfl⟩ := hv9
      try simp only [Act.put, List.setIfInBounds_toArray, List.set_cons_zero, List.set_cons_succ]
      repeat (first
        | ((with_reducible refine mem_pure0 ?_ ?_ ?_)
           · exact rfl
           · exact rfl
           intro K hK
           apply Exists.intro
           refine ⟨fun w3 hw3 => ?_, ?_⟩
           · have hcs := hw3
             simp only [CellsL, List.mem_cons, forall_eq_or_imp, List.not_mem_nil, false_implies, implies_true, and_true] at hcs
             clear hw3
             go_simp
             first | done | exact ⟨rfl, rfl⟩ | rfl
           refine hK _ ?_
           clear hK K
           try simp only [Act.put, List.setIfInBounds_toArray, List.set_cons_zero, List.set_cons_succ])
        | ((with_reducible refine mem_skip ?_ ?_ ?_)
           · exact rfl
           · exact wanted_not rfl rfl rfl rfl
           simp only [Act.put, List.setIfInBounds_toArray, List.set_cons_zero, List.set_cons_succ])
        | ((with_reducible refine mem_pure ?_ ?_ ?_)
           · exact rfl
           · exact wanted_some rfl rfl rfl rfl
           intro K hK
           apply Exists.intro
           refine ⟨fun w3 hw3 => ?_, ?_⟩
           · have hcs := hw3
             simp only [CellsL, List.mem_cons, forall_eq_or_imp, List.not_mem_nil, false_implies, implies_true, and_true] at hcs
             clear hw3
             go_simp
             first | done | exact ⟨rfl, rfl⟩ | rfl
           refine hK _ ?_
           clear hK K
           try simp only [Act.put, List.setIfInBounds_toArray, List.set_cons_zero, List.set_cons_succ]))
      refine wpSep_end ?_
      intro wy hwy hcy hfin hap
      have hC8 : (∃ xs, Own wy (K + 1) wy.heap.size (.slice A4 Z c4) Z xs ∧ allB 0 1 xs = true) ∧ (Cur wy (w.heap.size + 1) R 408 ∧ ∀ i, R i → i < wy.heap.size ∧ wy.heap[i]? = a6.heap[i]?) := hfin.2.1.1
      have hC8 := hC8.2
      have hky : Alt (fun i => i = w.heap.size + 1) a6 wy := alt_back (base := a6) (b := w.heap.size + 1) (R := R) (own := fun _ => False) (Alt.refl_ _ _) (hwy.mono_ (fun i _ h => h.elim (fun h => .inl h) (fun h => .inr (.inl h)))) (fun i h => h.elim) (fun i hi => (hC8.2 i hi).2)
      have kb7 := kb6.trans_ hky (fun _ _ h => h)
      have c7 := hC8.1
      have hbx7 := hbx.alt hky hKb
      have ho7 := (OwnCr.hi_ ho6 (hi' := a6.heap.size) (by omega)).alt hky (fun i hi _ e => by omega)
      clear hfin hap hcy hwy hC8 m0 m1 m2 m3 hbx ho6 kb6 c6
      have hz7 := hky.size
      clear hky
      go_wp2_with fail
      refine (one_any 16 (w.heap.size + 1) R _ _ c7 (by omega) (by omega)).mono ?_
      rintro e a8 ⟨t, rfl, c8, k8, z8⟩
      have kb8 := kb7.trans_ k8 (fun _ _ h => h)
      have hbx8 := hbx7.alt k8 hKb
      have ho8 := ho7.alt k8 (fun i hi _ e => by omega)
      clear kb7 hbx7 ho7 c7 k8
      have hr9 := hr0.alt kb8 (by omega)
      have hF := Fz.alt hfz kb8 (by omega) (by omega)
      have f0 := hF 0; have f1 := hF 1; have f2 := hF 2; have f3 := hF 3
      have hq := hr9; obtain ⟨r0, r1, r2, r3⟩ := hq
      have hq := hbx8; obtain ⟨m0, m1, m2, m3⟩ := hq
      have kw : Alt (fun i => i = w.heap.size + 1) w a8 := (Alt.of_new (S := fun i => i = w.heap.size + 1) hA1).trans_ kb8 (fun _ _ h => h)
      cases t with
      | false =>
        go_wp2
        have hq9 := BxC.set4 (hr9) (X : Int) (Z : Int) A gs.length ca O os.length co
        obtain ⟨q0, q1, q2, q3⟩ := hq9
        refine bodyPost_ret (v := .tuple #[.agg #[.int .i64 (X : Int), .int .i64 (Z : Int), .slice A gs.length ca, .slice O os.length co], .int .i64 p1, .int .i64 p2]) (by simp [results, Try.results5, go_sem, q0, q1, q2, q3]) rfl ?_
        exact RetRw.of_ kw (fun i hi h => by omega) ho8 (by omega) (by omega) (by omega)
      | true =>
        obtain ⟨N, hN⟩ : ∃ N : Nat, 2 ^ Z = N := ⟨_, rfl⟩
        have hNi : (2 : Int) ^ Z = N := by rw [← hN]; simp
        have hta : ((Z : Nat) : Int).toNat = Z := by simp
        have hNb : N ≤ 1048576 := by rw [← hN]; exact Nat.le_trans (Nat.pow_le_pow_right (by omega) (show Z ≤ 20 by omega)) (by decide)
        go_wp2_with fail
        go_wp2_with fail
        refine wp_region_mem (9) ((fun i => i = w.heap.size)) [(⟨K, 0, none⟩, .int .i64 X), (⟨K, 1, none⟩, .int .i64 Z), (⟨K, 2, none⟩, .slice A gs.length ca), (⟨K, 3, none⟩, .slice O os.length co)] [(6, [102], [102])] [102] [6] [(102, Res.bx w.heap.size [.int .i64 0, .int .i64 0, .slice none 0 0, .slice none 0 0]), (6, Res.bx w.heap.size [.int .i64 X, .int .i64 Z, .slice A gs.length ca, .slice O os.length co])] ((upd (fun _ => undef) 102 undef)) (by kernel_rfl) (by kernel_rfl) (by kernel_rfl) (by simp only [CellsL, List.mem_cons, forall_eq_or_imp, List.not_mem_nil, false_implies, implies_true, and_true]; repeat (any_goals (apply And.intro)); all_goals (first | assumption | go_simp)) (fun q9 hq9 => by simp only [List.mem_cons, List.not_mem_nil, or_false] at hq9; rcases hq9 with rfl | rfl | rfl | rfl <;> intro h <;> exact hKD h) (⟨⟨⟨by show w.heap.size < a8.heap.size; omega, ⟨hr9.1, hr9.2.1, hr9.2.2.1, hr9.2.2.2, trivial⟩, hF⟩, fun i hi => ⟨.inr hi, by have hi' : i = w.heap.size := hi; show i < a8.heap.size; omega⟩⟩, trivial⟩) ((fun d hd d' hd' hn c hc hc' => by simp only [List.mem_cons, List.not_mem_nil, or_false] at hd hd'; rcases hd with rfl; rcases hd' with rfl; exact hn rfl)) ?_
        simp only [List.take_succ_cons, List.take_zero, List.drop_succ_cons, List.drop_zero, List.take_nil, List.drop_nil, List.take, List.drop]
        repeat (first
          | ((with_reducible refine mem_pure0 ?_ ?_ ?_)
             · exact rfl
             · exact rfl
             intro K hK
             apply Exists.intro
             refine ⟨fun w3 hw3 => ?_, ?_⟩
             · have hcs := hw3
               simp only [CellsL, List.mem_cons, forall_eq_or_imp, List.not_mem_nil, false_implies, implies_true, and_true] at hcs
               clear hw3
               go_simp
               first | done | exact ⟨rfl, rfl⟩ | rfl
             refine hK _ ?_
             clear hK K
             try simp only [Act.put, List.setIfInBounds_toArray, List.set_cons_zero, List.set_cons_succ])
          | ((with_reducible refine mem_skip ?_ ?_ ?_)
             · exact rfl
             · exact wanted_not rfl rfl rfl rfl
             simp only [Act.put, List.setIfInBounds_toArray, List.set_cons_zero, List.set_cons_succ])
          | ((with_reducible refine mem_pure ?_ ?_ ?_)
             · exact rfl
             · exact wanted_some rfl rfl rfl rfl
             intro K hK
             apply Exists.intro
             refine ⟨fun w3 hw3 => ?_, ?_⟩
             · have hcs := hw3
               simp only [CellsL, List.mem_cons, forall_eq_or_imp, List.not_mem_nil, false_implies, implies_true, and_true] at hcs
               clear hw3
               go_simp
               first | done | exact ⟨rfl, rfl⟩ | rfl
             refine hK _ ?_
             clear hK K
             try simp only [Act.put, List.setIfInBounds_toArray, List.set_cons_zero, List.set_cons_succ]))
        refine mem_bx 102 w.heap.size _ _ undef (by rfl) (by rfl) (by rfl) (by rfl) (by decide) (by rfl) (fun w3 hw3 hc3 hz3 hd3 hf3 => ?_) ?_
        · obtain ⟨d0, d1, d2, d3, _⟩ := hd3
          have f0 := hf3 0; have f1 := hf3 1; have f2 := hf3 2; have f3 := hf3 3
          go_simp
          exact bx_set4 ⟨d0, d1, d2, d3⟩ hf3 _ _ _ _ _ _ _ _
        try simp only [Act.put, List.setIfInBounds_toArray, List.set_cons_zero, List.set_cons_succ]
        repeat (first
          | ((with_reducible refine mem_pure0 ?_ ?_ ?_)
             · exact rfl
             · exact rfl
             intro K hK
             apply Exists.intro
             refine ⟨fun w3 hw3 => ?_, ?_⟩
             · have hcs := hw3
               simp only [CellsL, List.mem_cons, forall_eq_or_imp, List.not_mem_nil, false_implies, implies_true, and_true] at hcs
               clear hw3
               go_simp
               first | done | exact ⟨rfl, rfl⟩ | rfl
             refine hK _ ?_
             clear hK K
             try simp only [Act.put, List.setIfInBounds_toArray, List.set_cons_zero, List.set_cons_succ])
          | ((with_reducible refine mem_skip ?_ ?_ ?_)
             · exact rfl
             · exact wanted_not rfl rfl rfl rfl
             simp only [Act.put, List.setIfInBounds_toArray, List.set_cons_zero, List.set_cons_succ])
          | ((with_reducible refine mem_pure ?_ ?_ ?_)
             · exact rfl
             · exact wanted_some rfl rfl rfl rfl
             intro K hK
             apply Exists.intro
             refine ⟨fun w3 hw3 => ?_, ?_⟩
             · have hcs := hw3
               simp only [CellsL, List.mem_cons, forall_eq_or_imp, List.not_mem_nil, false_implies, implies_true, and_true] at hcs
               clear hw3
               go_simp
               first | done | exact ⟨rfl, rfl⟩ | rfl
             refine hK _ ?_
             clear hK K
             try simp only [Act.put, List.setIfInBounds_toArray, List.set_cons_zero, List.set_cons_succ]))
        refine wpSep_end ?_
        intro wy hwy hcy hfin hap
        obtain ⟨_, ⟨q0, q1, q2, q3, _⟩, _⟩ := hfin.1.1
        have k9 := kw.trans_ (T := okB a8 (fun i => i = w.heap.size)) (S := fun i => i = w.heap.size + 1) hwy (fun i hi h => h.elim (fun h => by have := kw.size; omega) (fun h => by have h' : i = w.heap.size := h; omega))
        have ho9 := ho8.alt hwy (fun i h1 h2 h => h.elim (fun h => by omega) (fun h => by have h' : i = w.heap.size := h; omega))
        clear hfin hap hcy hwy
        go_wp2
        refine bodyPost_ret (v := .tuple #[.agg #[.int .i64 X, .int .i64 Z, .slice A gs.length ca, .slice O os.length co], .int .i64 p1, .int .i64 _]) (by simp [results, Try.results5, go_sem, q0, q1, q2, q3]; rfl) rfl ?_
        exact RetRw.at_ k9 (fun i hi e => by omega) ho9 (by omega) (by omega)
end Go.Proofs.Ytimmjppkaadggaa
