/- The reference's width of a line whose parts are found. No program in sight. -/
import Derived.Test.YtenknpcbbcbciaaGreatQS25
namespace Go.Proofs.YtenknpcbbcbciaaGreat
open Go.RowKit
set_option linter.unusedVariables false
set_option linter.unusedSimpArgs false
theorem info_strO : (Tryz.prog.info? 9).map (fun i => (i.zero, i.size, i.bytes)) = some (some (.string ⟨#[]⟩), 1, 16) := by kernel_rfl
theorem Zcs : (Tryz.prog.info? 89).map (fun i => (i.zero, i.size, i.bytes)) = some (some (.agg #[.int .i64 0, .string ⟨#[]⟩, .string ⟨#[]⟩, .slice none 0 0, .int .i64 0, .int .i64 0, .int .i64 0]), 7, 88) := by kernel_rfl
structure Lp where
 x : Ln
 P : Option Addr
 q : Nat
def lpC (e : Lp) : List Value := [.int .i64 e.x.kind, .string (bs e.x.name), .string (bs e.x.op), .slice e.P e.x.parts.length e.q, .int .i64 e.x.party, .int .i64 e.x.width, .int .i64 e.x.value]
def lpsC (l : List Lp) : List Value := l.flatMap lpC
def lp (l : List Lp) (j : Nat) : Lp := l.getD j ⟨⟨0, [], [], [], 0, 0, 0⟩, none, 0⟩
theorem lp_lt {l : List Lp} {j : Nat} (h : j < l.length) : lp l j = l[j] := by simp [lp, h]
theorem lp_mem {l : List Lp} {j : Nat} (h : j < l.length) : lp l j ∈ l := by rw [lp_lt h]; exact List.getElem_mem h
theorem lpC_len (e : Lp) : (lpC e).length = 7 := rfl
theorem lpsC_len (l : List Lp) : (lpsC l).length = l.length * 7 := by
 induction l with
 | nil => rfl
 | cons x l ih => simp only [lpsC, List.flatMap_cons, List.length_append, List.length_cons] at ih ⊢; rw [ih, lpC_len]; omega
theorem lpsC_app (l m : List Lp) : lpsC (l ++ m) = lpsC l ++ lpsC m := by simp [lpsC]
theorem lpsC_one (e : Lp) : lpsC [e] = lpC e := by simp [lpsC]
theorem lpsC_at : ∀ (l : List Lp) (j i : Nat), j < l.length → i < 7 → (lpsC l)[j * 7 + i]? = (lpC (lp l j))[i]? := by
 intro l
 induction l with
 | nil => intro j i hj; simp at hj
 | cons x l ih =>
  intro j i hj hi
  have hc : lpsC (x :: l) = lpC x ++ lpsC l := rfl
  rw [hc]
  cases j with
  | zero => rw [Nat.zero_mul, Nat.zero_add, List.getElem?_append_left (by rw [lpC_len]; exact hi)]; rfl
  | succ j => rw [List.getElem?_append_right (by rw [lpC_len]; omega), lpC_len, show (j + 1) * 7 + i - 7 = j * 7 + i by omega, ih j i (by simpa using hj) hi]; rfl
theorem lpC_one (e : Lp) : ∀ u ∈ lpC e, u.oneCell' = true := by
 intro u hu; simp only [lpC, List.mem_cons, List.not_mem_nil, or_false] at hu
 rcases hu with rfl | rfl | rfl | rfl | rfl | rfl | rfl <;> rfl
theorem lpsC_oneC (l : List Lp) : ∀ u ∈ lpsC l, u.oneCell' = true := by
 intro u hu
 obtain ⟨e, _, h⟩ := List.mem_flatMap.1 hu
 exact lpC_one e u h
theorem lpsC_set {e' : Lp} {v : Value} {i : Nat} (hi : i < 7) : ∀ (l : List Lp) (k : Nat), k < l.length → (lpC (lp l k)).set i v = lpC e' → (lpsC l).set (k * 7 + i) v = lpsC (l.set k e') := by
 intro l
 induction l with
 | nil => intro k hk; simp at hk
 | cons x l ih =>
  intro k hk he
  have hc : lpsC (x :: l) = lpC x ++ lpsC l := rfl
  rw [hc]
  cases k with
  | zero =>
   rw [Nat.zero_mul, Nat.zero_add, List.set_append_left _ _ (by rw [lpC_len]; exact hi)]
   have : (lpC x).set i v = lpC e' := he
   rw [this]; rfl
  | succ k =>
   rw [List.set_append_right _ _ (by rw [lpC_len]; omega), lpC_len, show (k + 1) * 7 + i - 7 = k * 7 + i by omega, ih k (by simpa using hk) he]; rfl
def PaAt (w : World) (lo hi : Nat) (r : Option Nat) (P : Option Addr) (ps : List Str) : Prop :=
 0 < ps.length → ∃ b o, P = some ⟨b, o, none⟩ ∧ lo ≤ b ∧ b < hi ∧ b < w.heap.size ∧ r ≠ some b ∧ ∀ i, i < ps.length → w.cell? ⟨b, o + i, none⟩ = some (.string (bs (sx ps i)))
theorem PaAt.nil (w : World) (lo hi : Nat) (r : Option Nat) (P : Option Addr) : PaAt w lo hi r P [] := fun h => by simp at h
section
variable {w w' : World} {lo hi : Nat} {r : Option Nat} {P : Option Addr} {ps : List Str}
theorem PaAt.alt {S : Nat → Prop} (h : PaAt w lo hi r P ps) (k : Alt S w w') (hs : ∀ i, lo ≤ i → i < hi → r ≠ some i → ¬ S i) : PaAt w' lo hi r P ps := fun hn => by
 obtain ⟨b, o, h1, h2, h3, h4, h5, h6⟩ := h hn
 exact ⟨b, o, h1, h2, h3, Nat.lt_of_lt_of_le h4 k.size, h5, fun i hi => k.cell_ (h6 i hi) (hs b h2 h3 h5)⟩
theorem PaAt.row {r' : Option Nat} (h : PaAt w lo hi r P ps) (hr : ∀ b, lo ≤ b → b < hi → b < w.heap.size → r ≠ some b → r' ≠ some b) : PaAt w lo hi r' P ps := fun hn => by
 obtain ⟨b, o, h1, h2, h3, h4, h5, h6⟩ := h hn
 exact ⟨b, o, h1, h2, h3, h4, hr b h2 h3 h4 h5, h6⟩
theorem PaAt.lo_ {lo' : Nat} (h : PaAt w lo hi r P ps) (hl : lo' ≤ lo) : PaAt w lo' hi r P ps := fun hn => by
 obtain ⟨b, o, h1, h2, h3, h4, h5, h6⟩ := h hn
 exact ⟨b, o, h1, Nat.le_trans hl h2, h3, h4, h5, h6⟩
theorem PaAt.now (h : PaAt w lo hi r P ps) : PaAt w lo w.heap.size r P ps := fun hn => by
 obtain ⟨b, o, h1, h2, h3, h4, h5, h6⟩ := h hn
 exact ⟨b, o, h1, h2, h4, h4, h5, h6⟩
theorem PaAt.reads (h : PaAt w lo hi r P ps) : RX w P ps.length ps :=
 ⟨rfl, fun hn => by
  obtain ⟨b, o, h1, _, _, h4, _, h6⟩ := h hn
  exact ⟨b, o, h1, h4, h6⟩⟩
end
structure OLq (Sh : Ln → Prop) (w : World) (lo hi : Nat) (v : Value) (n : Nat) (l : List Lp) : Prop where
 row : w.ownsRow lo 89 7 v n (lpsC l)
 len : l.length = n
 hb : ∀ g, v.ownBlock = some g → g < hi
 pa : ∀ e ∈ l, PaAt w lo hi v.ownBlock e.P e.x.parts ∧ Sh e.x
theorem OLq.none_ {Sh : Ln → Prop} (w : World) (lo hi : Nat) : OLq Sh w lo hi (.slice none 0 0) 0 [] := ⟨World.ownsRow_nil w lo _ _, rfl, fun g hg => by simp [Value.ownBlock] at hg, fun e he => by simp at he⟩
section
variable {Sh : Ln → Prop} {w w' : World} {lo hi n c : Nat} {v : Value} {A : Option Addr} {l : List Lp}
theorem OLq.lt (h : OLq Sh w lo hi v n l) : ∀ g, v.ownBlock = some g → lo ≤ g ∧ g < hi ∧ g < w.heap.size := fun g hg => ⟨(h.row.lt g hg).1, h.hb g hg, (h.row.lt g hg).2⟩
theorem OLq.alt {S : Nat → Prop} (h : OLq Sh w lo hi v n l) (k : Alt S w w') (hs : ∀ i, lo ≤ i → i < hi → i < w.heap.size → ¬ S i) : OLq Sh w' lo hi v n l :=
 ⟨Zav h.row k (fun g hg => hs g (h.lt g hg).1 (h.lt g hg).2.1 (h.lt g hg).2.2), h.len, h.hb, fun e he => ⟨fun hn => by
  obtain ⟨b, o, h1, h2, h3, h4, h5, h6⟩ := (h.pa e he).1 hn
  exact ⟨b, o, h1, h2, h3, Nat.lt_of_lt_of_le h4 k.size, h5, fun i hi => k.cell_ (h6 i hi) (hs b h2 h3 h4)⟩, (h.pa e he).2⟩⟩
theorem OLq.now (h : OLq Sh w lo hi v n l) : OLq Sh w lo w.heap.size v n l := ⟨h.row, h.len, fun g hg => (h.lt g hg).2.2, fun e he => ⟨(h.pa e he).1.now, (h.pa e he).2⟩⟩
theorem OLq.lo_ {lo' : Nat} (h : OLq Sh w lo hi v n l) (hl : lo' ≤ lo) : OLq Sh w lo' hi v n l := by
 refine ⟨⟨h.row.1, ?_⟩, h.len, h.hb, fun e he => ⟨(h.pa e he).1.lo_ hl, (h.pa e he).2⟩⟩
 rcases h.row.2 with h1 | ⟨g, cap, cur, hv, hlo, r⟩
 ·exact .inl h1
 ·exact .inr ⟨g, cap, cur, hv, Nat.le_trans hl hlo, r⟩
theorem OLq.cell (h : OLq Sh w lo hi (.slice A n c) n l) {j : Nat} (hj : j < n) :
 ∃ g, A = some ⟨g, 0, none⟩ ∧ lo ≤ g ∧ g < hi ∧ g < w.heap.size ∧ (∀ i u, (lpC (lp l j))[i]? = some u → w.cell? ⟨g, j * 7 + i, none⟩ = some u) ∧ (∀ q, w.frozen? ⟨g, q, none⟩ = false) ∧ n ≤ c := by
 have hlen := h.len
 obtain ⟨g, cap, hv, h1, h2⟩ := h.row.form (by omega)
 simp only [Value.slice.injEq, true_and] at hv
 obtain ⟨rfl, rfl⟩ := hv
 refine ⟨g, rfl, h1, h.hb g (by simp [Value.ownBlock]), h2, fun i u hu => ?_, fun q => h.row.frozenAt q, ?_⟩
 ·have hi' : i < 7 := by
   rcases Nat.lt_or_ge i 7 with h | h
   ·exact h
   ·rw [List.getElem?_eq_none (by rw [lpC_len]; exact h)] at hu; cases hu
  rw [h.row.cellAt (j * 7 + i) (by omega), lpsC_at l j i (by omega) hi', hu]
 ·rcases h.row.2 with ⟨hv, _⟩ | ⟨g', cap', cur, hv, _, _, hcap, _⟩
  ·simp at hv
  ·simp only [Value.slice.injEq, true_and] at hv
   obtain ⟨_, rfl⟩ := hv
   exact hcap
theorem OLq.cap (h : OLq Sh w lo hi (.slice A n c) n l) : n ≤ c := by
 rcases Nat.eq_zero_or_pos n with h0 | h0
 ·omega
 ·exact (h.cell h0).choose_spec.2.2.2.2.2.2
theorem lx_map (l : List Lp) (j : Nat) (h : j < l.length) : lx (l.map Lp.x) j = (lp l j).x := by
 rw [lx_lt (by simpa using h), lp_lt h]; simp
theorem OLq.reads (h : OLq Sh w lo hi (.slice A n c) n l) : RLn w A n (l.map Lp.x) :=
 ⟨by rw [List.length_map]; exact h.len, fun hn => by
  have hlen := h.len
  obtain ⟨g, hA, h1, _, h2, _⟩ := h.cell hn
  refine ⟨g, 0, hA, h2, fun j hj => ?_⟩
  obtain ⟨g', hA', _, _, _, hc, _⟩ := h.cell hj
  rw [hA] at hA'
  simp only [Option.some.injEq, Addr.mk.injEq, and_true] at hA'
  subst hA'
  have hl := lx_map l j (by omega)
  refine ⟨(lp l j).P, (lp l j).q, ?_, ?_⟩
  ·rw [hl, Nat.zero_add]
   exact ⟨hc 0 _ rfl, hc 1 _ rfl, hc 2 _ rfl, hc 3 _ rfl, hc 4 _ rfl, hc 5 _ rfl, hc 6 _ rfl⟩
  ·rw [hl]; exact ((h.pa _ (lp_mem (by omega))).1).reads⟩
theorem OLq.short (h : OLq Sh w lo hi v n l) : ∀ x ∈ l.map Lp.x, Sh x := fun x hx => by
 obtain ⟨e, he, rfl⟩ := List.mem_map.1 hx
 exact (h.pa e he).2
theorem OLq.store {Sh' : Ln → Prop} (himp : ∀ x, Sh x → Sh' x) {g k i : Nat} {u : Value} {e' : Lp} (h : OLq Sh w lo hi (.slice (some ⟨g, 0, none⟩) n c) n l) (hk : k < n) (hi7 : i < 7) (he : (lpC (lp l k)).set i u = lpC e') (hp : PaAt w lo hi (some g) e'.P e'.x.parts) (hs : Sh' e'.x) :
 OLq Sh' (w.setCell ⟨g, k * 7 + i, none⟩ u) lo hi (.slice (some ⟨g, 0, none⟩) n c) n (l.set k e') := by
 have hlen := h.len
 obtain ⟨h1, h2⟩ := h.row.stored (k * 7 + i) u
 rw [lpsC_set hi7 l k (by omega) he] at h1
 have hob : (Value.slice (some ⟨g, 0, none⟩) n c).ownBlock = some g := by simp [Value.ownBlock]
 have ka : Alt (fun b => some g = some b) w (w.setCell ⟨g, k * 7 + i, none⟩ u) := Alt.of_grown (S := fun b => some g = some b) h2 (fun b hb => hb)
 refine ⟨h1, by rw [List.length_set]; exact hlen, h.hb, fun e he' => ?_⟩
 rw [hob]
 rcases List.mem_or_eq_of_mem_set he' with h3 | h3
 ·have h4 := h.pa e h3
  rw [hob] at h4
  exact ⟨h4.1.alt ka (fun b _ _ hr hS => hr hS), himp _ h4.2⟩
 ·subst h3
  exact ⟨hp.alt ka (fun b _ _ hr hS => hr hS), hs⟩
theorem OLq.mk_ {v' : Value} {m : Nat} {l' : List Lp} (hrow : w.ownsRow lo 89 7 v' m (lpsC l')) (hlen : l'.length = m) (hpa : ∀ e ∈ l', PaAt w lo w.heap.size v'.ownBlock e.P e.x.parts ∧ Sh e.x) : OLq Sh w lo w.heap.size v' m l' :=
 ⟨hrow, hlen, fun g hg => (hrow.lt g hg).2, hpa⟩
end
def shL (x : Ln) : Prop := shortS x.name ∧ shortS x.op ∧ x.parts.length ≤ 9 ∧ ∀ s ∈ x.parts, shortS s
theorem shL.s {x : Ln} (h : shL x) : shortL x := ⟨h.1, h.2.1, Nat.le_trans h.2.2.1 (by omega), h.2.2.2⟩
abbrev OL := OLq shL
def Res.rowP (T : TypeId) (s lo n : Nat) (Q : List Value → List Value → Prop) : Res :=
 ⟨fun _ v => ∃ A c, v = .slice A n c, fun ds v w => ∃ cells, Q ds cells ∧ w.ownsRow lo T s v n cells, fun _ v b => v.ownBlock = some b, fun _ => ⟨.slice none n 0, none, 0, rfl⟩, fun _ v w w' S ⟨cells, hq, h⟩ k hb => ⟨cells, hq, Zav h k fun g hg => (hb g hg).1⟩⟩
def postP (T : TypeId) (s n : Nat) (Q : List Value → List Value → Prop) (ds : List Value) (w : World) (v : Value) (w' : World) : Prop :=
 ∃ cells : Array Value, Q ds cells.toList ∧ cells.size = n * s ∧ v = .slice (some ⟨w.heap.size, 0, none⟩) n n ∧ w' = w.alloc (.cells cells T)
section
variable {P : Program} {W : World} {own : Nat → Prop} {cs : List (Addr × Value)} {sk : List (Nat × List Nat × List Nat)} {ini fi : List Nat} {rs : List (Nat × Res)} {ops : Array Oper} {L : Act → (Nat → Value) → Prop} {k : Nat} {o : Oper} {rest : List Oper} {a : Act} {ρ : Nat → Value}
theorem Zfd (T : TypeId) (s lo n : Nat) (Q : List Value → List Value → Prop) (hr : resAt rs k = Res.rowP T s lo n Q) (he : effB sk k = true) (hlo : lo ≤ W.heap.size) (hn : n ≤ 1048576)
 (hx : ∀ w, Alt (okB W own) W w → CellsL w cs → (mkSep W own cs sk ini fi rs).pre k ρ w → sepAt P o a (postP T s n Q ((depsL sk k).map ρ) w) w)
 (h : ∀ A c, wpSep (mkSep W own cs sk ini fi rs) P ops L (k + 1) rest (a.put o.dst (.slice A n c)) (upd ρ k (.slice A n c))) (hw : Region.wanted o (yielded ops a.tmps) = true := by first | exact Zao rfl | exact Zad rfl rfl rfl rfl) : wpSep (mkSep W own cs sk ini fi rs) P ops L k (o :: rest) a ρ :=
 Zdh (hw := hw) _ hr he (fun w hw hc hp => Zby (hx w hw hc hp) fun v w' ⟨cells, hq, hsz, h1, h2⟩ => by
  subst h1; subst h2
  have h3 := World.ownsRow_lit (base := lo) (e := T) (size := s) w cells n (Nat.le_trans hlo hw.size) (by unfold maxLen; omega) hsz
  refine ⟨⟨_, _, rfl⟩, ⟨_, hq, h3⟩, Alt.of_new (bA), fun b hb => ?_⟩
  have hb' : w.heap.size = b := by
   have : (Value.slice (some ⟨w.heap.size, 0, none⟩) n n).ownBlock = some b := hb
   simpa [Value.ownBlock] using this
  exact ⟨by simp; omega, .inl (by omega)⟩) fun v hv => by
  obtain ⟨A, c, rfl⟩ := hv
  exact h A c
theorem mem_appP (T t : TypeId) (z : Value) (s bytes d lo n m : Nat) (Qd Q : List Value → List Value → Prop) (A0 : Option Addr) (c0 : Nat) (A : Option Addr) (c : Nat) (sO xO : Operand)
 (ht : P.underlying t = some (.slice T)) (hinfo : (P.info? T).map (fun i => (i.zero, i.size, i.bytes)) = some (some z, s, bytes)) (hzs : z.cells.size = s) (hs0 : 0 < s) (hby : bytes ≤ 128)
 (hr : resAt rs k = Res.rowP T s lo (n + m) Q) (he : effB sk k = true) (hlo : lo ≤ W.heap.size) (hrd : resAt rs d = Res.rowP T s lo n Qd) (hd : consL sk k = [d]) (hdd : d ∈ depsL sk k) (hρ : ρ d = .slice A0 n c0)
 (ho : o.op = .call { callee := .builtin .append, args := #[sO, xO], argTypes := #[t, t] }) (hs : a.eval sO = .slice A0 n c0) (hx : a.eval xO = .slice A m c) (hlen : n + m ≤ 1048576)
 (hread : ∀ w cells, Alt (okB W own) W w → CellsL w cs → (mkSep W own cs sk ini fi rs).pre k ρ w → Qd ((depsL sk d).map ρ) cells → ∃ news, RV w A m s news ∧ (∀ u ∈ news, u.oneCell' = true) ∧ Q ((depsL sk k).map ρ) (cells ++ news))
 (h : ∀ A' c', wpSep (mkSep W own cs sk ini fi rs) P ops L (k + 1) rest (a.put o.dst (.slice A' (n + m) c')) (upd ρ k (.slice A' (n + m) c'))) (hw : Region.wanted o (yielded ops a.tmps) = true := by first | exact Zao rfl | exact Zad rfl rfl rfl rfl) : wpSep (mkSep W own cs sk ini fi rs) P ops L k (o :: rest) a ρ :=
 Zdh (hw := hw) _ hr he (fun w hw hc hp => by
  obtain ⟨cells, hq, h1⟩ : ∃ cells, Qd ((depsL sk d).map ρ) cells ∧ w.ownsRow lo T s (.slice A0 n c0) n cells := (Zcl hdd hp hρ hrd).1
  obtain ⟨news, hrv, h1c, hq'⟩ := hread w cells hw hc hp hq
  have hh : (mkSep W own cs sk ini fi rs).hit k ρ = fun b => (Value.slice A0 n c0).ownBlock = some b := hit_one hd hρ hrd
  rw [hh]
  obtain ⟨i, hi0, hz0, hz1, hz2⟩ := info_parts hinfo
  obtain ⟨A', c', w', hrun, h2, h3, h4, h5⟩ := Zdn (P := P) w t o.type T i z s bytes ht hi0 hz0 hz1 hz2 hzs hs0 lo n c0 m c A0 A _ _ h1 hrv h1c (by unfold maxLen; omega) (Nat.le_trans (Nat.mul_le_mul_left _ hby) (by omega)) (Nat.le_trans hlo hw.size)
  unfold sepAt execOp
  simp only [ho, resolve, invoke, builtin, Sem.run_bind, Sem.run_pure, Result.andThen_ok, List.map_toArray, List.map_cons, List.map_nil, hs, hx, hrun]
  exact ⟨⟨A', c', rfl⟩, ⟨_, hq', h2⟩, Alt.of_grown h3 (fun i hi => hi), fun b hb => ⟨(h2.lt b hb).2, by
   rcases h4 with h4 | h4
   ·exact .inr (h4 ▸ hb)
   ·have hb' : (Value.slice A' (n + m) c').ownBlock = some b := hb
    rw [h4] at hb'; injection hb' with hb'
    exact .inl (by omega)⟩⟩) fun v hv => by
  obtain ⟨A', c', rfl⟩ := hv
  exact h A' c'
end
theorem OLq.rv {Sh : Ln → Prop} {w : World} {lo hi n c : Nat} {A : Option Addr} {l : List Lp} (h : OLq Sh w lo hi (.slice A n c) n l) : RV w A n 7 (lpsC l) :=
 ⟨by rw [lpsC_len, h.len], fun hn => by
  have hlen := h.len
  obtain ⟨g, hA, _⟩ := h.cell hn
  subst hA
  refine ⟨_, rfl, fun j u hu => ?_⟩
  rw [Zcf, Nat.zero_add]
  have := h.row.cellAt j (by rcases Nat.lt_or_ge j (n * 7) with h1 | h1; exact h1; rw [List.getElem?_eq_none (by rw [lpsC_len, hlen]; exact h1)] at hu; cases hu)
  rw [this, hu]⟩
theorem rowP_rv {w : World} {T : TypeId} {s lo n c : Nat} {A : Option Addr} {cells : List Value} (h : w.ownsRow lo T s (.slice A n c) n cells) (hn : 0 < n) : RV w A n s cells := by
 obtain ⟨g, cap, hv, h1, h2⟩ := h.form hn
 simp only [Value.slice.injEq, true_and] at hv
 obtain ⟨rfl, rfl⟩ := hv
 refine ⟨h.1, fun _ => ⟨_, rfl, fun j u hu => ?_⟩⟩
 rw [Zcf, Nat.zero_add, h.cellAt j (by rw [← h.1]; rcases Nat.lt_or_ge j cells.length with h1 | h1; exact h1; rw [List.getElem?_eq_none h1] at hu; cases hu), hu]
theorem ownsRow_loO {w : World} {lo lo' n s : Nat} {v : Value} {e : TypeId} {vals : List Value} (h : w.ownsRow lo e s v n vals) (hl : lo' ≤ lo) : w.ownsRow lo' e s v n vals := by
 refine ⟨h.1, ?_⟩
 rcases h.2 with h1 | ⟨g, cap, cur, hv, hlo, r⟩
 ·exact .inl h1
 ·exact .inr ⟨g, cap, cur, hv, Nat.le_trans hl hlo, r⟩
theorem alt_backH {b H : Nat} {R own : Nat → Prop} {wr wy : World} (h : Alt (okB wr (fun i => (i = b ∨ R i) ∨ own i)) wr wy) (hown : ∀ i, own i → H ≤ i) (hR : ∀ i, R i → wy.heap[i]? = wr.heap[i]?) (hH : H ≤ wr.heap.size) : Alt (fun i => i = b ∨ H ≤ i) wr wy :=
 ⟨h.os, h.tape, h.output, h.size, fun i hi hn => by
  by_cases hRi : R i
  ·exact hR i hRi
  ·refine h.block i hi ?_
   rintro (h1 | (h1 | h1) | h1)
   ·exact hn (.inr (by omega))
   ·exact hn (.inl h1)
   ·exact hRi h1
   ·exact hn (.inr (hown i h1))⟩
theorem Zdy {P : Program} {w : World} {ops : Array Oper} {rest : List Oper} {o : Oper} {a : Act} {Q : Exit → Act → World → Prop} (hgd : o.guard = none) (s x : Operand) (t T : TypeId) (z : Value) (sz bytes : Nat)
 (ho : o.op = .call { callee := .builtin .append, args := #[s, x], argTypes := #[t, t] }) (ht : P.underlying t = some (.slice T)) (hinfo : (P.info? T).map (fun i => (i.zero, i.size, i.bytes)) = some (some z, sz, bytes)) (hzs : z.cells.size = sz) (hs0 : 0 < sz) (hby : bytes ≤ 128)
 {lo n m c0 c : Nat} {A0 A : Option Addr} {cells news : List Value} (hs : a.eval s = .slice A0 n c0) (hown : w.ownsRow lo T sz (.slice A0 n c0) n cells) (hx : a.eval x = .slice A m c) (hrv : RV w A m sz news) (h1c : ∀ u ∈ news, u.oneCell' = true) (hlen : n + m ≤ 1048576) (hlo : lo ≤ w.heap.size)
 (h : ∀ A' c' w', w'.ownsRow lo T sz (.slice A' (n + m) c') (n + m) (cells ++ news) → w.grownBy w' (Value.slice A0 n c0).ownBlock → ((Value.slice A' (n + m) c').ownBlock = (Value.slice A0 n c0).ownBlock ∨ (Value.slice A' (n + m) c').ownBlock = some w.heap.size) → wpList P ops Q rest (a.put o.dst (.slice A' (n + m) c')) w') : wpList P ops Q (o :: rest) a w := by
 refine wpList_plain hgd fun _ hK => ?_
 obtain ⟨i, hi0, hz0, hz1, hz2⟩ := info_parts hinfo
 obtain ⟨A', c', w', hrun, h2, h3, h4, h5⟩ := Zdn (P := P) w t o.type T i z sz bytes ht hi0 hz0 hz1 hz2 hzs hs0 lo n c0 m c A0 A _ _ hown hrv h1c (by unfold maxLen; omega) (Nat.le_trans (Nat.mul_le_mul_left _ hby) (by omega)) hlo
 unfold Oper.wp execOp
 simp only [ho, resolve, invoke, builtin, Sem.run_bind, Sem.run_pure, Result.andThen_ok, List.map_toArray, List.map_cons, List.map_nil, hs, hx, hrun]
 exact hK _ _ (h A' c' w' h2 h3 h4)
def strV (ps : List Str) : List Value := ps.map fun s => .string (bs s)
theorem strV_len (ps : List Str) : (strV ps).length = ps.length := by simp [strV]
theorem strV_one (ps : List Str) : ∀ u ∈ strV ps, u.oneCell' = true := by
 intro u hu
 obtain ⟨s, _, rfl⟩ := List.mem_map.1 hu
 rfl
theorem strV_at {ps : List Str} {j : Nat} (h : j < ps.length) : (strV ps)[j]? = some (.string (bs (sx ps j))) := by simp [strV, sx, h]
theorem RX.rv {w : World} {A : Option Addr} {n : Nat} {ps : List Str} (h : RX w A n ps) : RV w A n 1 (strV ps) :=
 ⟨by rw [strV_len, h.1]; omega, fun hn => by
  obtain ⟨b, o, h1, _, h3⟩ := h.2 hn
  refine ⟨_, h1, fun j u hu => ?_⟩
  rw [Zcf]
  have hj : j < n := by
   rcases Nat.lt_or_ge j n with h9 | h9
   ·exact h9
   ·rw [List.getElem?_eq_none (by rw [strV_len, h.1]; exact h9)] at hu; cases hu
  rw [h3 j hj, ← strV_at (by rw [h.1]; exact hj), hu]⟩
theorem PaAt.ofRow {w : World} {lo c n : Nat} {r : Option Nat} {A : Option Addr} {ps : List Str} (h : w.ownsRow lo 9 1 (.slice A n c) n (strV ps)) (hr : ∀ g, (Value.slice A n c).ownBlock = some g → r ≠ some g) : PaAt w lo w.heap.size r A ps := fun hn => by
 have hl : ps.length = n := by have := h.1; rw [strV_len] at this; omega
 obtain ⟨g, cap, hv, h1, h2⟩ := h.form (by omega)
 simp only [Value.slice.injEq, true_and] at hv
 obtain ⟨rfl, rfl⟩ := hv
 exact ⟨g, 0, rfl, h1, h2, h2, hr g (by simp [Value.ownBlock]), fun i hi => by rw [Nat.zero_add, h.cellAt i (by omega), strV_at hi]⟩
theorem RX_lit (w : World) (ps : List Str) (T : TypeId) : RX (w.alloc (.cells (strV ps).toArray T)) (some ⟨w.heap.size, 0, none⟩) ps.length ps :=
 ⟨rfl, fun _ => ⟨_, 0, rfl, by simp, fun j hj => by rw [Nat.zero_add]; exact Zaf _ _ j _ (by simpa using strV_at hj)⟩⟩
structure LB (w : World) (K : Nat) (x : Ln) (P : Option Addr) (q : Nat) : Prop where
 c0 : w.cell? ⟨K, 0, none⟩ = some (.int .i64 x.kind)
 c1 : w.cell? ⟨K, 1, none⟩ = some (.string (bs x.name))
 c2 : w.cell? ⟨K, 2, none⟩ = some (.string (bs x.op))
 c3 : w.cell? ⟨K, 3, none⟩ = some (.slice P x.parts.length q)
 c4 : w.cell? ⟨K, 4, none⟩ = some (.int .i64 x.party)
 c5 : w.cell? ⟨K, 5, none⟩ = some (.int .i64 x.width)
 c6 : w.cell? ⟨K, 6, none⟩ = some (.int .i64 x.value)
 fz : Fz w K
 lt : K < w.heap.size
section
variable {w w' : World} {K q : Nat} {x : Ln} {P : Option Addr}
theorem LB.alt {S : Nat → Prop} (h : LB w K x P q) (k : Alt S w w') (hb : ¬ S K) : LB w' K x P q :=
 ⟨k.cell_ h.c0 hb, k.cell_ h.c1 hb, k.cell_ h.c2 hb, k.cell_ h.c3 hb, k.cell_ h.c4 hb, k.cell_ h.c5 hb, k.cell_ h.c6 hb, h.fz.alt k h.lt hb, Nat.lt_of_lt_of_le h.lt k.size⟩
theorem LB.set0 (h : LB w K x P q) (z : Int) : LB (w.setCell ⟨K, 0, none⟩ (.int .i64 z)) K { x with kind := z } P q :=
 ⟨World.cell?_setCell_same _ _ _ h.c0, (World.cell?_setCell_other _ _ _ _ (by simp)).trans h.c1, (World.cell?_setCell_other _ _ _ _ (by simp)).trans h.c2, (World.cell?_setCell_other _ _ _ _ (by simp)).trans h.c3, (World.cell?_setCell_other _ _ _ _ (by simp)).trans h.c4, (World.cell?_setCell_other _ _ _ _ (by simp)).trans h.c5, (World.cell?_setCell_other _ _ _ _ (by simp)).trans h.c6, h.fz.set _ _, by simpa using h.lt⟩
theorem LB.set1 (h : LB w K x P q) (z : Str) : LB (w.setCell ⟨K, 1, none⟩ (.string (bs z))) K { x with name := z } P q :=
 ⟨(World.cell?_setCell_other _ _ _ _ (by simp)).trans h.c0, World.cell?_setCell_same _ _ _ h.c1, (World.cell?_setCell_other _ _ _ _ (by simp)).trans h.c2, (World.cell?_setCell_other _ _ _ _ (by simp)).trans h.c3, (World.cell?_setCell_other _ _ _ _ (by simp)).trans h.c4, (World.cell?_setCell_other _ _ _ _ (by simp)).trans h.c5, (World.cell?_setCell_other _ _ _ _ (by simp)).trans h.c6, h.fz.set _ _, by simpa using h.lt⟩
theorem LB.set2 (h : LB w K x P q) (z : Str) : LB (w.setCell ⟨K, 2, none⟩ (.string (bs z))) K { x with op := z } P q :=
 ⟨(World.cell?_setCell_other _ _ _ _ (by simp)).trans h.c0, (World.cell?_setCell_other _ _ _ _ (by simp)).trans h.c1, World.cell?_setCell_same _ _ _ h.c2, (World.cell?_setCell_other _ _ _ _ (by simp)).trans h.c3, (World.cell?_setCell_other _ _ _ _ (by simp)).trans h.c4, (World.cell?_setCell_other _ _ _ _ (by simp)).trans h.c5, (World.cell?_setCell_other _ _ _ _ (by simp)).trans h.c6, h.fz.set _ _, by simpa using h.lt⟩
theorem LB.set3 (h : LB w K x P q) (P' : Option Addr) (ps : List Str) (n q' : Nat) (hn : ps.length = n) : LB (w.setCell ⟨K, 3, none⟩ (.slice P' n q')) K { x with parts := ps } P' q' := by
 subst hn
 exact ⟨(World.cell?_setCell_other _ _ _ _ (by simp)).trans h.c0, (World.cell?_setCell_other _ _ _ _ (by simp)).trans h.c1, (World.cell?_setCell_other _ _ _ _ (by simp)).trans h.c2, World.cell?_setCell_same _ _ _ h.c3, (World.cell?_setCell_other _ _ _ _ (by simp)).trans h.c4, (World.cell?_setCell_other _ _ _ _ (by simp)).trans h.c5, (World.cell?_setCell_other _ _ _ _ (by simp)).trans h.c6, h.fz.set _ _, by simpa using h.lt⟩
theorem LB.set4 (h : LB w K x P q) (z : Int) : LB (w.setCell ⟨K, 4, none⟩ (.int .i64 z)) K { x with party := z } P q :=
 ⟨(World.cell?_setCell_other _ _ _ _ (by simp)).trans h.c0, (World.cell?_setCell_other _ _ _ _ (by simp)).trans h.c1, (World.cell?_setCell_other _ _ _ _ (by simp)).trans h.c2, (World.cell?_setCell_other _ _ _ _ (by simp)).trans h.c3, World.cell?_setCell_same _ _ _ h.c4, (World.cell?_setCell_other _ _ _ _ (by simp)).trans h.c5, (World.cell?_setCell_other _ _ _ _ (by simp)).trans h.c6, h.fz.set _ _, by simpa using h.lt⟩
theorem LB.set5 (h : LB w K x P q) (z : Int) : LB (w.setCell ⟨K, 5, none⟩ (.int .i64 z)) K { x with width := z } P q :=
 ⟨(World.cell?_setCell_other _ _ _ _ (by simp)).trans h.c0, (World.cell?_setCell_other _ _ _ _ (by simp)).trans h.c1, (World.cell?_setCell_other _ _ _ _ (by simp)).trans h.c2, (World.cell?_setCell_other _ _ _ _ (by simp)).trans h.c3, (World.cell?_setCell_other _ _ _ _ (by simp)).trans h.c4, World.cell?_setCell_same _ _ _ h.c5, (World.cell?_setCell_other _ _ _ _ (by simp)).trans h.c6, h.fz.set _ _, by simpa using h.lt⟩
theorem LB.set6 (h : LB w K x P q) (z : Int) : LB (w.setCell ⟨K, 6, none⟩ (.int .i64 z)) K { x with value := z } P q :=
 ⟨(World.cell?_setCell_other _ _ _ _ (by simp)).trans h.c0, (World.cell?_setCell_other _ _ _ _ (by simp)).trans h.c1, (World.cell?_setCell_other _ _ _ _ (by simp)).trans h.c2, (World.cell?_setCell_other _ _ _ _ (by simp)).trans h.c3, (World.cell?_setCell_other _ _ _ _ (by simp)).trans h.c4, (World.cell?_setCell_other _ _ _ _ (by simp)).trans h.c5, World.cell?_setCell_same _ _ _ h.c6, h.fz.set _ _, by simpa using h.lt⟩
end
attribute [local go_sem] sepAt sepUpon pureAt pureUpon
theorem sx_memO {l : List Str} {j : Nat} (h : j < l.length) : sx l j ∈ l := by simp [sx, List.getD, List.getElem?_eq_getElem h]
def RetOf (w : World) (b : Nat) (R : Nat → Prop) (T : Nat) (l : List Str) (e : Ending) (w' : World) : Prop :=
 ∃ s : Str, s ∈ l ∧ e = .returned (.string (bs s)) ∧ Cur w' b R T ∧ Alt (fun i => i = b) w w' ∧ w'.heap.size = w.heap.size
theorem of_any (A : Option Addr) (n c : Nat) (l : List Str) (b : Nat) (R : Nat → Prop) (T : Nat) (w : World) (h : Cur w b R T) (hT : T < 900000000) (hr : RX w A n l) (hn : 0 < n) (hn2 : n ≤ 2147483648) (hq : ∀ q o, A = some ⟨q, o, none⟩ → q ≠ b) :
 Calls Tryz.prog 109 #[.pointer (some ⟨b, 0, none⟩), .slice A n c] w (RetOf w b R (T + 2) l) := by
 have hl := hr.1
 obtain ⟨q, o, rfl, hqb, hc⟩ := hr.2 hn
 have hq2 := hq q o rfl
 clear hq
 go_enter Tryz.func109, Tryz.ntmps109
 go_wp2_with fail
 refine (Zbm n b R T _ h hT (by omega)).mono ?_
 rintro e w1 ⟨v, hv, hv2, rfl, c1, k1, z1⟩
 have hvn : v < n := by omega
 have d := k1.cell_ (hc v hvn) hq2
 go_wp2
 go_ret
 exact ⟨_, sx_memO (by omega), rfl, c1, k1, z1⟩
set_option maxHeartbeats 400000 in
theorem l1OwnS_any (A : Option Addr) (n c : Nat) (ps : List Str) (w : World) (ha : RX w A n ps) (hn : n ≤ 1000) :
 Calls Tryz.prog 110 #[.slice A n c] w fun e w' => ∃ A' c', e = .returned (.slice A' n c') ∧ w'.ownsRow w.heap.size 9 1 (.slice A' n c') n (strV ps) ∧ Below w.heap.size w w' := by
 have al : Below w.heap.size w (w.alloc (.cells #[] 9)) := bA
 have h0 : (w.alloc (.cells #[] 9)).ownsRow w.heap.size 9 1 (.slice (some ⟨w.heap.size, 0, none⟩) 0 0) 0 [] := by simpa using World.ownsRow_lit (base := w.heap.size) (e := 9) (size := 1) w #[] 0 lR (by unfold maxLen; omega) (by simp)
 have hrA := (ha.below al lR).rv
 go_enter Tryz.func110, Tryz.ntmps110
 go_wp2_with (at_builtin; refine Zdy rfl _ _ 87 9 (.string ⟨#[]⟩) 1 16 rfl Tryz.underlying87 info_strO rfl (by decide) (by decide) rfl h0 rfl hrA (strV_one _) (by omega) (by simp) ?_; intro A5 c5 w5 hrow hg hat)
 rw [List.nil_append] at hrow
 simp only [Nat.zero_add] at hrow
 have kA : Alt (fun i => w.heap.size ≤ i) w w5 := (Alt.of_new al).trans_ (Alt.of_grown (S := fun i => i = w.heap.size) hg (fun i hi => by simp only [Value.ownBlock, Option.some.injEq] at hi; exact hi.symm)) (fun i _ hi => Nat.le_of_eq hi.symm)
 have hb5 : Below w.heap.size w w5 := kA.below_ lR (fun i hi h => by omega)
 go_wp2
 go_ret
 exact ⟨A5, c5, rfl, hrow, hb5⟩
theorem laOps_new (w : World) : Calls Tryz.prog 135 #[] w fun e w' => e = .returned (.slice (some ⟨w.heap.size, 0, none⟩) 8 8) ∧ RX w' (some ⟨w.heap.size, 0, none⟩) 8 opsL ∧ Below w.heap.size w w' := by
 go_enter Tryz.func135, Tryz.ntmps135
 go_wp2
 go_ret
 refine ⟨rfl, ⟨rfl, fun _ => ⟨_, _, rfl, by simp, fun j hj => ?_⟩⟩, bA⟩
 rw [Nat.zero_add]
 have hj' : j = 0 ∨ j = 1 ∨ j = 2 ∨ j = 3 ∨ j = 4 ∨ j = 5 ∨ j = 6 ∨ j = 7 := by omega
 rcases hj' with rfl | rfl | rfl | rfl | rfl | rfl | rfl | rfl <;> exact Zaf _ _ _ _ rfl
end Go.Proofs.YtenknpcbbcbciaaGreat
namespace Go.Proofs.YtenknpcbbcbciaaGreat
open Go.RowKit
set_option linter.unusedVariables false
set_option linter.unusedSimpArgs false
theorem Zam {pre : List Ln} {ws : List Int} {x : Ln} {w : List Int} (h : pw (sFind pre) ws x.parts = some w) :
 sW pre ws x = if (if x.kind = 6 then x.name = [] else nmB x.name = true ∧ sFind pre x.name < 0) ∧ bareB x = true ∧ w.length = partsN x.kind then kindW x w else 0 := by
 unfold sW; rw [h]
end Go.Proofs.YtenknpcbbcbciaaGreat
