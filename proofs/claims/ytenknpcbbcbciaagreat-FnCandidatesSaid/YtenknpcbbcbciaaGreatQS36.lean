/- Compiling: its start, lists of wires in the midst, what it returns. No condition. -/
import Derived.Test.YtenknpcbbcbciaaGreatQS33
namespace Go.Proofs.YtenknpcbbcbciaaGreat
open Go.RowKit
set_option linter.unusedVariables false
set_option linter.unusedSimpArgs false
theorem step_appN {w : World} {ops : Array Oper} {o : Oper} {a : Act} {K : Act → World → Prop} {Q : Exit → Act → World → Prop} {E : Prop} (hgd : o.guard = none) (s x : Operand)
 (ho : o.op = .call { callee := .builtin .append, args := #[s, x], argTypes := #[61, 61] })
 {lo n c0 m c b bq q : Nat} {G : Option Nat} {A0 A : Option Addr} {xss : List (List Int)} {ys : List Int} (hs : a.eval s = .slice A0 n c0) (hown : NL w b G lo (.slice A0 n c0) n xss) (hx : a.eval x = .slice (some ⟨bq, 0, none⟩) 1 q) (hnew : RM w b G A m ys) (hd : ∀ k o, A = some ⟨k, o, none⟩ → (Value.slice A0 n c0).ownBlock ≠ some k ∧ k < w.heap.size)
 (hc : w.cell? ⟨bq, 0, none⟩ = some (.slice A m c)) (hlen : n ≤ 4194304) (hlo : lo ≤ w.heap.size) (hb : b < w.heap.size) (hG : ∀ g, G = some g → g < w.heap.size)
 (h : ∀ A' c' w', NL w' b G lo (.slice A' (n + 1) c') (n + 1) (xss ++ [ys]) → w.grownBy w' (Value.slice A0 n c0).ownBlock → K (a.put o.dst (.slice A' (n + 1) c')) w') :
 if Region.wanted o (yielded ops a.tmps) = true then Oper.wp Tryz.prog o a w K Q else E := by
 have hw : Region.wanted o (yielded ops a.tmps) = true := by simp [Region.wanted, hgd]
 rw [if_pos hw]
 obtain ⟨A', c', w', hrun, h2, h3⟩ := run_appN w o.type lo n c0 m c b bq q G A0 A xss ys hown hnew hd hc hlen hlo hb hG
 unfold Oper.wp execOp
 simp only [ho, resolve, invoke, builtin, Sem.run_bind, Sem.run_pure, Result.andThen_ok, List.map_toArray, List.map_cons, List.map_nil, hs, hx, hrun]
 exact h A' c' w' h2 h3
theorem Zep {w w' : World} {r : Option Nat} {p : Addr} {v : Value} (hv : w.cell? p = some v) (hg : w.grownBy w' r) (hr : r ≠ some p.block) : w'.cell? p = some v :=
 (World.cell?_of_block (w := w) (hg.block p.block (World.block_lt_of_cell? w _ hv) (fun e => hr e.symm))).trans hv
def Res.rowV (lo n : Nat) (vals : List Value) : Res :=
 ⟨fun _ v => ∃ A c, v = .slice A n c, fun _ v w => w.ownsRow lo 24 1 v n vals, fun _ v b => v.ownBlock = some b, fun _ => ⟨.slice none n 0, none, 0, rfl⟩, fun _ v w w' S h k hb => Zav h k fun g hg => (hb g hg).1⟩
section
variable {P : Program} {W : World} {own : Nat → Prop} {cs : List (Addr × Value)} {sk : List (Nat × List Nat × List Nat)} {ini fi : List Nat} {rs : List (Nat × Res)} {ops : Array Oper} {L : Act → (Nat → Value) → Prop} {k : Nat} {o : Oper} {rest : List Oper} {a : Act} {ρ : Nat → Value}
theorem mem_rowV1 (lo : Nat) (v0 : Value) (hr : resAt rs k = Res.rowV lo 1 [v0]) (he : effB sk k = true) (hlo : lo ≤ W.heap.size)
 (hx : ∀ w, Alt (okB W own) W w → CellsL w cs → sepAt P o a (fun v w' => v = .slice (some ⟨w.heap.size, 0, none⟩) 1 1 ∧ w' = w.alloc (.cells #[v0] 24)) w)
 (h : ∀ A c, wpSep (mkSep W own cs sk ini fi rs) P ops L (k + 1) rest (a.put o.dst (.slice A 1 c)) (upd ρ k (.slice A 1 c))) (hw : Region.wanted o (yielded ops a.tmps) = true := by first | exact Zao rfl | exact Zad rfl rfl rfl rfl) : wpSep (mkSep W own cs sk ini fi rs) P ops L k (o :: rest) a ρ :=
 Zdh (hw := hw) _ hr he (fun w hw hc hp => Zby (hx w hw hc) fun v w' ⟨h1, h2⟩ => by
  subst h1; subst h2
  have h3 := World.ownsRow_lit (base := lo) (e := 24) (size := 1) w #[v0] 1 (Nat.le_trans hlo hw.size) (by unfold maxLen; omega) (by simp)
  refine ⟨⟨_, _, rfl⟩, h3, Alt.of_new (bA), fun b hb => ?_⟩
  have hb' : w.heap.size = b := by
   have : (Value.slice (some ⟨w.heap.size, 0, none⟩) 1 1).ownBlock = some b := hb
   simpa [Value.ownBlock] using this
  exact ⟨by simp; omega, .inl (by omega)⟩) fun v hv => by
  obtain ⟨A, c, rfl⟩ := hv
  exact h A c
theorem mem_appV {ops : Array Oper} {L : Act → (Nat → Value) → Prop} (d d2 lo n : Nat) (vals : List Value) (v0 : Value) (A0 : Option Addr) (c0 : Nat) (A : Option Addr) (c : Nat) (s x : Operand) (hr : resAt rs k = Res.rowV lo (n + 1) (vals ++ [v0])) (he : effB sk k = true) (hlo : lo ≤ W.heap.size) (hrd : resAt rs d = Res.rowV lo n vals) (hd : consL sk k = [d]) (hdd : d ∈ depsL sk k) (hρ : ρ d = .slice A0 n c0)
 (hrd2 : resAt rs d2 = Res.rowV lo 1 [v0]) (hdd2 : d2 ∈ depsL sk k) (hρ2 : ρ d2 = .slice A 1 c) (h1c : v0.oneCell' = true)
 (ho : o.op = .call { callee := .builtin .append, args := #[s, x], argTypes := #[61, 61] }) (hs : a.eval s = .slice A0 n c0) (hx : a.eval x = .slice A 1 c) (hlen : n ≤ 4194304)
 (h : ∀ A' c', wpSep (mkSep W own cs sk ini fi rs) Tryz.prog ops L (k + 1) rest (a.put o.dst (.slice A' (n + 1) c')) (upd ρ k (.slice A' (n + 1) c'))) (hw : Region.wanted o (yielded ops a.tmps) = true := by first | exact Zao rfl | exact Zad rfl rfl rfl rfl) : wpSep (mkSep W own cs sk ini fi rs) Tryz.prog ops L k (o :: rest) a ρ :=
 Zdh (hw := hw) _ hr he (fun w hw hc hp => by
  have h1 : w.ownsRow lo 24 1 (.slice A0 n c0) n vals := (Zcl hdd hp hρ hrd).1
  have h6 : w.ownsRow lo 24 1 (.slice A 1 c) 1 [v0] := (Zcl hdd2 hp hρ2 hrd2).1
  have hh : (mkSep W own cs sk ini fi rs).hit k ρ = fun b => (Value.slice A0 n c0).ownBlock = some b := hit_one hd hρ hrd
  rw [hh]
  obtain ⟨g, cap, hv, hgl, hgs⟩ := h6.form (by omega)
  simp only [Value.slice.injEq, true_and] at hv
  obtain ⟨rfl, rfl⟩ := hv
  obtain ⟨i, hi0, hz0, hz1, hz2⟩ := info_parts info_ints
  have hrv : RV w (some ⟨g, 0, none⟩) 1 1 [v0] := by
   refine ⟨rfl, fun _ => ⟨_, rfl, fun j u hu => ?_⟩⟩
   cases j with
   | zero =>
    simp at hu; subst hu; rw [Zcf]
    exact h6.cellAt 0 (by omega)
   | succ j => simp at hu
  obtain ⟨A', c', w', hrun, h2, h3, h4, h5⟩ := Zdn (P := Tryz.prog) w 61 o.type 24 i (.slice none 0 0) 1 24 Tryz.underlying61 hi0 hz0 hz1 hz2 rfl (by decide) lo n c0 1 c A0 (some ⟨g, 0, none⟩) _ _ h1 hrv (by intro u hu; simp at hu; subst hu; exact h1c) (by unfold maxLen; omega) (by omega) (Nat.le_trans hlo hw.size)
  unfold sepAt execOp
  simp only [ho, resolve, invoke, builtin, Sem.run_bind, Sem.run_pure, Result.andThen_ok, List.map_toArray, List.map_cons, List.map_nil, hs, hx, hrun]
  exact ⟨⟨A', c', rfl⟩, h2, Alt.of_grown h3 (fun i hi => hi), fun b hb => ⟨(h2.lt b hb).2, by
   rcases h4 with h4 | h4
   ·exact .inr (h4 ▸ hb)
   ·have hb' : (Value.slice A' (n + 1) c').ownBlock = some b := hb
    rw [h4] at hb'; injection hb' with hb'
    exact .inl (by omega)⟩⟩) fun v hv => by
  obtain ⟨A', c', rfl⟩ := hv
  exact h A' c'
end
section
variable {ow : Bool} {zs : List Value} {w w' : World} {lo b bc bn : Nat} {x y n0 n1 : Int} {s : Cs} {k : Nat} {G : Option Nat} {Oa : Option Addr} {oc : Nat} {Ea : Option Addr} {ec : Nat} {Wa : Option Addr} {wc : Nat}
theorem Cp.nexts {m0 m1 : Int} (h : Cp ow zs w lo b bc bn x y n0 n1 s k G Oa oc Ea ec Wa wc) (ka : Alt (fun i => w.heap.size ≤ i ∨ i = bn) w w') (ht : Two w' bn m0 m1) : Cp ow zs w' lo b bc bn x y m0 m1 s k G Oa oc Ea ec Wa wc := by
 have hl := h.lt
 have off : ∀ p g, p ≠ 2 → ([some b, some bc, some bn, G, ob Oa, ob Ea, ob Wa])[p]? = some (some g) → ¬ (w.heap.size ≤ g ∨ g = bn) := fun p g h0 hp hc => by
  rcases hc with hc | rfl
  ·have := hl g (List.mem_of_getElem? hp); omega
  ·exact h.dj p 2 _ h0 hp rfl
 refine ⟨MkO.alt h.mq ka (off 0 b (by decide) rfl) (fun g hg => off 3 g (by decide) (by rw [hg]; rfl)), (h.ou.alt ka fun g hg => off 4 g (by decide) ?_).now, (h.en.alt ka fun g hg => off 5 g (by decide) ?_).now, h.wi.alt ka (fun g hg => off 6 g (by decide) ?_) ?_ (fun q hq _ => hq), h.cs.alt ka (off 1 bc (by decide) rfl), h.fz.alt ka h.lb.2.2.2 (off 1 bc (by decide) rfl), ht, h.dj, h.lb.1, h.lb.2.1, h.lb.2.2.1, Nat.lt_of_lt_of_le h.lb.2.2.2 ka.size⟩
 ·rw [← hg, ob_eq]; rfl
 ·rw [← hg, ob_eq]; rfl
 ·rw [← hg]; rfl
 ·intro q hq hlt hc
  rcases hc with hc | rfl
  ·omega
  ·exact hq (by simp)
theorem Cp.wire (h : Cp ow zs w lo b bc bn x y n0 n1 s k G Oa oc Ea ec Wa wc) {j : Nat} (hj : j < k) :
 ∃ g A d, Wa = some ⟨g, 0, none⟩ ∧ w.cell? ⟨g, j, none⟩ = some (.slice A (gl s.ws j).length d) ∧ RI w A (gl s.ws j).length (gl s.ws j) ∧ g < w.heap.size ∧ ∀ q o, A = some ⟨q, o, none⟩ → some q ∉ [some b, some bc, some bn, G, ob Oa, ob Ea, ob Wa] ∧ q < w.heap.size := by
 obtain ⟨vals, h1, h2, h3⟩ := h.wi
 obtain ⟨g, cap, hv, hgl, hgs⟩ := h1.form (by omega)
 simp only [Value.slice.injEq, true_and] at hv
 obtain ⟨rfl, rfl⟩ := hv
 obtain ⟨A, d, h4, h5, h6, _⟩ := h3 j hj
 exact ⟨g, A, d, rfl, by rw [h1.cellAt j (by omega), h4], h5, hgs, h6⟩
theorem rm_of {A : Option Addr} {n : Nat} {xs : List Int} (h : RI w A n xs) (hA : ∀ q o, A = some ⟨q, o, none⟩ → some q ∉ [some b, some bc, some bn, G, ob Oa, ob Ea, ob Wa] ∧ q < w.heap.size) : RM w b G A n xs :=
 ⟨h, fun hn q o hq => by
  have := (hA q o hq).1
  exact ⟨fun hc => this (by subst hc; simp), fun hc => this (by simp [hc])⟩⟩
end
theorem psL_take {l : List Ln} {ws : List (List Int)} {X : Ln} {j : Nat} (h : j < X.parts.length) : (psL l ws X).take (j + 1) = (psL l ws X).take j ++ [gl ws (sFind l (sx X.parts j)).toNat] := by
 have hl : (psL l ws X).length = X.parts.length := by simp [psL]
 rw [List.take_succ_eq_append_getElem (by omega)]
 congr 2
 simp [psL, sx, h]
theorem Zfj (A : Option Addr) (n c : Nat) (l : List Ln) (w : World) (ha : RLn w A n l) (hn : n ≤ 2097152) (hcap : n ≤ c) (hsh : ∀ x ∈ l, shortL x) :
 Calls Tryz.prog 44 #[.slice A n c] w (RetO w (byO (fun x => decide (x.kind = 6)) l)) := by
 go_enter Tryz.func44, Tryz.ntmps44
 go_wp2_with fail
 refine (widthsBy_any 98 Tryz.call98 #[] (fun x => decide (x.kind = 6)) A n c l _ ha hn hcap hsh (zH fun x P q w1 _ => OutWidths1_any x P q w1)).mono ?_
 rintro e w1 ⟨A1, c1, rfl, hown, hb⟩
 go_wp2
 go_ret2
 exact ⟨A1, c1, rfl, hown, hb⟩
theorem Zbq (A : Option Addr) (n c : Nat) (p : Int) (l : List Ln) (w : World) (ha : RLn w A n l) (hn : n ≤ 2097152) (hcap : n ≤ c) (hsh : ∀ x ∈ l, shortL x) :
 Calls Tryz.prog 27 #[.slice A n c, .int .i64 p] w (RetO w (if inB 0 1 p = true then byO (fun x => decide (x.kind = 1) && decide (x.party = p)) l else none)) := by
 have hB : Below w.heap.size w (w.alloc (.cells #[.int .i64 p] 3)) := bA
 have hc : (w.alloc (.cells #[.int .i64 p] 3)).cell? ⟨w.heap.size, 0, none⟩ = some (.int .i64 p) := Zaf _ _ 0 _ rfl
 cases h : inB 0 1 p with
 | false =>
  have HP := zH h
  rw [if_neg (by simp)]
  clear h
  go_enter Tryz.func27, Tryz.ntmps27
  go_wp2_with fail
  refine (Zcn p _).mono ?_
  rintro e w1 ⟨rfl, rfl⟩
  rw [HP.out]
  go_wp2
  go_ret2
  exact RetO.none_ hB rfl rfl
 | true =>
  have HP := zH h
  rw [if_pos rfl]
  clear h
  go_enter Tryz.func27, Tryz.ntmps27
  go_wp2_with fail
  refine (Zcn p _).mono ?_
  rintro e w1 ⟨rfl, rfl⟩
  rw [HP.out]
  go_wp2_with fail
  refine (widthsBy_any 82 Tryz.call82 #[.pointer (some ⟨w.heap.size, 0, none⟩)] (fun x => decide (x.kind = 1) && decide (x.party = p)) A n c l _ (ha.below hB lR) hn hcap hsh (zH fun x P q w1 hb1 => InputWidths1_any x P q w.heap.size p w1 ((hb1.cell (p := ⟨w.heap.size, 0, none⟩) (by simp)).trans hc))).mono ?_
  rintro e w1 ⟨A1, c1, rfl, hown, hb⟩
  go_wp2
  go_ret2
  exact ⟨A1, c1, rfl, hown.lo_ (by simp), hB.trans (hb.mono hB.size)⟩
theorem RetO.open_some {w w' : World} {xs : List Int} {n : Nat} {e : Ending} (h : RetO w (some xs) e w') (hn : xs.length = n) :
 ∃ A c, e = .returned (.tuple #[.slice A n c, .bool true]) ∧ Own w' w.heap.size w'.heap.size (.slice A n c) n xs ∧ Below w.heap.size w w' := by
 subst hn
 obtain ⟨A, c, h1, h2, h3⟩ := h
 exact ⟨A, c, h1, h2, h3⟩
structure Lst (ow : Bool) (w : World) (lo : Nat) (bl : List (Option Nat)) (R : Option Addr) (rc : Nat) (os : List Int) : Prop where
 rd : RI w R os.length os
 off : ∀ q o, R = some ⟨q, o, none⟩ → some q ∉ bl ∧ q < w.heap.size
 own : ow = true → Own w lo w.heap.size (.slice R os.length rc) os.length os
 low : ∀ q o, R = some ⟨q, o, none⟩ → lo ≤ q
theorem Lst.ofOwn {ow : Bool} {w : World} {lo S : Nat} {bl : List (Option Nat)} {R : Option Addr} {rc n : Nat} {os : List Int} (h : Own w S w.heap.size (.slice R n rc) n os) (hS : ∀ g, some g ∈ bl → g < S) (hl : lo ≤ S) : Lst ow w lo bl R rc os := by
 have hn := h.len
 subst hn
 refine ⟨h.reads, fun q o hq => ?_, fun _ => h.lo_ hl, fun q o hq => by have := h.lt q (by rw [ob_eq, hq]; rfl); omega⟩
 have := h.lt q (by rw [ob_eq, hq]; rfl)
 exact ⟨fun hc => by have := hS q hc; omega, this.2.2⟩
section
variable {ow : Bool} {zs : List Value} {w w' : World} {lo b bc bn : Nat} {x y n0 n1 : Int} {s : Cs} {k : Nat} {G : Option Nat} {Oa : Option Addr} {oc : Nat} {Ea : Option Addr} {ec : Nat} {Wa : Option Addr} {wc : Nat}
theorem Lst.outs {R O' : Option Addr} {rc n' c' : Nat} {l : List Int} {w1 : World} (h : Lst ow w lo [some b, some bc, some bn, G, ob Oa, ob Ea, ob Wa] R rc l) (hg : w.grownBy w1 (Value.slice Oa s.os.length oc).ownBlock)
 (hat : (Value.slice O' n' c').ownBlock = (Value.slice Oa s.os.length oc).ownBlock ∨ (Value.slice O' n' c').ownBlock = some w.heap.size) (v : Value) :
 Lst ow (w1.setCell ⟨b, 3, none⟩ v) lo [some b, some bc, some bn, G, ob O', ob Ea, ob Wa] R rc l := by
 rw [ob_eq, ob_eq] at hat
 rw [ob_eq] at hg
 have k1 : Alt (fun i => ob Oa = some i) w w1 := Alt.of_grown hg fun _ h => h
 have ka : Alt (fun i => i = b ∨ ob Oa = some i) w (w1.setCell ⟨b, 3, none⟩ v) := (k1.mono_ fun _ _ h => .inr h).set_ _ _ (fun _ => .inl rfl)
 have ho : ob O' = ob Oa ∨ ob O' = none ∨ ∃ n, ob O' = some n ∧ w.heap.size ≤ n := by
  rcases hat with h1 | h1
  ·exact .inl h1
  ·exact .inr (.inr ⟨_, h1, Nat.le_refl _⟩)
 have hS : ∀ q, some q ∉ [some b, some bc, some bn, G, ob Oa, ob Ea, ob Wa] → ¬ (q = b ∨ ob Oa = some q) := fun q hq hc => by
  rcases hc with rfl | hc
  ·exact hq (by simp)
  ·exact hq (by simp [hc])
 exact ⟨h.rd.alt ka (fun _ q o hq => hS q (h.off q o hq).1), fun q o hq => ⟨notin_upd (i := 4) (a := ob Oa) (h.off q o hq).1 rfl (h.off q o hq).2 ho, Nat.lt_of_lt_of_le (h.off q o hq).2 ka.size⟩, fun hw => Zez ka (h.own hw) (fun q o hq => hS q (h.off q o hq).1), h.low⟩
theorem Cp.cell3 (h : Cp ow zs w lo b bc bn x y n0 n1 s k G Oa oc Ea ec Wa wc) : w.cell? ⟨b, 3, none⟩ = some (.slice Oa s.os.length oc) ∧ w.frozen? ⟨b, 3, none⟩ = false := by
 obtain ⟨_, _, hf, Ag, cg, hx, _⟩ := h.mq
 exact ⟨hx.2.2.2, hf 3⟩
theorem Cp.cell2 (h : Cp ow zs w lo b bc bn x y n0 n1 s k G Oa oc Ea ec Wa wc) : ∃ Ag cg, w.cell? ⟨b, 2, none⟩ = some (.slice Ag s.g.length cg) := by
 obtain ⟨_, _, hf, Ag, cg, hx, _⟩ := h.mq
 exact ⟨Ag, cg, hx.2.2.1⟩
theorem Cp.cell3_grown {w1 : World} (h : Cp ow zs w lo b bc bn x y n0 n1 s k G Oa oc Ea ec Wa wc) (hg : w.grownBy w1 (Value.slice Oa s.os.length oc).ownBlock) : w1.cell? ⟨b, 3, none⟩ = some (.slice Oa s.os.length oc) ∧ w1.frozen? ⟨b, 3, none⟩ = false := by
 rw [ob_eq] at hg
 have hne : ob Oa ≠ some b := fun hc => h.dj 4 0 b (by decide) (by rw [← hc]; rfl) rfl
 obtain ⟨h1, h2⟩ := h.cell3
 exact ⟨Zep h1 hg hne, (World.frozen?_of_block (w := w) (a := ⟨b, 3, none⟩) (hg.block b h.mq.1 (fun e => hne e.symm))).trans h2⟩
theorem Cp.ne (h : Cp ow zs w lo b bc bn x y n0 n1 s k G Oa oc Ea ec Wa wc) : ob Wa ≠ some bc ∧ ob Wa ≠ some b ∧ ob Ea ≠ some bc ∧ ob Ea ≠ some b ∧ (∀ g, ob Wa = some g → ob Ea ≠ some g) ∧ b ≠ bc :=
 ⟨fun hc => h.dj 6 1 bc (by decide) (by rw [← hc]; rfl) rfl, fun hc => h.dj 6 0 b (by decide) (by rw [← hc]; rfl) rfl, fun hc => h.dj 5 1 bc (by decide) (by rw [← hc]; rfl) rfl, fun hc => h.dj 5 0 b (by decide) (by rw [← hc]; rfl) rfl, fun g hg hc => h.dj 6 5 g (by decide) (by rw [← hg]; rfl) (by rw [← hc]; rfl), fun hc => by subst hc; exact h.dj 0 1 b (by decide) rfl rfl⟩
end
theorem Wi.lo_ {ow : Bool} {w : World} {lo lo' n c : Nat} {bl : List (Option Nat)} {A : Option Addr} {xss : List (List Int)} (h : Wi w lo ow bl A c n xss) (hl : lo' ≤ lo) : Wi w lo' ow bl A c n xss := by
 obtain ⟨vals, h1, h2, h3⟩ := h
 refine ⟨vals, ⟨h1.1, ?_⟩, h2, fun j hj => ?_⟩
 ·rcases h1.2 with h4 | ⟨g, cap, cur, hv, hlo, r⟩
  ·exact .inl h4
  ·exact .inr ⟨g, cap, cur, hv, Nat.le_trans hl hlo, r⟩
 ·obtain ⟨P, d, h4, h5, h6, h7, h8⟩ := h3 j hj
  exact ⟨P, d, h4, h5, h6, fun ho => (h7 ho).lo_ hl, fun q o hq => Nat.le_trans hl (h8 q o hq)⟩
theorem Wi.alt2 {ow : Bool} {w w' : World} {lo n c b0 b1 : Nat} {bl : List (Option Nat)} {A : Option Addr} {xss : List (List Int)} (h : Wi w lo ow bl A c n xss) (k : Alt (fun i => i = b1 ∨ i = b0) w w') (hA : ∀ g, ob A = some g → ¬ (g = b1 ∨ g = b0)) (h1 : some b1 ∈ bl) (h0 : b0 < lo) : Wi w' lo ow bl A c n xss := by
 obtain ⟨vals, h2, h3, h4⟩ := h
 refine ⟨vals, Zav h2 k (fun g hg => hA g (by rw [← hg, ob_eq])), h3, fun j hj => ?_⟩
 obtain ⟨P, d, h5, h6, h7, h8, h9⟩ := h4 j hj
 have hS : ∀ q o, P = some ⟨q, o, none⟩ → ¬ (q = b1 ∨ q = b0) := fun q o hP hc => by
  rcases hc with rfl | rfl
  ·exact (h7 q o hP).1 h1
  ·have := h9 q o hP; omega
 exact ⟨P, d, h5, h6.alt k (fun _ q o hP => hS q o hP), fun q o hP => ⟨(h7 q o hP).1, Nat.lt_of_lt_of_le (h7 q o hP).2 k.size⟩, fun ho => Zez k (h8 ho) hS, h9⟩
theorem sx_memW {ps : List Str} {k : Nat} (h : k < ps.length) : sx ps k ∈ ps := by
 have : sx ps k = ps[k] := by simp [sx, h]
 rw [this]; exact List.getElem_mem h
theorem dj3 (b : Nat) : Dj [some b, some (b + 1), some (b + 2), none, none, none, none] := by
 have H : ∀ i g, ([some b, some (b + 1), some (b + 2), none, none, none, none] : List (Option Nat))[i]? = some (some g) → (i = 0 ∧ g = b) ∨ (i = 1 ∧ g = b + 1) ∨ (i = 2 ∧ g = b + 2) := by
  intro i g h
  match i, h with
  | 0, h => simp at h; exact .inl ⟨rfl, h.symm⟩
  | 1, h => simp at h; exact .inr (.inl ⟨rfl, h.symm⟩)
  | 2, h => simp at h; exact .inr (.inr ⟨rfl, h.symm⟩)
  | 3, h => simp at h
  | 4, h => simp at h
  | 5, h => simp at h
  | 6, h => simp at h
  | n + 7, h => simp at h
 intro i j g hij h1 h2
 have := H i g h1
 have := H j g h2
 omega
theorem Cp.start {ow : Bool} {zs : List Value} {w : World} {x y : Int} {B : Nat} (hB : w.heap.size = B + 3) (hm : MkO w B B x y none 0 0 [] none) (hc : CellsAt w (B + 1) 0 (zs ++ [.slice none 0 0, .slice none 0 0])) (hf : Fz w (B + 1)) (ht : Two w (B + 2) 0 x) :
 Cp ow zs w B B (B + 1) (B + 2) x y 0 x ⟨[], [], [], []⟩ 0 none none 0 none 0 none 0 :=
 ⟨hm, Own.none_ _ _ _, Own.none_ _ _ _, ⟨[], World.ownsRow_nil w B _ _, rfl, fun j hj => by omega⟩, hc, hf, ht, dj3 B, by omega, by omega, by omega, by omega⟩
def RetCp (w : World) (l : List Ln) (e : Ending) (w' : World) : Prop :=
 ∃ Ag cg Oa oc Ea ec Wa wc bl, e = .returned (.agg #[.int .i64 (sumI (insL l 0)), .int .i64 (sumI (insL l 1)), .slice Ag (cS l (sumI (insL l 0)) (sumI (insL l 1)) l.length).g.length cg, .slice Oa (cS l (sumI (insL l 0)) (sumI (insL l 1)) l.length).os.length oc, .slice Wa l.length wc, .slice Ea l.length ec]) ∧
  OwnC w' w.heap.size w'.heap.size Ag (cS l (sumI (insL l 0)) (sumI (insL l 1)) l.length).g.length cg Oa (cS l (sumI (insL l 0)) (sumI (insL l 1)) l.length).os.length oc (cS l (sumI (insL l 0)) (sumI (insL l 1)) l.length).g (cS l (sumI (insL l 0)) (sumI (insL l 1)) l.length).os ∧
  Own w' w.heap.size w'.heap.size (.slice Ea l.length ec) l.length (cS l (sumI (insL l 0)) (sumI (insL l 1)) l.length).es ∧ Wi w' w.heap.size true bl Wa wc l.length (cS l (sumI (insL l 0)) (sumI (insL l 1)) l.length).ws ∧ Below w.heap.size w w'
theorem goodP_sums {l : List Ln} (h : goodP l) : (0 ≤ sumI (insL l 0) ∧ sumI (insL l 0) ≤ 20) ∧ (0 ≤ sumI (insL l 1) ∧ sumI (insL l 1) ≤ 20) := by
 have b0 : ∀ p, 0 ≤ sumI (insL l p) := fun p => by
  have := Zeb (M := 1024) (fun z hz => by have := Zbz h.2.1 p z hz; omega) (insL l p).length lR
  rw [List.take_of_length_le lR] at this
  exact this.1
 exact ⟨⟨b0 0, h.2.2.1⟩, b0 1, h.2.2.2.1⟩
end Go.Proofs.YtenknpcbbcbciaaGreat
