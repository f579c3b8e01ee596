/- Drawn regions once more: what an operation uses up may be read by those that come ahead of it. No condition. -/
import Derived.Test.YtenknpcbbcbciaaGreatQR36
namespace Go.Proofs.YtenknpcbbcbciaaGreat
open Go.RowKit
set_option linter.unusedVariables false
set_option linter.unusedSimpArgs false
theorem Zfc (A : Option Addr) (n c : Nat) (l : List Ln) (w : World) (ha : RLn w A n l) (hn : n ≤ 2097152) (hcap : n ≤ c) (hsh : ∀ x ∈ l, shortL x) :
 Calls Tryz.prog 44 #[.slice A n c] w (RetO w (byO (fun x => decide (x.kind = 6)) l)) := by
 go_enter Tryz.func44, Tryz.ntmps44
 go_wp2_with fail
 refine (widthsBy_any 98 Tryz.call98 #[] (fun x => decide (x.kind = 6)) A n c l _ ha hn hcap hsh (zH fun x P q w1 _ => OutWidths1_any x P q w1)).mono ?_
 rintro e w1 ⟨A1, c1, rfl, hown, hb⟩
 go_wp2
 go_ret2
 exact ⟨A1, c1, rfl, hown, hb⟩
theorem Zbg (A : Option Addr) (n c : Nat) (p : Int) (l : List Ln) (w : World) (ha : RLn w A n l) (hn : n ≤ 2097152) (hcap : n ≤ c) (hsh : ∀ x ∈ l, shortL x) :
 Calls Tryz.prog 27 #[.slice A n c, .int .i64 p] w (RetO w (if inB 0 1 p = true then byO (fun x => decide (x.kind = 1) && decide (x.party = p)) l else none)) := by
 have hB : Below w.heap.size w (w.alloc (.cells #[.int .i64 p] 3)) := bA
 have hc : (w.alloc (.cells #[.int .i64 p] 3)).cell? ⟨w.heap.size, 0, none⟩ = some (.int .i64 p) := Zae _ _ 0 _ rfl
 cases h : inB 0 1 p with
 | false =>
  have HP := zH h
  rw [if_neg (by simp)]
  clear h
  go_enter Tryz.func27, Tryz.ntmps27
  go_wp2_with fail
  refine (Zbz p _).mono ?_
  rintro e w1 ⟨rfl, rfl⟩
  rw [HP.out]
  go_wp2
  go_ret2
  exact RetO.none_ hB rfl rfl
 | true =>
  have HP := zH h
  rw [if_pos rfl]
  clear h
  go_enter Tryz.func27, Tryz.ntmps27
  go_wp2_with fail
  refine (Zbz p _).mono ?_
  rintro e w1 ⟨rfl, rfl⟩
  rw [HP.out]
  go_wp2_with fail
  refine (widthsBy_any 82 Tryz.call82 #[.pointer (some ⟨w.heap.size, 0, none⟩)] (fun x => decide (x.kind = 1) && decide (x.party = p)) A n c l _ (ha.below hB lR) hn hcap hsh (zH fun x P q w1 hb1 => InputWidths1_any x P q w.heap.size p w1 ((hb1.cell (p := ⟨w.heap.size, 0, none⟩) (by simp)).trans hc))).mono ?_
  rintro e w1 ⟨A1, c1, rfl, hown, hb⟩
  go_wp2
  go_ret2
  exact ⟨A1, c1, rfl, hown.lo_ (by simp), hB.trans (hb.mono hB.size)⟩
theorem RetO.open_some {w w' : World} {xs : List Int} {n : Nat} {e : Ending} (h : RetO w (some xs) e w') (hn : xs.length = n) :
 ∃ A c, e = .returned (.tuple #[.slice A n c, .bool true]) ∧ Own w' w.heap.size w'.heap.size (.slice A n c) n xs ∧ Below w.heap.size w w' := by
 subst hn
 obtain ⟨A, c, h1, h2, h3⟩ := h
 exact ⟨A, c, h1, h2, h3⟩
structure Lst (ow : Bool) (w : World) (lo : Nat) (bl : List (Option Nat)) (R : Option Addr) (rc : Nat) (os : List Int) : Prop where
 rd : RI w R os.length os
 off : ∀ q o, R = some ⟨q, o, none⟩ → some q ∉ bl ∧ q < w.heap.size
 own : ow = true → Own w lo w.heap.size (.slice R os.length rc) os.length os
 low : ∀ q o, R = some ⟨q, o, none⟩ → lo ≤ q
theorem Lst.ofOwn {ow : Bool} {w : World} {lo S : Nat} {bl : List (Option Nat)} {R : Option Addr} {rc n : Nat} {os : List Int} (h : Own w S w.heap.size (.slice R n rc) n os) (hS : ∀ g, some g ∈ bl → g < S) (hl : lo ≤ S) : Lst ow w lo bl R rc os := by
 have hn := h.len
 subst hn
 refine ⟨h.reads, fun q o hq => ?_, fun _ => h.lo_ hl, fun q o hq => by have := h.lt q (by rw [ob_eq, hq]; rfl); omega⟩
 have := h.lt q (by rw [ob_eq, hq]; rfl)
 exact ⟨fun hc => by have := hS q hc; omega, this.2.2⟩
section
variable {ow : Bool} {zs : List Value} {w w' : World} {lo b bc bn : Nat} {x y n0 n1 : Int} {s : Cs} {k : Nat} {G : Option Nat} {Oa : Option Addr} {oc : Nat} {Ea : Option Addr} {ec : Nat} {Wa : Option Addr} {wc : Nat}
theorem Lst.outs {R O' : Option Addr} {rc n' c' : Nat} {l : List Int} {w1 : World} (h : Lst ow w lo [some b, some bc, some bn, G, ob Oa, ob Ea, ob Wa] R rc l) (hg : w.grownBy w1 (Value.slice Oa s.os.length oc).ownBlock)
 (hat : (Value.slice O' n' c').ownBlock = (Value.slice Oa s.os.length oc).ownBlock ∨ (Value.slice O' n' c').ownBlock = some w.heap.size) (v : Value) :
 Lst ow (w1.setCell ⟨b, 3, none⟩ v) lo [some b, some bc, some bn, G, ob O', ob Ea, ob Wa] R rc l := by
 rw [ob_eq, ob_eq] at hat
 rw [ob_eq] at hg
 have k1 : Alt (fun i => ob Oa = some i) w w1 := Alt.of_grown hg fun _ h => h
 have ka : Alt (fun i => i = b ∨ ob Oa = some i) w (w1.setCell ⟨b, 3, none⟩ v) := (k1.mono_ fun _ _ h => .inr h).set_ _ _ (fun _ => .inl rfl)
 have ho : ob O' = ob Oa ∨ ob O' = none ∨ ∃ n, ob O' = some n ∧ w.heap.size ≤ n := by
  rcases hat with h1 | h1
  ·exact .inl h1
  ·exact .inr (.inr ⟨_, h1, Nat.le_refl _⟩)
 have hS : ∀ q, some q ∉ [some b, some bc, some bn, G, ob Oa, ob Ea, ob Wa] → ¬ (q = b ∨ ob Oa = some q) := fun q hq hc => by
  rcases hc with rfl | hc
  ·exact hq (by simp)
  ·exact hq (by simp [hc])
 exact ⟨h.rd.alt ka (fun _ q o hq => hS q (h.off q o hq).1), fun q o hq => ⟨notin_upd (i := 4) (a := ob Oa) (h.off q o hq).1 rfl (h.off q o hq).2 ho, Nat.lt_of_lt_of_le (h.off q o hq).2 ka.size⟩, fun hw => Zeu ka (h.own hw) (fun q o hq => hS q (h.off q o hq).1), h.low⟩
theorem Cp.cell3 (h : Cp ow zs w lo b bc bn x y n0 n1 s k G Oa oc Ea ec Wa wc) : w.cell? ⟨b, 3, none⟩ = some (.slice Oa s.os.length oc) ∧ w.frozen? ⟨b, 3, none⟩ = false := by
 obtain ⟨_, _, hf, Ag, cg, hx, _⟩ := h.mq
 exact ⟨hx.2.2.2, hf 3⟩
theorem Cp.cell2 (h : Cp ow zs w lo b bc bn x y n0 n1 s k G Oa oc Ea ec Wa wc) : ∃ Ag cg, w.cell? ⟨b, 2, none⟩ = some (.slice Ag s.g.length cg) := by
 obtain ⟨_, _, hf, Ag, cg, hx, _⟩ := h.mq
 exact ⟨Ag, cg, hx.2.2.1⟩
theorem Cp.cell3_grown {w1 : World} (h : Cp ow zs w lo b bc bn x y n0 n1 s k G Oa oc Ea ec Wa wc) (hg : w.grownBy w1 (Value.slice Oa s.os.length oc).ownBlock) : w1.cell? ⟨b, 3, none⟩ = some (.slice Oa s.os.length oc) ∧ w1.frozen? ⟨b, 3, none⟩ = false := by
 rw [ob_eq] at hg
 have hne : ob Oa ≠ some b := fun hc => h.dj 4 0 b (by decide) (by rw [← hc]; rfl) rfl
 obtain ⟨h1, h2⟩ := h.cell3
 exact ⟨Zen h1 hg hne, (World.frozen?_of_block (w := w) (a := ⟨b, 3, none⟩) (hg.block b h.mq.1 (fun e => hne e.symm))).trans h2⟩
theorem Cp.ne (h : Cp ow zs w lo b bc bn x y n0 n1 s k G Oa oc Ea ec Wa wc) : ob Wa ≠ some bc ∧ ob Wa ≠ some b ∧ ob Ea ≠ some bc ∧ ob Ea ≠ some b ∧ (∀ g, ob Wa = some g → ob Ea ≠ some g) ∧ b ≠ bc :=
 ⟨fun hc => h.dj 6 1 bc (by decide) (by rw [← hc]; rfl) rfl, fun hc => h.dj 6 0 b (by decide) (by rw [← hc]; rfl) rfl, fun hc => h.dj 5 1 bc (by decide) (by rw [← hc]; rfl) rfl, fun hc => h.dj 5 0 b (by decide) (by rw [← hc]; rfl) rfl, fun g hg hc => h.dj 6 5 g (by decide) (by rw [← hg]; rfl) (by rw [← hc]; rfl), fun hc => by subst hc; exact h.dj 0 1 b (by decide) rfl rfl⟩
end
theorem Wi.lo_ {ow : Bool} {w : World} {lo lo' n c : Nat} {bl : List (Option Nat)} {A : Option Addr} {xss : List (List Int)} (h : Wi w lo ow bl A c n xss) (hl : lo' ≤ lo) : Wi w lo' ow bl A c n xss := by
 obtain ⟨vals, h1, h2, h3⟩ := h
 refine ⟨vals, ⟨h1.1, ?_⟩, h2, fun j hj => ?_⟩
 ·rcases h1.2 with h4 | ⟨g, cap, cur, hv, hlo, r⟩
  ·exact .inl h4
  ·exact .inr ⟨g, cap, cur, hv, Nat.le_trans hl hlo, r⟩
 ·obtain ⟨P, d, h4, h5, h6, h7, h8⟩ := h3 j hj
  exact ⟨P, d, h4, h5, h6, fun ho => (h7 ho).lo_ hl, fun q o hq => Nat.le_trans hl (h8 q o hq)⟩
theorem Wi.alt2 {ow : Bool} {w w' : World} {lo n c b0 b1 : Nat} {bl : List (Option Nat)} {A : Option Addr} {xss : List (List Int)} (h : Wi w lo ow bl A c n xss) (k : Alt (fun i => i = b1 ∨ i = b0) w w') (hA : ∀ g, ob A = some g → ¬ (g = b1 ∨ g = b0)) (h1 : some b1 ∈ bl) (h0 : b0 < lo) : Wi w' lo ow bl A c n xss := by
 obtain ⟨vals, h2, h3, h4⟩ := h
 refine ⟨vals, Zau h2 k (fun g hg => hA g (by rw [← hg, ob_eq])), h3, fun j hj => ?_⟩
 obtain ⟨P, d, h5, h6, h7, h8, h9⟩ := h4 j hj
 have hS : ∀ q o, P = some ⟨q, o, none⟩ → ¬ (q = b1 ∨ q = b0) := fun q o hP hc => by
  rcases hc with rfl | rfl
  ·exact (h7 q o hP).1 h1
  ·have := h9 q o hP; omega
 exact ⟨P, d, h5, h6.alt k (fun _ q o hP => hS q o hP), fun q o hP => ⟨(h7 q o hP).1, Nat.lt_of_lt_of_le (h7 q o hP).2 k.size⟩, fun ho => Zeu k (h8 ho) hS, h9⟩
theorem sx_memW {ps : List Str} {k : Nat} (h : k < ps.length) : sx ps k ∈ ps := by
 have : sx ps k = ps[k] := by simp [sx, h]
 rw [this]; exact List.getElem_mem h
theorem dj3 (b : Nat) : Dj [some b, some (b + 1), some (b + 2), none, none, none, none] := by
 have H : ∀ i g, ([some b, some (b + 1), some (b + 2), none, none, none, none] : List (Option Nat))[i]? = some (some g) → (i = 0 ∧ g = b) ∨ (i = 1 ∧ g = b + 1) ∨ (i = 2 ∧ g = b + 2) := by
  intro i g h
  match i, h with
  | 0, h => simp at h; exact .inl ⟨rfl, h.symm⟩
  | 1, h => simp at h; exact .inr (.inl ⟨rfl, h.symm⟩)
  | 2, h => simp at h; exact .inr (.inr ⟨rfl, h.symm⟩)
  | 3, h => simp at h
  | 4, h => simp at h
  | 5, h => simp at h
  | 6, h => simp at h
  | n + 7, h => simp at h
 intro i j g hij h1 h2
 have := H i g h1
 have := H j g h2
 omega
theorem Cp.start {ow : Bool} {zs : List Value} {w : World} {x y : Int} {B : Nat} (hB : w.heap.size = B + 3) (hm : MkO w B B x y none 0 0 [] none) (hc : CellsAt w (B + 1) 0 (zs ++ [.slice none 0 0, .slice none 0 0])) (hf : Fz w (B + 1)) (ht : Two w (B + 2) 0 x) :
 Cp ow zs w B B (B + 1) (B + 2) x y 0 x ⟨[], [], [], []⟩ 0 none none 0 none 0 none 0 :=
 ⟨hm, Own.none_ _ _ _, Own.none_ _ _ _, ⟨[], World.ownsRow_nil w B _ _, rfl, fun j hj => by omega⟩, hc, hf, ht, dj3 B, by omega, by omega, by omega, by omega⟩
def RetCp (w : World) (l : List Ln) (e : Ending) (w' : World) : Prop :=
 ∃ Ag cg Oa oc Ea ec Wa wc bl, e = .returned (.agg #[.int .i64 (sumI (insL l 0)), .int .i64 (sumI (insL l 1)), .slice Ag (cS l (sumI (insL l 0)) (sumI (insL l 1)) l.length).g.length cg, .slice Oa (cS l (sumI (insL l 0)) (sumI (insL l 1)) l.length).os.length oc, .slice Wa l.length wc, .slice Ea l.length ec]) ∧
  OwnC w' w.heap.size w'.heap.size Ag (cS l (sumI (insL l 0)) (sumI (insL l 1)) l.length).g.length cg Oa (cS l (sumI (insL l 0)) (sumI (insL l 1)) l.length).os.length oc (cS l (sumI (insL l 0)) (sumI (insL l 1)) l.length).g (cS l (sumI (insL l 0)) (sumI (insL l 1)) l.length).os ∧
  Own w' w.heap.size w'.heap.size (.slice Ea l.length ec) l.length (cS l (sumI (insL l 0)) (sumI (insL l 1)) l.length).es ∧ Wi w' w.heap.size true bl Wa wc l.length (cS l (sumI (insL l 0)) (sumI (insL l 1)) l.length).ws ∧ Below w.heap.size w w'
theorem goodP_sums {l : List Ln} (h : goodP l) : (0 ≤ sumI (insL l 0) ∧ sumI (insL l 0) ≤ 20) ∧ (0 ≤ sumI (insL l 1) ∧ sumI (insL l 1) ≤ 20) := by
 have b0 : ∀ p, 0 ≤ sumI (insL l p) := fun p => by
  have := Zcu (M := 1024) (fun z hz => by have := Zbq h.2.1 p z hz; omega) (insL l p).length lR
  rw [List.take_of_length_le lR] at this
  exact this.1
 exact ⟨⟨b0 0, h.2.2.1⟩, b0 1, h.2.2.2.1⟩
def goodBC (md : Region.Mode) (ops : Array Oper) (sk : List (Nat × List Nat × List Nat)) (inits fin : List Nat) : Bool :=
 sk.all (fun e => decide (e.1 < ops.size) &&
  e.2.1.all (fun d => inits.contains d || (effB sk d && ancB md ops ops.size e.1 d)) &&
  e.2.2.all (fun d => e.2.1.contains d && sk.all fun e' => e'.1 == e.1 || !e'.2.1.contains d || ancB md ops ops.size e.1 e'.1)) &&
 inits.all (fun d => decide (ops.size ≤ d)) &&
 fin.all (fun d => (inits.contains d || effB sk d) && sk.all fun e => !e.2.2.contains d)
structure GoodSC (md : Region.Mode) (ops : Array Oper) (sk : List (Nat × List Nat × List Nat)) (inits fin : List Nat) : Prop where
 deps : ∀ k d, d ∈ depsL sk k → d ∈ inits ∨ (effB sk d = true ∧ ancB md ops ops.size k d = true)
 cons : ∀ k d, d ∈ consL sk k → d ∈ depsL sk k ∧ effB sk k = true ∧ ∀ j, j ≠ k → d ∈ depsL sk j → ancB md ops ops.size k j = true
 ini : ∀ d ∈ inits, ops.size ≤ d
 lt : ∀ k, effB sk k = true → k < ops.size
 fi : ∀ d ∈ fin, (d ∈ inits ∨ effB sk d = true) ∧ ∀ k, d ∉ consL sk k
theorem goodS_ofC {md : Region.Mode} {ops : Array Oper} {sk : List (Nat × List Nat × List Nat)} {inits fin : List Nat} (h : goodBC md ops sk inits fin = true) : GoodSC md ops sk inits fin := by
 simp only [goodBC, Bool.and_eq_true, List.all_eq_true, Bool.or_eq_true, Bool.not_eq_true', List.contains_eq_mem, decide_eq_true_eq, decide_eq_false_iff_not, beq_iff_eq] at h
 obtain ⟨⟨h1, h2⟩, h3⟩ := h
 refine ⟨fun k d hd => ?_, fun k d hd => ?_, h2, fun k he => ?_, fun d hd => ?_⟩
 ·obtain ⟨e, hm, rfl, hde⟩ := Zdi hd
  exact (h1 e hm).1.2 d hde
 ·unfold consL at hd
  cases hf : sk.find? fun e => e.1 == k with
  | none => rw [hf] at hd; simp at hd
  | some e =>
   rw [hf] at hd
   obtain ⟨hm, rfl⟩ := find_mem hf
   have hd' : d ∈ e.2.2 := by simpa using hd
   obtain ⟨q1, q2⟩ := (h1 e hm).2 d hd'
   refine ⟨by unfold depsL; rw [hf]; simpa using q1, by simp only [effB, List.any_eq_true, beq_iff_eq]; exact ⟨e, hm, rfl⟩, fun j hj hdj => ?_⟩
   obtain ⟨e', hm', rfl, hde'⟩ := Zdi hdj
   rcases q2 e' hm' with (h | h) | h
   ·exact (hj h).elim
   ·exact (h hde').elim
   ·exact h
 ·simp only [effB, List.any_eq_true, beq_iff_eq] at he
  obtain ⟨e, hm, rfl⟩ := he
  exact (h1 e hm).1.1
 ·obtain ⟨q1, q2⟩ := h3 d hd
  refine ⟨q1, fun k hc => ?_⟩
  unfold consL at hc
  cases hf : sk.find? fun e => e.1 == k with
  | none => rw [hf] at hc; simp at hc
  | some e => rw [hf] at hc; exact q2 e (find_mem hf).1 (by simpa using hc)
section
variable {P : Program} {ops : Array Oper} {md : Region.Mode} {s : Sep}
theorem anySep_firstC {n : Nat} {L : Act → (Nat → Value) → Prop} (g : GoodSC md ops s.sk s.inits s.fin) (hv : ∀ k ds, ∃ v, s.vals k ds v) (hC : ∃ w, s.C w) {i : Nat} {oi : Oper} (hi : ops[i]? = some oi) (hin : i < n) (hsel : ∀ (j : Nat) (o : Oper) cs b, ops[j]? = some o → o.op ≠ .select cs b) :
 ∀ (fuel : Nat) (listed : Array Bool) (a : Act) (ρ : Nat → Value), ClosedL md ops listed →
  (∀ j oj, ops[j]? = some oj → j ≠ i → listed.getD j true = false → (∀ e ∈ oj.after, Region.binds md e = true → e.on ≠ i) → oi.apart ops oj = true) →
  i ∈ Region.ready md ops listed → sepOp s P ops i (anySep s P md ops n L fuel (listed.setIfInBounds i true)) a ρ → anySep s P md ops n L (fuel + 1) listed a ρ := by
 have unl : ∀ {listed : Array Bool} {i : Nat}, i ∈ Region.ready md ops listed → listed.getD i false = true → False := fun {listed i} hr h1 => by
  have h0 := (mem_ready.1 hr).1
  rcases Nat.lt_or_ge i listed.size with h' | h'
  ·simp [h'] at h0 h1; rw [h0] at h1; cases h1
  ·simp [Array.getElem?_eq_none h'] at h1
 have nodep : ∀ {listed : Array Bool} {i j : Nat}, ClosedL md ops listed → i ∈ Region.ready md ops listed → j ∈ Region.ready md ops listed → i ∉ depsL s.sk j := fun {listed i j} hc hr hj hd => by
  rcases g.deps j i hd with h | ⟨_, h⟩
  ·obtain ⟨_, o, ho, _⟩ := mem_ready.1 hr
   have := g.ini i h
   have := (Array.getElem?_eq_some_iff.1 ho).1
   omega
  ·obtain ⟨_, o, ho, hall⟩ := mem_ready.1 hj
   exact unl hr (Zaw hc _ j i (fun o' ho' e he hb => by rw [ho] at ho'; injection ho' with ho'; subst ho'; exact hall e he hb) h)
 have nodep2 : ∀ {listed : Array Bool} {i j : Nat}, ClosedL md ops listed → i ∈ Region.ready md ops listed → j ∈ Region.ready md ops listed → ∀ d ∈ depsL s.sk j, i ∉ depsL s.sk d := fun {listed i j} hc hr hj d hd hid => by
  obtain ⟨_, oi', hoi', _⟩ := mem_ready.1 hr
  have hlt := (Array.getElem?_eq_some_iff.1 hoi').1
  rcases g.deps j d hd with h | ⟨_, h⟩
  ·have h1 := g.ini d h
   obtain ⟨e, he, h2, _⟩ := Zdi hid
   have h3 := g.lt d (by simp only [effB, List.any_eq_true, beq_iff_eq]; exact ⟨e, he, h2⟩)
   omega
  ·obtain ⟨_, o, ho, hall⟩ := mem_ready.1 hj
   have hdl := Zaw hc _ j d (fun o' ho' e he hb => by rw [ho] at ho'; injection ho' with ho'; subst ho'; exact hall e he hb) h
   rcases g.deps d i hid with h' | ⟨_, h'⟩
   ·have := g.ini i h'; omega
   ·exact unl hr (Zaw hc _ d i (fun o' ho' e he hb => hc d o' ho' hdl e he hb) h')
 intro fuel
 induction fuel with
 | zero =>
  intro listed a ρ hc _ hr H
  refine ⟨fun h => absurd (h i hr) (by omega), fun j hj hjn => ?_⟩
  by_cases hji : j = i
  ·subst hji; exact H
  ·exfalso
   have hn := ready_mono hj hji
   have hz : ∀ a ρ, anySep s P md ops n L 0 (listed.setIfInBounds i true) a ρ → False := fun a ρ h => by have := h.1 j hn; omega
   rw [Zbh hi] at H
   unfold sepNode at H
   split at H
   ·obtain ⟨v0, hv0⟩ := hv i (s.dv ρ i); exact hz _ _ (H.2.2 v0 hv0)
   ·split at H
    ·obtain ⟨v, _, h⟩ := H; exact hz _ _ h
    ·exact hz _ _ H
 | succ fuel ih =>
  intro listed a ρ hc hfree hr H
  refine ⟨fun h => absurd (h i hr) (by omega), fun j hj hjn => ?_⟩
  by_cases hji : j = i
  ·subst hji; exact H
  ·obtain ⟨hjun, oj, hoj, hall⟩ := mem_ready.1 hj
   have hnot : ∀ e ∈ oj.after, Region.binds md e = true → e.on ≠ i := fun e he hb heq => unl hr (heq ▸ hall e he hb)
   have hij := nodep hc hr hj
   have hdij := nodep hc hj hr
   have h1 : sepNode s P ops i oi (fun a ρ => sepNode s P ops j oj (anySep s P md ops n L fuel ((listed.setIfInBounds i true).setIfInBounds j true)) a ρ) a ρ := by
    rw [Zbh hi] at H
    exact Zbw (fun a' ρ' h' => by have := h'.2 j (ready_mono hj hji) hjn; rwa [Zbh hoj] at this) H
   have h2 := sepNode_swap (Ne.symm hji) (hfree j oj hoj hji hjun hnot) (fun cs b => hsel i oi cs b hi) (fun cs b => hsel j oj cs b hoj) hdij hij
    (fun h => hdij (g.cons i j h).1) (fun h => hij (g.cons j i h).1) (nodep2 hc hj hr) (nodep2 hc hr hj) (fun d hd => nodep2 hc hj hr d (g.cons i d hd).1) (fun d hd => nodep2 hc hr hj d (g.cons j d hd).1) hv hC h1
   have hfree' : ∀ k ok, ops[k]? = some ok → k ≠ i → (listed.setIfInBounds j true).getD k true = false →
    (∀ e ∈ ok.after, Region.binds md e = true → e.on ≠ i) → oi.apart ops ok = true := fun k ok hk hki hun hno => by
    refine hfree k ok hk hki ?_ hno
    by_cases hjk : j = k
    ·subst hjk; exact hjun
    ·rw [getD_set_ne true hjk] at hun; exact hun
   rw [Zbh hoj]
   refine Zbw (fun a' ρ' h3 => ih (listed.setIfInBounds j true) a' ρ' (hc.set hj) hfree' (ready_mono hr (Ne.symm hji)) ?_) h2
   rw [Zbh hi, Array.setIfInBounds_comm _ _ hji]
   exact h3
theorem anySep_lexC {L' : Act → (Nat → Value) → Prop} (g : GoodSC md ops s.sk s.inits s.fin) (hv : ∀ k ds, ∃ v, s.vals k ds v) (hC : ∃ w, s.C w) (hs : Region.noSelect ops = true) {n : Nat} : ∀ (l : List Oper) (k : Nat) (listed : Array Bool) (a : Act) (ρ : Nat → Value), (∀ j, j < l.length → l[j]? = ops[k + j]?) → k + l.length = n →
 ClosedL md ops listed → listed.size = ops.size → (∀ j, j < k → j < ops.size → listed.getD j false = true) → lexPre md ops l.length k listed = true → wpSep s P ops L' k l a ρ →
 anySep s P md ops n L' l.length listed a ρ
 | [], k, listed, _, _, hl, hkn, hc, hsz, hlt, hB, h => ⟨fun i hi => by
  obtain ⟨hun, o, ho, _⟩ := mem_ready.1 hi
  have h1 := (Array.getElem?_eq_some_iff.1 ho).1
  rcases Nat.lt_or_ge i n with h2 | h2
  ·exfalso
   have h3 := hlt i (by simp at hkn; omega) h1
   have h4 : i < listed.size := by omega
   simp [h4] at hun h3; rw [hun] at h3; cases h3
  ·exact h2, h⟩
 | o :: l, k, listed, a, ρ, hl, hkn, hc, hsz, hlt, hB, h => by
  have h0 : ops[k]? = some o := by simpa using (hl 0 (by simp)).symm
  simp only [List.length_cons, lexPre, Bool.and_eq_true] at hB
  obtain ⟨⟨hr, hf⟩, hB'⟩ := hB
  have hr' : k ∈ Region.ready md ops listed := by simpa using hr
  simp only [List.length_cons] at hkn
  refine anySep_firstC g hv hC h0 (by omega) (Region.noSelect_spec hs) l.length listed a ρ hc (Region.free_spec h0 hf) hr' ?_
  rw [Zbh h0]
  refine Zbw (fun a' ρ' h' => anySep_lexC g hv hC hs l (k + 1) _ _ _ (fun j hj => by have := hl (j + 1) (by simpa using hj); simpa [Nat.add_assoc, Nat.add_comm 1 j] using this) (by omega) (hc.set hr') (by simpa using hsz) (fun j hj hjs => ?_) hB' h') h
  by_cases hjk : k = j
  ·subst hjk; simp [hsz, hjs]
  ·exact getD_set_true (hlt j (by omega) hjs)
theorem wpAny_of_sepC {n : Nat} {L' : Act → (Nat → Value) → Prop} {Q : Exit → Act → World → Prop} (g : GoodSC md ops s.sk s.inits s.fin) (f : Firm s) (hnn : n ≤ ops.size) (hlow : ∀ k, effB s.sk k = true → k < n)
 (hback : ∀ k o, ops[k]? = some o → ∀ e ∈ o.after, Region.binds md e = true → e.on < k) (htail : ∀ k, n ≤ k → k < ops.size → ∀ j, j < k → ancB md ops ops.size k j = true)
 (hQ : ∀ a ρ w, s.C w → s.hasAll ρ w s.fin → s.apart ρ s.fin → L' a ρ → wpList P ops Q (ops.toList.drop n) a w) : ∀ (fuel : Nat) (listed : Array Bool) (a : Act) (ρ : Nat → Value) (w : World), ClosedL md ops listed → listed.size = ops.size → (∀ j, n ≤ j → j < ops.size → listed.getD j true = false) → InvS s listed ρ w →
 anySep s P md ops n L' fuel listed a ρ → wpAny P md ops Q (fuel + (ops.size - n)) listed a w := by
 have leaf : ∀ (fuel : Nat) (listed : Array Bool) (a : Act) (ρ : Nat → Value) (w : World), ClosedL md ops listed → listed.size = ops.size → (∀ j, n ≤ j → j < ops.size → listed.getD j true = false) → InvS s listed ρ w → (∀ j, j < n → listed.getD j false = true) → L' a ρ → wpAny P md ops Q (fuel + (ops.size - n)) listed a w := fun fuel listed a ρ w hc hsz hge hI hl h => by
  have hlive : ∀ d ∈ s.fin, liveS s listed d := fun d hd => by
   obtain ⟨h1, h2⟩ := g.fi d hd
   exact ⟨h1.imp id fun he => ⟨he, hl d (hlow d he)⟩, fun k _ => h2 k⟩
  have h1 := hQ a ρ w hI.1 (Sep.hasAll_iff.2 fun d hd => hI.2.1 d (hlive d hd)) (fun d hd d' hd' hn => hI.2.2 d d' (hlive d hd) (hlive d' hd') hn) h
  exact wpAny_tail hback htail (ops.toList.drop n) n _ listed a w lR (by simp; omega) (fun j => by simp) hc hsz hl hge (by simp) h1
 have some_ready : ∀ (listed : Array Bool), listed.size = ops.size → ¬ (∀ j, j < n → listed.getD j false = true) → ∃ i, i ∈ Region.ready md ops listed ∧ i < n ∧ listed.getD i true = false := fun listed hsz hno => by
  have key : ∀ m, (∀ j, j < m → j < n → listed.getD j false = true) ∨ ∃ i, i < n ∧ listed.getD i true = false ∧ ∀ j, j < i → listed.getD j false = true := fun m => by
   induction m with
   | zero => exact .inl fun j hj => by omega
   | succ m ih =>
    rcases ih with h | h
    ·by_cases hm : m < n
     ·cases hb : listed.getD m true with
      | false => exact .inr ⟨m, hm, hb, fun j hj => h j hj (by omega)⟩
      | true =>
       refine .inl fun j hj hjn => ?_
       rcases Nat.lt_or_ge j m with h2 | h2
       ·exact h j h2 hjn
       ·obtain rfl : j = m := by omega
        have h4 : j < listed.size := by omega
        simpa [h4] using hb
     ·exact .inl fun j hj hjn => h j (by omega) hjn
    ·exact .inr h
  rcases key n with h | ⟨i, h1, h2, h3⟩
  ·exact absurd (fun j hj => h j hj hj) hno
  ·have hio : i < ops.size := by omega
   exact ⟨i, mem_ready.2 ⟨h2, ops[i], Array.getElem?_eq_getElem hio, fun e he hb => h3 e.on (hback i _ (Array.getElem?_eq_getElem hio) e he hb)⟩, h1, h2⟩
 intro fuel
 induction fuel with
 | zero =>
  intro listed a ρ w hc hsz hge hI h
  by_cases hall : ∀ j, j < n → listed.getD j false = true
  ·exact leaf 0 listed a ρ w hc hsz hge hI hall h.2
  ·obtain ⟨i, h1, h2, _⟩ := some_ready listed hsz hall
   have := h.1 i h1; omega
 | succ fuel ih =>
  intro listed a ρ w hc hsz hge hI h
  by_cases hdone : ∀ j, j < n → listed.getD j false = true
  ·refine leaf (fuel + 1) listed a ρ w hc hsz hge hI hdone (h.1 fun i hi => ?_)
   obtain ⟨hun, o, ho, _⟩ := mem_ready.1 hi
   have h1 := (Array.getElem?_eq_some_iff.1 ho).1
   rcases Nat.lt_or_ge i n with h2 | h2
   ·exfalso
    have h3 := hdone i h2
    have h4 : i < listed.size := by omega
    simp [h4] at hun h3; rw [hun] at h3; cases h3
   ·exact h2
  obtain ⟨i0, hi0, hi0n, hi0u⟩ := some_ready listed hsz hdone
  rw [show fuel + 1 + (ops.size - n) = (fuel + (ops.size - n)) + 1 by omega]
  refine ⟨fun h0 => (by rw [h0] at hi0; cases hi0), fun i hi => ?_⟩
  have hin : i < n := by
   rcases Nat.lt_or_ge i n with h2 | h2
   ·exact h2
   ·exfalso
    obtain ⟨_, oi, hoi, hall⟩ := mem_ready.1 hi
    have h1 := (Array.getElem?_eq_some_iff.1 hoi).1
    have h3 := Zaw hc _ i i0 (fun o' ho' e he hb => by rw [hoi] at ho'; injection ho' with ho'; subst ho'; exact hall e he hb) (htail i h2 h1 i0 (by omega))
    have h4 : i0 < listed.size := by omega
    simp [h4] at h3 hi0u; rw [hi0u] at h3; cases h3
  have hn := h.2 i hi hin
  have hsz' : (listed.setIfInBounds i true).size = ops.size := by simpa using hsz
  have hge' : ∀ j, n ≤ j → j < ops.size → (listed.setIfInBounds i true).getD j true = false := fun j hj hjs => by rw [getD_set_ne true (by omega)]; exact hge j hj hjs
  obtain ⟨hun, o, ho, hall⟩ := mem_ready.1 hi
  have unl : listed.getD i false = true → False := fun h1 => by
   rcases Nat.lt_or_ge i listed.size with h' | h'
   ·simp [h'] at hun h1; rw [hun] at h1; cases h1
   ·simp [Array.getElem?_eq_none h'] at h1
  rw [Zbh ho] at hn
  unfold sepNode at hn
  unfold wpOp
  simp only [ho]
  -- an operation that changes nothing
  have easy : effB s.sk i = false → InvS s (listed.setIfInBounds i true) ρ w := fun he => by
   have hl : ∀ d, liveS s (listed.setIfInBounds i true) d → liveS s listed d := fun d hd => by
    refine ⟨hd.1.imp id fun ⟨h1, h2⟩ => ⟨h1, ?_⟩, fun k hk => hd.2 k (getD_set_true hk)⟩
    by_cases hid : i = d
    ·subst hid; rw [he] at h1; cases h1
    ·rwa [getD_set_ne false hid] at h2
   exact ⟨hI.1, fun d hd => hI.2.1 d (hl d hd), fun d d' hd hd' => hI.2.2 d d' (hl d hd) (hl d' hd')⟩
  split at hn
  ·rename_i he
   rw [if_pos hn.1]
   refine .inl ?_
   have hdl : ∀ d ∈ depsL s.sk i, liveS s listed d := fun d hd => by
    refine ⟨(g.deps i d hd).imp id fun ⟨h1, h2⟩ => ⟨h1, Zaw hc _ i d (fun o' ho' e he' hb => by rw [ho] at ho'; injection ho' with ho'; subst ho'; exact hall e he' hb) h2⟩, fun k hk hck => ?_⟩
    by_cases hki : i = k
    ·subst hki; exact unl hk
    ·exact unl (Zaw hc _ k i (fun o' ho' e he' hb => hc k o' ho' hk e he' hb) ((g.cons k d hck).2.2 i hki hd))
   have hcl : ∀ d ∈ consL s.sk i, liveS s listed d := fun d hd => hdl d (g.cons i d hd).1
   have hpre : s.pre i ρ w := ⟨Sep.hasAll_iff.2 fun d hd => hI.2.1 d (hdl d hd), fun d hd d' hd' hne => hI.2.2 d d' (hdl d hd) (hdl d' hd') hne⟩
   have hok : ∀ b, s.hit i ρ b → s.Ok b ∧ b < w.heap.size := fun b ⟨d, hd, hb⟩ => (hI.2.1 d (hcl d hd)).2 b hb
   refine wp_of_sepAt (hn.2.1 w hI.1 hpre) fun v w' hp => ?_
   obtain ⟨hv, hR, hA, hB⟩ := hp
   refine ih _ _ _ _ (hc.set hi) hsz' hge' ?_ (hn.2.2 v hv)
   have hCw := f.C w w' _ hI.1 hA (fun b hb => (hok b hb).1)
   have hl : ∀ d, d ≠ i → liveS s (listed.setIfInBounds i true) d → liveS s listed d ∧ d ∉ consL s.sk i := fun d hdi hd => by
    refine ⟨⟨hd.1.imp id fun ⟨h1, h2⟩ => ⟨h1, by rwa [getD_set_ne false (Ne.symm hdi)] at h2⟩, fun k hk => hd.2 k (getD_set_true hk)⟩, hd.2 i ?_⟩
    have hls : i < listed.size := by
     rcases Nat.lt_or_ge i listed.size with h' | h'
     ·exact h'
     ·simp [Array.getElem?_eq_none h'] at hun
    simp [hls]
   have hnd : ∀ d, d ≠ i → liveS s (listed.setIfInBounds i true) d → i ∉ depsL s.sk d := fun d hdi hd hid => by
    rcases (hl d hdi hd).1.1 with h | ⟨_, h⟩
    ·have h1 := g.ini d h
     obtain ⟨e, he', h2, _⟩ := Zdi hid
     have h3 := g.lt d (by simp only [effB, List.any_eq_true, beq_iff_eq]; exact ⟨e, he', h2⟩)
     omega
    ·rcases g.deps d i hid with h' | ⟨_, h'⟩
     ·have := g.ini i h'
      have := (Array.getElem?_eq_some_iff.1 ho).1
      omega
     ·exact unl (Zaw hc _ d i (fun o' ho' e he' hb => hc d o' ho' h e he' hb) h')
   have hni : i ∉ depsL s.sk i := fun hid => unl (by
    rcases g.deps i i hid with h' | ⟨_, h'⟩
    ·have := g.ini i h'
     have := (Array.getElem?_eq_some_iff.1 ho).1
     omega
    ·exact Zaw hc _ i i (fun o' ho' e he' hb => by rw [ho] at ho'; injection ho' with ho'; subst ho'; exact hall e he' hb) h')
   have hnh : ∀ d, d ≠ i → liveS s (listed.setIfInBounds i true) d → ∀ b, s.blk d (s.dv ρ d) (ρ d) b → ¬ s.hit i ρ b ∧ b < w.heap.size := fun d hdi hd b hb => by
    obtain ⟨h1, h2⟩ := hl d hdi hd
    refine ⟨fun ⟨d', hd', hb'⟩ => hI.2.2 d d' h1 (hcl d' hd') (fun e => h2 (e ▸ hd')) b hb hb', ((hI.2.1 d h1).2 b hb).2⟩
   refine ⟨hCw, fun d hd => ?_, fun d d' hd hd' hne b hb hb' => ?_⟩
   ·by_cases hdi : d = i
    ·subst hdi
     unfold Sep.has
     rw [upd_same, Sep.dv_upd hni]
     exact ⟨hR, fun b hb => ⟨(hB b hb).2.elim (fun h => f.new w b hI.1 h) (fun h => (hok b h).1), (hB b hb).1⟩⟩
    ·unfold Sep.has
     rw [upd_ne hdi, Sep.dv_upd (hnd d hdi hd)]
     have h1 := hI.2.1 d (hl d hdi hd).1
     exact ⟨f.R d (s.dv ρ d) (ρ d) w w' _ hI.1 h1.1 hA (fun b hb => (hok b hb).1) (hnh d hdi hd), fun b hb => ⟨(h1.2 b hb).1, Nat.lt_of_lt_of_le (h1.2 b hb).2 hA.size⟩⟩
   ·by_cases hdi : d = i
    ·subst hdi
     rw [upd_same, Sep.dv_upd hni] at hb
     rw [upd_ne (Ne.symm hne), Sep.dv_upd (hnd d' (Ne.symm hne) hd')] at hb'
     obtain ⟨h1, h2⟩ := hnh d' (Ne.symm hne) hd' b hb'
     rcases (hB b hb).2 with h | h
     ·omega
     ·exact h1 h
    ·rw [upd_ne hdi, Sep.dv_upd (hnd d hdi hd)] at hb
     by_cases hdi' : d' = i
     ·subst hdi'
      rw [upd_same, Sep.dv_upd hni] at hb'
      obtain ⟨h1, h2⟩ := hnh d hdi hd b hb
      rcases (hB b hb').2 with h | h
      ·omega
      ·exact h1 h
     ·rw [upd_ne hdi', Sep.dv_upd (hnd d' hdi' hd')] at hb'
      exact hI.2.2 d d' (hl d hdi hd).1 (hl d' hdi' hd').1 hne b hb hb'
  ·rename_i he
   have he' : effB s.sk i = false := by simpa using he
   split at hn
   ·rename_i hw
    rw [if_pos hw]
    obtain ⟨v, hp, hk⟩ := hn
    exact .inl (wp_of_pureAt (hp w hI.1) (ih _ _ _ _ (hc.set hi) hsz' hge' (easy he') hk))
   ·rename_i hw
    rw [if_neg hw]
    exact ih _ _ _ _ (hc.set hi) hsz' hge' (easy he') hn
theorem wp_region_sepC (s : Sep) (n : Nat) {id : Nat} {Q : Exit → Act → World → Prop} {a : Act} {w : World} {l : List Oper} (ρ0 : Nat → Value) (hm : P.follows .mixedOrders = true) (hB : tailB .any l.toArray n = true) (hG : (goodBC .any l.toArray s.sk s.inits s.fin && s.sk.all fun e => decide (e.1 < n)) = true) (f : Firm s)
 (hC : s.C (World.drew w)) (hi : s.hasAll ρ0 (World.drew w) s.inits) (ha : s.apart ρ0 s.inits)
 (h : wpSep s P l.toArray (fun a ρ => ∀ w', s.C w' → s.hasAll ρ w' s.fin → s.apart ρ s.fin → wpList P l.toArray Q (l.drop n) a w') 0 (l.take n) a ρ0) : (Code.region id l.toArray true).wp P Q a w := by
 simp only [tailB, Bool.and_eq_true, List.all_eq_true, List.mem_range, decide_eq_true_eq, Bool.or_eq_true] at hB
 obtain ⟨⟨⟨hB1, hB2⟩, hB3⟩, hB4⟩ := hB
 simp only [Bool.and_eq_true, List.all_eq_true, decide_eq_true_eq] at hG
 have g := goodS_ofC hG.1
 have hlow : ∀ k, effB s.sk k = true → k < n := fun k he => by
  simp only [effB, List.any_eq_true, beq_iff_eq] at he
  obtain ⟨e, hm, rfl⟩ := he
  exact hG.2 e hm
 have hback : ∀ k o, l.toArray[k]? = some o → ∀ e ∈ o.after, Region.binds .any e = true → e.on < k := fun k o ho e he hb => by
  have h1 := (hB4 k (Array.getElem?_eq_some_iff.1 ho).1).1
  rw [ho] at h1
  simp only [Option.map_some, Option.getD_some] at h1
  have h2 := Array.all_eq_true_iff_forall_mem.1 h1 e he
  simpa [hb] using h2
 have htail : ∀ k, n ≤ k → k < l.toArray.size → ∀ j, j < k → ancB .any l.toArray l.toArray.size k j = true := fun k hk hks j hj => by
  rcases (hB4 k hks).2 with h1 | h1
  ·omega
  ·exact h1 j hj
 have hc0 : ClosedL .any l.toArray (Array.replicate l.toArray.size false) := fun k o ho hl e he hb => by
  exact (repl_false _ _ hl).elim
 have hln : (l.take n).length = n := by simp at hB2 ⊢; omega
 have hsize : l.toArray.size = n + (l.toArray.size - n) := by omega
 refine wp_region_any hm ?_
 have h1 := anySep_lexC (s := s) (P := P) (md := .any) (n := n) g f.vals ⟨_, hC⟩ hB1 (l.take n) 0 (Array.replicate l.toArray.size false) a ρ0 (fun j hj => by rw [hln] at hj; simp [List.getElem?_take, hj]) (by simpa using hln) hc0 (by simp) (fun j hj => by omega) (by rw [hln]; exact hB3) h
 have h2 := wpAny_of_sepC (s := s) (Q := Q) g f hB2 hlow hback htail (fun a ρ w' hw' h1 h2 h => h w' hw' h1 h2) (l.take n).length (Array.replicate l.toArray.size false) a ρ0 (World.drew w) hc0 (by simp) (fun j _ hj => by simp at hj; simp [hj]) ?_ h1
 ·rw [hln, ← hsize] at h2; exact h2
 ·have hl : ∀ d, liveS s (Array.replicate l.toArray.size false) d → d ∈ s.inits := fun d hd => by
   rcases hd.1 with h | ⟨_, h⟩
   ·exact h
   ·exact (repl_false _ _ h).elim
  exact ⟨hC, fun d hd => Sep.hasAll_iff.1 hi d (hl d hd), fun d d' hd hd' hn => ha d (hl d hd) d' (hl d' hd') hn⟩
end
section
variable {P : Program} {W : World} {own : Nat → Prop} {cs : List (Addr × Value)} {sk : List (Nat × List Nat × List Nat)} {ini fi : List Nat} {rs : List (Nat × Res)} {ops : Array Oper} {L : Act → (Nat → Value) → Prop} {k : Nat} {o : Oper} {rest : List Oper} {a : Act} {ρ : Nat → Value}
theorem wp_region_memC (n : Nat) (own : Nat → Prop) (cs : List (Addr × Value)) (sk : List (Nat × List Nat × List Nat)) (ini fi : List Nat) (rs : List (Nat × Res)) (ρ0 : Nat → Value) {id : Nat} {Q : Exit → Act → World → Prop} {l : List Oper} {w : World}
 (hm : P.follows .mixedOrders = true) (hB : tailB .any l.toArray n = true) (hG : (goodBC .any l.toArray sk ini fi && sk.all fun e => decide (e.1 < n)) = true) (hcs : CellsL w cs) (hown : ∀ q ∈ cs, ¬ own q.1.block)
 (hi : (mkSep w own cs sk ini fi rs).hasAll ρ0 (World.drew w) ini) (ha : (mkSep w own cs sk ini fi rs).apart ρ0 ini)
 (h : wpSep (mkSep w own cs sk ini fi rs) P l.toArray (fun a ρ => ∀ w', Alt (okB w own) w w' → CellsL w' cs → (mkSep w own cs sk ini fi rs).hasAll ρ w' fi → (mkSep w own cs sk ini fi rs).apart ρ fi → wpList P l.toArray Q (l.drop n) a w') 0 (l.take n) a ρ0) : (Code.region id l.toArray true).wp P Q a w :=
 wp_region_sepC (mkSep w own cs sk ini fi rs) n ρ0 hm hB hG (firm_mk fun q hq => ⟨hown q hq, World.block_lt_of_cell? w _ (hcs q hq)⟩)
  ⟨(Alt.refl_ _ w).drewN_ 1, fun q hq => hcs q hq⟩ hi ha (by
   have key : ∀ (l' : List Oper) (k : Nat) (a : Act) (ρ : Nat → Value), wpSep (mkSep w own cs sk ini fi rs) P l.toArray (fun a ρ => ∀ w', Alt (okB w own) w w' → CellsL w' cs → (mkSep w own cs sk ini fi rs).hasAll ρ w' fi → (mkSep w own cs sk ini fi rs).apart ρ fi → wpList P l.toArray Q (l.drop n) a w') k l' a ρ →
    wpSep (mkSep w own cs sk ini fi rs) P l.toArray (fun a ρ => ∀ w', (mkSep w own cs sk ini fi rs).C w' → (mkSep w own cs sk ini fi rs).hasAll ρ w' fi → (mkSep w own cs sk ini fi rs).apart ρ fi → wpList P l.toArray Q (l.drop n) a w') k l' a ρ := by
    intro l'
    induction l' with
    | nil => intro k a ρ h w' hw h1 h2; exact h w' hw.1 hw.2 h1 h2
    | cons o l' ih => intro k a ρ h; exact Zbw (fun a ρ => ih (k + 1) a ρ) h
   exact key _ _ _ _ h)
end
def Res.bx (D : Nat) (us : List Value) : Res :=
 ⟨fun _ v => v = undef, fun _ _ w => D < w.heap.size ∧ CellsAt w D 0 us ∧ Fz w D, fun _ _ b => b = D, fun _ => ⟨undef, rfl⟩,
  fun _ v w w' S h k hb => ⟨Nat.lt_of_lt_of_le h.1 k.size, h.2.1.alt k (hb D rfl).1, h.2.2.alt k h.1 (hb D rfl).1⟩⟩
section
variable {P : Program} {W : World} {own : Nat → Prop} {cs : List (Addr × Value)} {sk : List (Nat × List Nat × List Nat)} {ini fi : List Nat} {rs : List (Nat × Res)} {ops : Array Oper} {L : Act → (Nat → Value) → Prop} {k : Nat} {o : Oper} {rest : List Oper} {a : Act} {ρ : Nat → Value}
def Res.bxf (D : Nat) (f : List Value → List Value) : Res :=
 ⟨fun _ v => v = undef, fun ds _ w => D < w.heap.size ∧ CellsAt w D 0 (f ds) ∧ Fz w D, fun _ _ b => b = D, fun _ => ⟨undef, rfl⟩,
  fun _ v w w' S h k hb => ⟨Nat.lt_of_lt_of_le h.1 k.size, h.2.1.alt k (hb D rfl).1, h.2.2.alt k h.1 (hb D rfl).1⟩⟩
theorem mem_bxf (d D : Nat) (us : List Value) (f : List Value → List Value) (v0 : Value) (hr : resAt rs k = Res.bxf D f) (he : effB sk k = true) (hrd : resAt rs d = Res.bx D us) (hd : consL sk k = [d]) (hdd : d ∈ depsL sk k) (hρ : ρ d = v0)
 (hx : ∀ w, Alt (okB W own) W w → CellsL w cs → (mkSep W own cs sk ini fi rs).pre k ρ w → D < w.heap.size → CellsAt w D 0 us → Fz w D → sepAt P o a (fun v w' => v = undef ∧ CellsAt w' D 0 (f ((depsL sk k).map ρ)) ∧ Fz w' D ∧ Alt (fun i => i = D) w w') w)
 (h : wpSep (mkSep W own cs sk ini fi rs) P ops L (k + 1) rest (a.put o.dst undef) (upd ρ k undef)) (hw : Region.wanted o (yielded ops a.tmps) = true := by first | exact Zam rfl | exact Zab rfl rfl rfl rfl) : wpSep (mkSep W own cs sk ini fi rs) P ops L k (o :: rest) a ρ :=
 Zdk (hw := hw) _ hr he (fun w hw hc hp => by
  have h1 : D < w.heap.size ∧ CellsAt w D 0 us ∧ Fz w D := (Zcb hdd hp hρ hrd).1
  have hh : (mkSep W own cs sk ini fi rs).hit k ρ = fun b => b = D := hit_one hd hρ hrd
  rw [hh]
  refine Zbv (hx w hw hc hp h1.1 h1.2.1 h1.2.2) fun v w' ⟨e1, e2, e3, e4⟩ => ⟨e1, ⟨Nat.lt_of_lt_of_le h1.1 e4.size, e2, e3⟩, e4, fun b hb => ?_⟩
  have hb' : b = D := hb
  subst hb'
  exact ⟨Nat.lt_of_lt_of_le h1.1 e4.size, .inr rfl⟩) fun v hv => by
  obtain rfl : v = undef := hv
  exact h
end
end Go.Proofs.YtenknpcbbcbciaaGreat
