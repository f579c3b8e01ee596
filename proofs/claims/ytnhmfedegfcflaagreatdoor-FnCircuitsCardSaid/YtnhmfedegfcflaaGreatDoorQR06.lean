/- Regions whose order is open and that make or write memory: one walk in the order of the text serves every order, if each operation that makes or writes memory has its own facts, on blocks of its own. No condition. -/
import Derived.Test.YtnhmfedegfcflaaGreatDoorQR04
namespace Go.Proofs.YtnhmfedegfcflaaGreatDoor
open Go.RowKit
set_option linter.unusedVariables false
set_option linter.unusedSimpArgs false
def retPost (post : Value → World → Prop) (e : Ending) (w : World) : Prop := ∃ v, e = .returned v ∧ post v w
theorem retPost.mk_ {post : Value → World → Prop} {v : Value} {w : World} (h : post v w) : retPost post (.returned v) w := ⟨v, rfl, h⟩
def sepUpon (P : Program) (post : Value → World → Prop) : Result Next → Prop
 | .ok (.value v) w' => post v w'
 | .ok .skip w' => post undef w'
 | .ok (.enter f args) w' => Calls P f args w' (retPost post)
 | _ => False
def sepAt (P : Program) (o : Oper) (a : Act) (post : Value → World → Prop) (w : World) : Prop := sepUpon P post ((execOp a.eval o).run P w)
def pureUpon (w : World) (v : Value) : Result Next → Prop
 | .ok (.value u) w' => w' = w ∧ u = v
 | .ok .skip w' => w' = w ∧ undef = v
 | _ => False
def pureAt (P : Program) (o : Oper) (a : Act) (w : World) (v : Value) : Prop := pureUpon w v ((execOp a.eval o).run P w)
structure Sep where
 C : World → Prop
 Ok : Nat → Prop
 sk : List (Nat × List Nat × List Nat)
 inits : List Nat
 fin : List Nat
 vals : Nat → List Value → Value → Prop
 R : Nat → List Value → Value → World → Prop
 blk : Nat → List Value → Value → Nat → Prop
def effB (sk : List (Nat × List Nat × List Nat)) (k : Nat) : Bool := sk.any fun e => e.1 == k
def depsL (sk : List (Nat × List Nat × List Nat)) (k : Nat) : List Nat := ((sk.find? fun e => e.1 == k).map fun e => e.2.1).getD []
def consL (sk : List (Nat × List Nat × List Nat)) (k : Nat) : List Nat := ((sk.find? fun e => e.1 == k).map fun e => e.2.2).getD []
def upd (ρ : Nat → Value) (k : Nat) (v : Value) : Nat → Value := fun d => if d = k then v else ρ d
theorem upd_same (ρ : Nat → Value) (k : Nat) (v : Value) : upd ρ k v k = v := by simp [upd]
theorem upd_ne {ρ : Nat → Value} {k d : Nat} {v : Value} (h : d ≠ k) : upd ρ k v d = ρ d := by simp [upd, h]
theorem upd_comm (ρ : Nat → Value) {i j : Nat} (v u : Value) (h : i ≠ j) : upd (upd ρ i v) j u = upd (upd ρ j u) i v := by
 funext d; unfold upd
 by_cases h1 : d = j
 ·subst h1; simp [Ne.symm h]
 ·simp [h1]
def Sep.dv (s : Sep) (ρ : Nat → Value) (d : Nat) : List Value := (depsL s.sk d).map ρ
def Sep.has (s : Sep) (d : Nat) (ρ : Nat → Value) (w : World) : Prop := s.R d (s.dv ρ d) (ρ d) w ∧ ∀ b, s.blk d (s.dv ρ d) (ρ d) b → s.Ok b ∧ b < w.heap.size
def Sep.hasAll (s : Sep) (ρ : Nat → Value) (w : World) : List Nat → Prop
 | [] => True
 | d :: l => s.has d ρ w ∧ s.hasAll ρ w l
def Sep.apart (s : Sep) (ρ : Nat → Value) (l : List Nat) : Prop := ∀ d ∈ l, ∀ d' ∈ l, d ≠ d' → ∀ b, s.blk d (s.dv ρ d) (ρ d) b → ¬ s.blk d' (s.dv ρ d') (ρ d') b
def Sep.pre (s : Sep) (k : Nat) (ρ : Nat → Value) (w : World) : Prop := s.hasAll ρ w (depsL s.sk k) ∧ s.apart ρ (depsL s.sk k)
def Sep.hit (s : Sep) (k : Nat) (ρ : Nat → Value) : Nat → Prop := fun b => ∃ d, d ∈ consL s.sk k ∧ s.blk d (s.dv ρ d) (ρ d) b
def Sep.post (s : Sep) (k : Nat) (ρ : Nat → Value) (w : World) (v : Value) (w' : World) : Prop :=
 s.vals k (s.dv ρ k) v ∧ s.R k (s.dv ρ k) v w' ∧ Alt (s.hit k ρ) w w' ∧ ∀ b, s.blk k (s.dv ρ k) v b → b < w'.heap.size ∧ (w.heap.size ≤ b ∨ s.hit k ρ b)
theorem Sep.dv_upd {s : Sep} {ρ : Nat → Value} {d i : Nat} {v : Value} (h : i ∉ depsL s.sk d) : s.dv (upd ρ i v) d = s.dv ρ d := by
 unfold Sep.dv
 exact List.map_congr_left fun x hx => upd_ne (fun e => h (e ▸ hx))
theorem Sep.hasAll_iff {s : Sep} {ρ : Nat → Value} {w : World} : ∀ {l : List Nat}, s.hasAll ρ w l ↔ ∀ d ∈ l, s.has d ρ w
 | [] => by simp [Sep.hasAll]
 | d :: l => by simp [Sep.hasAll, Sep.hasAll_iff (l := l)]
theorem Sep.pre_upd {s : Sep} {k i : Nat} {ρ : Nat → Value} {v : Value} {w : World} (h : i ∉ depsL s.sk k) (h2 : ∀ d ∈ depsL s.sk k, i ∉ depsL s.sk d) : s.pre k (upd ρ i v) w ↔ s.pre k ρ w := by
 have hd : ∀ d ∈ depsL s.sk k, upd ρ i v d = ρ d := fun d hd => upd_ne (fun e => h (e ▸ hd))
 have hv : ∀ d ∈ depsL s.sk k, s.dv (upd ρ i v) d = s.dv ρ d := fun d hd => Sep.dv_upd (h2 d hd)
 unfold Sep.pre Sep.apart
 rw [Sep.hasAll_iff, Sep.hasAll_iff]
 have hh : ∀ d ∈ depsL s.sk k, (s.has d (upd ρ i v) w ↔ s.has d ρ w) := fun d hm => by unfold Sep.has; rw [hv d hm, hd d hm]
 constructor
 ·rintro ⟨h1, h2⟩
  refine ⟨fun d hm => (hh d hm).1 (h1 d hm), fun d hm d' hm' hn b hb hb' => ?_⟩
  have := h2 d hm d' hm' hn b
  rw [hv d hm, hv d' hm', hd d hm, hd d' hm'] at this
  exact this hb hb'
 ·rintro ⟨h1, h2⟩
  refine ⟨fun d hm => (hh d hm).2 (h1 d hm), fun d hm d' hm' hn b hb hb' => ?_⟩
  rw [hv d hm, hd d hm] at hb
  rw [hv d' hm', hd d' hm'] at hb'
  exact h2 d hm d' hm' hn b hb hb'
theorem Sep.hit_upd {s : Sep} {k i : Nat} {ρ : Nat → Value} {v : Value} (h : i ∉ consL s.sk k) (h2 : ∀ d ∈ consL s.sk k, i ∉ depsL s.sk d) : s.hit k (upd ρ i v) = s.hit k ρ := by
 funext b; apply propext
 have hn : ∀ d, d ∈ consL s.sk k → upd ρ i v d = ρ d := fun d hd => upd_ne (fun e => h (e ▸ hd))
 have hv : ∀ d ∈ consL s.sk k, s.dv (upd ρ i v) d = s.dv ρ d := fun d hd => Sep.dv_upd (h2 d hd)
 constructor
 ·rintro ⟨d, hd, hb⟩; exact ⟨d, hd, by rwa [hn d hd, hv d hd] at hb⟩
 ·rintro ⟨d, hd, hb⟩; exact ⟨d, hd, by rwa [hn d hd, hv d hd]⟩
theorem Sep.post_upd {s : Sep} {k i : Nat} {ρ : Nat → Value} {v : Value} {w : World} (h : i ∉ consL s.sk k) (h2 : ∀ d ∈ consL s.sk k, i ∉ depsL s.sk d) (h3 : i ∉ depsL s.sk k) : s.post k (upd ρ i v) w = s.post k ρ w := by
 funext u w'; unfold Sep.post; rw [Sep.hit_upd h h2, Sep.dv_upd h3]
section
variable {P : Program} {ops : Array Oper} {md : Region.Mode} {s : Sep}
def sepNode (s : Sep) (P : Program) (ops : Array Oper) (i : Nat) (o : Oper) (K : Act → (Nat → Value) → Prop) (a : Act) (ρ : Nat → Value) : Prop :=
 if effB s.sk i = true then Region.wanted o (yielded ops a.tmps) = true ∧ (∀ w, s.C w → s.pre i ρ w → sepAt P o a (s.post i ρ w) w) ∧ ∀ v, s.vals i (s.dv ρ i) v → K (a.put o.dst v) (upd ρ i v)
 else if Region.wanted o (yielded ops a.tmps) = true then ∃ v, (∀ w, s.C w → pureAt P o a w v) ∧ K (a.put o.dst v) ρ
 else K (a.put o.dst undef) ρ
def sepOp (s : Sep) (P : Program) (ops : Array Oper) (i : Nat) (K : Act → (Nat → Value) → Prop) (a : Act) (ρ : Nat → Value) : Prop :=
 match ops[i]? with
 | none => K a ρ
 | some o => sepNode s P ops i o K a ρ
theorem Zbw {i : Nat} {o : Oper} {K : Act → (Nat → Value) → Prop} {a : Act} {ρ : Nat → Value} (h : ops[i]? = some o) : sepOp s P ops i K a ρ = sepNode s P ops i o K a ρ := by unfold sepOp; simp only [h]
theorem Zce {i : Nat} {o : Oper} {K K' : Act → (Nat → Value) → Prop} {a : Act} {ρ : Nat → Value} (h : ∀ a ρ, K a ρ → K' a ρ) (hh : sepNode s P ops i o K a ρ) : sepNode s P ops i o K' a ρ := by
 unfold sepNode at *
 split
 ·rename_i he; rw [if_pos he] at hh; exact ⟨hh.1, hh.2.1, fun v hv => h _ _ (hh.2.2 v hv)⟩
 ·rename_i he; rw [if_neg he] at hh
  split
  ·rename_i hw; rw [if_pos hw] at hh; obtain ⟨v, h1, h2⟩ := hh; exact ⟨v, h1, h _ _ h2⟩
  ·rename_i hw; rw [if_neg hw] at hh; exact h _ _ hh
def wpSep (s : Sep) (P : Program) (ops : Array Oper) (L : Act → (Nat → Value) → Prop) : Nat → List Oper → Act → (Nat → Value) → Prop
 | _, [], a, ρ => L a ρ
 | k, o :: rest, a, ρ => sepNode s P ops k o (wpSep s P ops L (k + 1) rest) a ρ
def anySep (s : Sep) (P : Program) (md : Region.Mode) (ops : Array Oper) (n : Nat) (L : Act → (Nat → Value) → Prop) : Nat → Array Bool → Act → (Nat → Value) → Prop
 | 0, listed, a, ρ => (∀ i ∈ Region.ready md ops listed, n ≤ i) ∧ L a ρ
 | fuel + 1, listed, a, ρ => ((∀ i ∈ Region.ready md ops listed, n ≤ i) → L a ρ) ∧ ∀ i ∈ Region.ready md ops listed, i < n → sepOp s P ops i (anySep s P md ops n L fuel (listed.setIfInBounds i true)) a ρ
theorem Zbp {o : Oper} {a : Act} {dst : Option Tmp} {u v : Value} {w : World} (hs : ∀ cs b, o.op ≠ .select cs b) (h : ∀ d, dst = some d → d ∉ o.looksAt ops) : pureAt P o (a.put dst u) w v ↔ pureAt P o a w v := by
 unfold pureAt; rw [execOp_put o hs a dst u h]
theorem Zck {o : Oper} {a : Act} {dst : Option Tmp} {u : Value} {w : World} {post : Value → World → Prop} (hs : ∀ cs b, o.op ≠ .select cs b) (h : ∀ d, dst = some d → d ∉ o.looksAt ops) : sepAt P o (a.put dst u) post w ↔ sepAt P o a post w := by
 unfold sepAt; rw [execOp_put o hs a dst u h]
theorem pureAt_one {o : Oper} {a : Act} {w : World} {u v : Value} (h1 : pureAt P o a w u) (h2 : pureAt P o a w v) : u = v := by
 unfold pureAt at *
 generalize (execOp a.eval o).run P w = r at *
 cases r with
 | ok n w' =>
  cases n <;> simp only [pureUpon] at h1 h2
  ·exact h1.2.symm.trans h2.2
  ·exact h1.2.symm.trans h2.2
 | halt x w' => simp only [pureUpon] at h1
theorem sepNode_swap {i j : Nat} {oi oj : Oper} {K : Act → (Nat → Value) → Prop} {a : Act} {ρ : Nat → Value} (hij : i ≠ j) (hap : oi.apart ops oj = true)
 (hsi : ∀ cs b, oi.op ≠ .select cs b) (hsj : ∀ cs b, oj.op ≠ .select cs b) (hdi : j ∉ depsL s.sk i) (hdj : i ∉ depsL s.sk j) (hci : j ∉ consL s.sk i) (hcj : i ∉ consL s.sk j) (hdi2 : ∀ d ∈ depsL s.sk i, j ∉ depsL s.sk d) (hdj2 : ∀ d ∈ depsL s.sk j, i ∉ depsL s.sk d) (hci2 : ∀ d ∈ consL s.sk i, j ∉ depsL s.sk d) (hcj2 : ∀ d ∈ consL s.sk j, i ∉ depsL s.sk d)
 (hv : ∀ k ds, ∃ v, s.vals k ds v) (hC : ∃ w, s.C w)
 (h : sepNode s P ops i oi (fun a ρ => sepNode s P ops j oj K a ρ) a ρ) : sepNode s P ops j oj (fun a ρ => sepNode s P ops i oi K a ρ) a ρ := by
 obtain ⟨h1, h2, h3⟩ := Oper.apart_spec hap
 have pc : ∀ (a : Act) (v u : Value), (a.put oi.dst v).put oj.dst u = (a.put oj.dst u).put oi.dst v := fun a v u => Act.put_comm a v u h2
 have wj : ∀ v, Region.wanted oj (yielded ops (a.put oi.dst v).tmps) = Region.wanted oj (yielded ops a.tmps) := fun v => wanted_put oj a oi.dst v h1
 have wi : ∀ v, Region.wanted oi (yielded ops (a.put oj.dst v).tmps) = Region.wanted oi (yielded ops a.tmps) := fun v => wanted_put oi a oj.dst v h3
 unfold sepNode at *
 by_cases ei : effB s.sk i = true
 ·rw [if_pos ei] at h
  simp only [ei, if_true]
  obtain ⟨hwi, hx, hy⟩ := h
  by_cases ej : effB s.sk j = true
  ·simp only [ej, if_true] at hy ⊢
   have hwj : Region.wanted oj (yielded ops a.tmps) = true := by
    obtain ⟨v0, hv0⟩ := hv i (s.dv ρ i)
    rw [← wj v0]; exact (hy v0 hv0).1
   refine ⟨hwj, fun w hw hp => ?_, fun u hu => ⟨by rw [wi]; exact hwi, fun w hw hp => ?_, fun v hv' => ?_⟩⟩
   ·obtain ⟨v0, hv0⟩ := hv i (s.dv ρ i)
    have h9 := (hy v0 hv0).2.1 w hw ((Sep.pre_upd hdj hdj2).2 hp)
    rw [Sep.post_upd hcj hcj2 hdj] at h9
    exact (Zck (ops := ops) hsj h1).1 h9
   ·have h9 := hx w hw ((Sep.pre_upd hdi hdi2).1 hp)
    rw [Sep.post_upd hci hci2 hdi]
    exact (Zck (ops := ops) hsi h3).2 h9
   ·rw [Sep.dv_upd hdi] at hv'
    have h9 := (hy v hv').2.2 u (by rw [Sep.dv_upd hdj]; exact hu)
    rw [pc, upd_comm ρ v u hij] at h9
    exact h9
  ·simp only [ej] at hy ⊢
   by_cases wj' : Region.wanted oj (yielded ops a.tmps) = true
   ·simp only [wj, wj', if_true] at hy ⊢
    obtain ⟨v0, hv0⟩ := hv i (s.dv ρ i)
    obtain ⟨u0, hu0, _⟩ := hy v0 hv0
    obtain ⟨w0, hw0⟩ := hC
    refine ⟨u0, fun w hw => (Zbp (ops := ops) hsj h1).1 (hu0 w hw), by rw [wi]; exact hwi, fun w hw hp => ?_, fun v hv' => ?_⟩
    ·exact (Zck (ops := ops) hsi h3).2 (hx w hw hp)
    ·obtain ⟨u1, hu1, hk⟩ := hy v hv'
     obtain rfl : u1 = u0 := pureAt_one ((Zbp (ops := ops) hsj h1).1 (hu1 w0 hw0)) ((Zbp (ops := ops) hsj h1).1 (hu0 w0 hw0))
     rw [pc] at hk
     exact hk
   ·simp only [wj, wj', if_false] at hy ⊢
    refine ⟨by rw [wi]; exact hwi, fun w hw hp => (Zck (ops := ops) hsi h3).2 (hx w hw hp), fun v hv' => ?_⟩
    have h9 := hy v hv'
    rw [pc] at h9
    exact h9
 ·rw [if_neg ei] at h
  simp only [ei]
  by_cases wi' : Region.wanted oi (yielded ops a.tmps) = true
  ·rw [if_pos wi'] at h
   obtain ⟨v, hpv, hy⟩ := h
   by_cases ej : effB s.sk j = true
   ·simp only [ej, if_true] at hy ⊢
    obtain ⟨hwj, hz, hk⟩ := hy
    rw [wj] at hwj
    refine ⟨hwj, fun w hw hp => (Zck (ops := ops) hsj h1).1 (hz w hw hp), fun u hu => ?_⟩
    have h9 := hk u hu
    rw [pc] at h9
    simp only [wi, wi', if_true]
    exact ⟨v, fun w hw => (Zbp (ops := ops) hsi h3).2 (hpv w hw), h9⟩
   ·simp only [ej] at hy ⊢
    by_cases wj' : Region.wanted oj (yielded ops a.tmps) = true
    ·simp only [wj, wj', if_true] at hy ⊢
     obtain ⟨u, hpu, hk⟩ := hy
     rw [pc] at hk
     refine ⟨u, fun w hw => (Zbp (ops := ops) hsj h1).1 (hpu w hw), ?_⟩
     simp only [wi, wi', if_true]
     exact ⟨v, fun w hw => (Zbp (ops := ops) hsi h3).2 (hpv w hw), hk⟩
    ·simp only [wj, wj', if_false] at hy ⊢
     rw [pc] at hy
     simp only [wi, wi', if_true]
     exact ⟨v, fun w hw => (Zbp (ops := ops) hsi h3).2 (hpv w hw), hy⟩
  ·rw [if_neg wi'] at h
   by_cases ej : effB s.sk j = true
   ·simp only [ej, if_true] at h ⊢
    obtain ⟨hwj, hz, hk⟩ := h
    rw [wj] at hwj
    refine ⟨hwj, fun w hw hp => (Zck (ops := ops) hsj h1).1 (hz w hw hp), fun u hu => ?_⟩
    have h9 := hk u hu
    rw [pc] at h9
    simp only [wi, wi', if_false]
    exact h9
   ·simp only [ej] at h ⊢
    by_cases wj' : Region.wanted oj (yielded ops a.tmps) = true
    ·simp only [wj, wj', if_true] at h ⊢
     obtain ⟨u, hpu, hk⟩ := h
     rw [pc] at hk
     refine ⟨u, fun w hw => (Zbp (ops := ops) hsj h1).1 (hpu w hw), ?_⟩
     simp only [wi, wi', if_false]
     exact hk
    ·simp only [wj, wj', if_false] at h ⊢
     rw [pc] at h
     simp only [wi, wi', if_false]
     exact h
def ancB (md : Region.Mode) (ops : Array Oper) : Nat → Nat → Nat → Bool
 | 0, _, _ => false
 | f + 1, k, d => match ops[k]? with
  | none => false
  | some o => o.after.any fun e => Region.binds md e && (e.on == d || ancB md ops f e.on d)
def ClosedL (md : Region.Mode) (ops : Array Oper) (listed : Array Bool) : Prop :=
 ∀ k o, ops[k]? = some o → listed.getD k false = true → ∀ e ∈ o.after, Region.binds md e = true → listed.getD e.on false = true
theorem Zbg {listed : Array Bool} (hc : ClosedL md ops listed) : ∀ (f k d : Nat), (∀ o, ops[k]? = some o → ∀ e ∈ o.after, Region.binds md e = true → listed.getD e.on false = true) → ancB md ops f k d = true → listed.getD d false = true
 | 0, _, _, _, h => by simp [ancB] at h
 | f + 1, k, d, hk, h => by
  unfold ancB at h
  cases ho : ops[k]? with
  | none => rw [ho] at h; simp at h
  | some o =>
   rw [ho] at h
   obtain ⟨e, he, hb⟩ := Array.any_eq_true'.1 h
   simp only [Bool.and_eq_true, Bool.or_eq_true, beq_iff_eq] at hb
   have hl := hk o ho e he hb.1
   rcases hb.2 with rfl | h2
   ·exact hl
   ·exact Zbg hc f e.on d (fun o' ho' e' he' hb' => hc _ o' ho' hl e' he' hb') h2
theorem ClosedL.set {listed : Array Bool} {i : Nat} (hc : ClosedL md ops listed) (hi : i ∈ Region.ready md ops listed) : ClosedL md ops (listed.setIfInBounds i true) := by
 intro k o ho hl e he hb
 obtain ⟨_, oi, hoi, hall⟩ := mem_ready.1 hi
 by_cases hki : i = k
 ·subst hki
  rw [ho] at hoi; injection hoi with hoi; subst hoi
  exact getD_set_true (hall e he hb)
 ·rw [getD_set_ne false hki] at hl
  exact getD_set_true (hc k o ho hl e he hb)
def goodB (md : Region.Mode) (ops : Array Oper) (sk : List (Nat × List Nat × List Nat)) (inits fin : List Nat) : Bool :=
 sk.all (fun e => decide (e.1 < ops.size) &&
  e.2.1.all (fun d => inits.contains d || (effB sk d && ancB md ops ops.size e.1 d)) &&
  e.2.2.all (fun d => e.2.1.contains d && sk.all fun e' => (e'.1 == e.1 || !e'.2.1.contains d) || ancB md ops ops.size e.1 e'.1)) &&
 inits.all (fun d => decide (ops.size ≤ d)) &&
 fin.all (fun d => (inits.contains d || effB sk d) && sk.all fun e => !e.2.2.contains d)
structure GoodS (md : Region.Mode) (ops : Array Oper) (sk : List (Nat × List Nat × List Nat)) (inits fin : List Nat) : Prop where
 deps : ∀ k d, d ∈ depsL sk k → d ∈ inits ∨ (effB sk d = true ∧ ancB md ops ops.size k d = true)
 cons : ∀ k d, d ∈ consL sk k → d ∈ depsL sk k ∧ effB sk k = true ∧ ∀ j, j ≠ k → d ∈ depsL sk j → ancB md ops ops.size k j = true
 ini : ∀ d ∈ inits, ops.size ≤ d
 lt : ∀ k, effB sk k = true → k < ops.size
 fi : ∀ d ∈ fin, (d ∈ inits ∨ effB sk d = true) ∧ ∀ k, d ∉ consL sk k
theorem find_mem {sk : List (Nat × List Nat × List Nat)} {k : Nat} {e : Nat × List Nat × List Nat} (h : (sk.find? fun e => e.1 == k) = some e) : e ∈ sk ∧ e.1 = k :=
 ⟨List.mem_of_find?_eq_some h, by have := List.find?_some h; simpa using this⟩
theorem depsL_mem {sk : List (Nat × List Nat × List Nat)} {k d : Nat} (h : d ∈ depsL sk k) : ∃ e ∈ sk, e.1 = k ∧ d ∈ e.2.1 := by
 unfold depsL at h
 cases hf : sk.find? fun e => e.1 == k with
 | none => rw [hf] at h; simp at h
 | some e => rw [hf] at h; obtain ⟨h1, h2⟩ := find_mem hf; exact ⟨e, h1, h2, by simpa using h⟩
theorem goodS_of {md : Region.Mode} {ops : Array Oper} {sk : List (Nat × List Nat × List Nat)} {inits fin : List Nat} (h : goodB md ops sk inits fin = true) : GoodS md ops sk inits fin := by
 simp only [goodB, Bool.and_eq_true, List.all_eq_true, Bool.or_eq_true, Bool.not_eq_true', List.contains_eq_mem, decide_eq_true_eq, decide_eq_false_iff_not, beq_iff_eq] at h
 obtain ⟨⟨h1, h2⟩, h3⟩ := h
 refine ⟨fun k d hd => ?_, fun k d hd => ?_, h2, fun k he => ?_, fun d hd => ?_⟩
 ·obtain ⟨e, hm, rfl, hde⟩ := depsL_mem hd
  exact (h1 e hm).1.2 d hde
 ·unfold consL at hd
  cases hf : sk.find? fun e => e.1 == k with
  | none => rw [hf] at hd; simp at hd
  | some e =>
   rw [hf] at hd
   obtain ⟨hm, rfl⟩ := find_mem hf
   have hd' : d ∈ e.2.2 := by simpa using hd
   obtain ⟨q1, q2⟩ := (h1 e hm).2 d hd'
   refine ⟨by unfold depsL; rw [hf]; simpa using q1, by simp only [effB, List.any_eq_true, beq_iff_eq]; exact ⟨e, hm, rfl⟩, fun j hj hdj => ?_⟩
   obtain ⟨e', hm', rfl, hde'⟩ := depsL_mem hdj
   rcases q2 e' hm' with (h | h) | h
   ·exact absurd h hj
   ·exact absurd hde' h
   ·exact h
 ·simp only [effB, List.any_eq_true, beq_iff_eq] at he
  obtain ⟨e, hm, rfl⟩ := he
  exact (h1 e hm).1.1
 ·obtain ⟨q1, q2⟩ := h3 d hd
  refine ⟨q1, fun k hc => ?_⟩
  unfold consL at hc
  cases hf : sk.find? fun e => e.1 == k with
  | none => rw [hf] at hc; simp at hc
  | some e => rw [hf] at hc; exact q2 e (find_mem hf).1 (by simpa using hc)
theorem anySep_first {n : Nat} {L : Act → (Nat → Value) → Prop} (g : GoodS md ops s.sk s.inits s.fin) (hv : ∀ k ds, ∃ v, s.vals k ds v) (hC : ∃ w, s.C w) {i : Nat} {oi : Oper} (hi : ops[i]? = some oi) (hin : i < n) (hsel : ∀ (j : Nat) (o : Oper) cs b, ops[j]? = some o → o.op ≠ .select cs b) :
 ∀ (fuel : Nat) (listed : Array Bool) (a : Act) (ρ : Nat → Value), ClosedL md ops listed →
  (∀ j oj, ops[j]? = some oj → j ≠ i → listed.getD j true = false → (∀ e ∈ oj.after, Region.binds md e = true → e.on ≠ i) → oi.apart ops oj = true) →
  i ∈ Region.ready md ops listed → sepOp s P ops i (anySep s P md ops n L fuel (listed.setIfInBounds i true)) a ρ → anySep s P md ops n L (fuel + 1) listed a ρ := by
 have unl : ∀ {listed : Array Bool} {i : Nat}, i ∈ Region.ready md ops listed → listed.getD i false = true → False := fun {listed i} hr h1 => by
  have h0 := (mem_ready.1 hr).1
  rcases Nat.lt_or_ge i listed.size with h' | h'
  ·simp [h'] at h0 h1; rw [h0] at h1; cases h1
  ·simp [Array.getElem?_eq_none h'] at h1
 have nodep : ∀ {listed : Array Bool} {i j : Nat}, ClosedL md ops listed → i ∈ Region.ready md ops listed → j ∈ Region.ready md ops listed → i ∉ depsL s.sk j := fun {listed i j} hc hr hj hd => by
  rcases g.deps j i hd with h | ⟨_, h⟩
  ·obtain ⟨_, o, ho, _⟩ := mem_ready.1 hr
   have := g.ini i h
   have := (Array.getElem?_eq_some_iff.1 ho).1
   omega
  ·obtain ⟨_, o, ho, hall⟩ := mem_ready.1 hj
   exact unl hr (Zbg hc _ j i (fun o' ho' e he hb => by rw [ho] at ho'; injection ho' with ho'; subst ho'; exact hall e he hb) h)
 have nodep2 : ∀ {listed : Array Bool} {i j : Nat}, ClosedL md ops listed → i ∈ Region.ready md ops listed → j ∈ Region.ready md ops listed → ∀ d ∈ depsL s.sk j, i ∉ depsL s.sk d := fun {listed i j} hc hr hj d hd hid => by
  obtain ⟨_, oi', hoi', _⟩ := mem_ready.1 hr
  have hlt := (Array.getElem?_eq_some_iff.1 hoi').1
  rcases g.deps j d hd with h | ⟨_, h⟩
  ·have h1 := g.ini d h
   obtain ⟨e, he, h2, _⟩ := depsL_mem hid
   have h3 := g.lt d (by simp only [effB, List.any_eq_true, beq_iff_eq]; exact ⟨e, he, h2⟩)
   omega
  ·obtain ⟨_, o, ho, hall⟩ := mem_ready.1 hj
   have hdl := Zbg hc _ j d (fun o' ho' e he hb => by rw [ho] at ho'; injection ho' with ho'; subst ho'; exact hall e he hb) h
   rcases g.deps d i hid with h' | ⟨_, h'⟩
   ·have := g.ini i h'; omega
   ·exact unl hr (Zbg hc _ d i (fun o' ho' e he hb => hc d o' ho' hdl e he hb) h')
 intro fuel
 induction fuel with
 | zero =>
  intro listed a ρ hc _ hr H
  refine ⟨fun h => absurd (h i hr) (by omega), fun j hj hjn => ?_⟩
  by_cases hji : j = i
  ·subst hji; exact H
  ·exfalso
   have hn := ready_mono hj hji
   have hz : ∀ a ρ, anySep s P md ops n L 0 (listed.setIfInBounds i true) a ρ → False := fun a ρ h => by have := h.1 j hn; omega
   rw [Zbw hi] at H
   unfold sepNode at H
   split at H
   ·obtain ⟨v0, hv0⟩ := hv i (s.dv ρ i); exact hz _ _ (H.2.2 v0 hv0)
   ·split at H
    ·obtain ⟨v, _, h⟩ := H; exact hz _ _ h
    ·exact hz _ _ H
 | succ fuel ih =>
  intro listed a ρ hc hfree hr H
  refine ⟨fun h => absurd (h i hr) (by omega), fun j hj hjn => ?_⟩
  by_cases hji : j = i
  ·subst hji; exact H
  ·obtain ⟨hjun, oj, hoj, hall⟩ := mem_ready.1 hj
   have hnot : ∀ e ∈ oj.after, Region.binds md e = true → e.on ≠ i := fun e he hb heq => unl hr (heq ▸ hall e he hb)
   have hij := nodep hc hr hj
   have hdij := nodep hc hj hr
   have h1 : sepNode s P ops i oi (fun a ρ => sepNode s P ops j oj (anySep s P md ops n L fuel ((listed.setIfInBounds i true).setIfInBounds j true)) a ρ) a ρ := by
    rw [Zbw hi] at H
    exact Zce (fun a' ρ' h' => by have := h'.2 j (ready_mono hj hji) hjn; rwa [Zbw hoj] at this) H
   have h2 := sepNode_swap (Ne.symm hji) (hfree j oj hoj hji hjun hnot) (fun cs b => hsel i oi cs b hi) (fun cs b => hsel j oj cs b hoj) hdij hij
    (fun h => hdij (g.cons i j h).1) (fun h => hij (g.cons j i h).1) (nodep2 hc hj hr) (nodep2 hc hr hj) (fun d hd => nodep2 hc hj hr d (g.cons i d hd).1) (fun d hd => nodep2 hc hr hj d (g.cons j d hd).1) hv hC h1
   have hfree' : ∀ k ok, ops[k]? = some ok → k ≠ i → (listed.setIfInBounds j true).getD k true = false →
    (∀ e ∈ ok.after, Region.binds md e = true → e.on ≠ i) → oi.apart ops ok = true := fun k ok hk hki hun hno => by
    refine hfree k ok hk hki ?_ hno
    by_cases hjk : j = k
    ·subst hjk; exact hjun
    ·rw [getD_set_ne true hjk] at hun; exact hun
   rw [Zbw hoj]
   refine Zce (fun a' ρ' h3 => ih (listed.setIfInBounds j true) a' ρ' (hc.set hj) hfree' (ready_mono hr (Ne.symm hji)) ?_) h2
   rw [Zbw hi, Array.setIfInBounds_comm _ _ hji]
   exact h3
def lexPre (md : Region.Mode) (ops : Array Oper) : Nat → Nat → Array Bool → Bool
 | 0, _, _ => true
 | fuel + 1, k, listed => (Region.ready md ops listed).contains k && Region.free md ops listed k && lexPre md ops fuel (k + 1) (listed.setIfInBounds k true)
def tailB (md : Region.Mode) (ops : Array Oper) (n : Nat) : Bool :=
 Region.noSelect ops && decide (n ≤ ops.size) && lexPre md ops n 0 (Array.replicate ops.size false) &&
 (List.range ops.size).all fun k => (((ops[k]?).map fun o => o.after.all fun e => !Region.binds md e || decide (e.on < k)).getD false) && (decide (k < n) || (List.range k).all fun j => ancB md ops ops.size k j)
theorem anySep_lex {L' : Act → (Nat → Value) → Prop} (g : GoodS md ops s.sk s.inits s.fin) (hv : ∀ k ds, ∃ v, s.vals k ds v) (hC : ∃ w, s.C w) (hs : Region.noSelect ops = true) {n : Nat} : ∀ (l : List Oper) (k : Nat) (listed : Array Bool) (a : Act) (ρ : Nat → Value), (∀ j, j < l.length → l[j]? = ops[k + j]?) → k + l.length = n →
 ClosedL md ops listed → listed.size = ops.size → (∀ j, j < k → j < ops.size → listed.getD j false = true) → lexPre md ops l.length k listed = true → wpSep s P ops L' k l a ρ →
 anySep s P md ops n L' l.length listed a ρ
 | [], k, listed, _, _, hl, hkn, hc, hsz, hlt, hB, h => ⟨fun i hi => by
  obtain ⟨hun, o, ho, _⟩ := mem_ready.1 hi
  have h1 := (Array.getElem?_eq_some_iff.1 ho).1
  rcases Nat.lt_or_ge i n with h2 | h2
  ·exfalso
   have h3 := hlt i (by simp at hkn; omega) h1
   have h4 : i < listed.size := by omega
   simp [h4] at hun h3; rw [hun] at h3; cases h3
  ·exact h2, h⟩
 | o :: l, k, listed, a, ρ, hl, hkn, hc, hsz, hlt, hB, h => by
  have h0 : ops[k]? = some o := by simpa using (hl 0 (by simp)).symm
  simp only [List.length_cons, lexPre, Bool.and_eq_true] at hB
  obtain ⟨⟨hr, hf⟩, hB'⟩ := hB
  have hr' : k ∈ Region.ready md ops listed := by simpa using hr
  simp only [List.length_cons] at hkn
  refine anySep_first g hv hC h0 (by omega) (Region.noSelect_spec hs) l.length listed a ρ hc (Region.free_spec h0 hf) hr' ?_
  rw [Zbw h0]
  refine Zce (fun a' ρ' h' => anySep_lex g hv hC hs l (k + 1) _ _ _ (fun j hj => by have := hl (j + 1) (by simpa using hj); simpa [Nat.add_assoc, Nat.add_comm 1 j] using this) (by omega) (hc.set hr') (by simpa using hsz) (fun j hj hjs => ?_) hB' h') h
  by_cases hjk : k = j
  ·subst hjk; simp [hsz, hjs]
  ·exact getD_set_true (hlt j (by omega) hjs)
theorem wpAny_tail {Q : Exit → Act → World → Prop} (hback : ∀ k o, ops[k]? = some o → ∀ e ∈ o.after, Region.binds md e = true → e.on < k) {n : Nat} (htail : ∀ k, n ≤ k → k < ops.size → ∀ j, j < k → ancB md ops ops.size k j = true) :
 ∀ (l : List Oper) (k fuel : Nat) (listed : Array Bool) (a : Act) (w : World), n ≤ k → k + l.length = ops.size → (∀ j, l[j]? = ops[k + j]?) → ClosedL md ops listed → listed.size = ops.size → (∀ j, j < k → listed.getD j false = true) → (∀ j, k ≤ j → j < ops.size → listed.getD j true = false) → l.length ≤ fuel →
  wpList P ops Q l a w → wpAny P md ops Q fuel listed a w
 | [], k, fuel, listed, a, w, hnk, hkl, hl, hc, hsz, hlt, hge, hf, h => by
  have hr : Region.ready md ops listed = [] := by
   rw [List.eq_nil_iff_forall_not_mem]
   intro i hi
   obtain ⟨hun, o, ho, _⟩ := mem_ready.1 hi
   have h1 := (Array.getElem?_eq_some_iff.1 ho).1
   simp only [List.length_nil] at hkl
   have h3 := hlt i (by omega)
   have h4 : i < listed.size := by omega
   simp [h4] at hun h3; rw [hun] at h3; cases h3
  exact wpAny_done hr h fuel
 | o :: l, k, 0, listed, a, w, hnk, hkl, hl, hc, hsz, hlt, hge, hf, h => by simp at hf
 | o :: l, k, fuel + 1, listed, a, w, hnk, hkl, hl, hc, hsz, hlt, hge, hf, h => by
  have h0 : ops[k]? = some o := by simpa using (hl 0).symm
  simp only [List.length_cons] at hkl hf
  have hk : k ∈ Region.ready md ops listed := mem_ready.2 ⟨hge k lR (by omega), o, h0, fun e he hb => hlt e.on (hback k o h0 e he hb)⟩
  have hr : ∀ i ∈ Region.ready md ops listed, i = k := fun i hi => by
   obtain ⟨hun, oi, hoi, hall⟩ := mem_ready.1 hi
   have h1 := (Array.getElem?_eq_some_iff.1 hoi).1
   rcases Nat.lt_trichotomy i k with h2 | h2 | h2
   ·exfalso
    have h3 := hlt i h2
    have h4 : i < listed.size := by omega
    simp [h4] at hun h3; rw [hun] at h3; cases h3
   ·exact h2
   ·exfalso
    have h3 := Zbg hc _ i k (fun o' ho' e he hb => by rw [hoi] at ho'; injection ho' with ho'; subst ho'; exact hall e he hb) (htail i (by omega) h1 k h2)
    have h5 := hge k lR (by omega)
    have h4 : k < listed.size := by omega
    simp [h4] at h3 h5; rw [h5] at h3; cases h3
  refine ⟨fun h9 => (by rw [h9] at hk; cases hk), fun i hi => ?_⟩
  obtain rfl := hr i hi
  unfold wpOp
  simp only [h0]
  unfold wpList at h
  have go : ∀ a' w', wpList P ops Q l a' w' → wpAny P md ops Q fuel (listed.setIfInBounds i true) a' w' := fun a' w' h' =>
   wpAny_tail hback htail l (i + 1) fuel _ a' w' (by omega) (by omega) (fun j => by have := hl (j + 1); simpa [Nat.add_assoc, Nat.add_comm 1 j] using this) (hc.set hi) (by simpa using hsz)
    (fun j hj => by
     by_cases hij : i = j
     ·subst hij; simp [hsz]; omega
     ·exact getD_set_true (hlt j (by omega)))
    (fun j hj hjs => by rw [getD_set_ne true (by omega)]; exact hge j (by omega) hjs) (by omega) h'
  split at h
  ·rename_i hw; rw [if_pos hw]; exact h.imp (Oper.wp_mono go) id
  ·rename_i hw; rw [if_neg hw]; exact go _ _ h
/-! What holds in the midst of the region. -/
def liveS (s : Sep) (listed : Array Bool) (d : Nat) : Prop := (d ∈ s.inits ∨ (effB s.sk d = true ∧ listed.getD d false = true)) ∧ ∀ k, listed.getD k false = true → d ∉ consL s.sk k
def InvS (s : Sep) (listed : Array Bool) (ρ : Nat → Value) (w : World) : Prop :=
 s.C w ∧ (∀ d, liveS s listed d → s.has d ρ w) ∧ ∀ d d', liveS s listed d → liveS s listed d' → d ≠ d' → ∀ b, s.blk d (s.dv ρ d) (ρ d) b → ¬ s.blk d' (s.dv ρ d') (ρ d') b
structure Firm (s : Sep) : Prop where
 C : ∀ w w' S, s.C w → Alt S w w' → (∀ b, S b → s.Ok b) → s.C w'
 new : ∀ w b, s.C w → w.heap.size ≤ b → s.Ok b
 R : ∀ k ds v w w' S, s.C w → s.R k ds v w → Alt S w w' → (∀ b, S b → s.Ok b) → (∀ b, s.blk k ds v b → ¬ S b ∧ b < w.heap.size) → s.R k ds v w'
 vals : ∀ k ds, ∃ v, s.vals k ds v
theorem wp_of_sepAt {o : Oper} {a : Act} {w : World} {post : Value → World → Prop} {K : Act → World → Prop} {Q : Exit → Act → World → Prop} (h : sepAt P o a post w) (hk : ∀ v w', post v w' → K (a.put o.dst v) w') : o.wp P a w K Q := by
 unfold sepAt at h
 unfold Oper.wp
 generalize (execOp a.eval o).run P w = r at *
 cases r with
 | ok n w' =>
  cases n <;> simp only [sepUpon] at h <;> simp only [Oper.upon]
  case value u => exact hk _ _ h
  case skip => exact hk _ _ h
  case enter f args => exact h.mono fun e w'' ⟨v, he, hp⟩ => by subst he; exact hk _ _ hp
 | halt x w' => simp only [sepUpon] at h
theorem wp_of_pureAt {o : Oper} {a : Act} {w : World} {v : Value} {K : Act → World → Prop} {Q : Exit → Act → World → Prop} (h : pureAt P o a w v) (hk : K (a.put o.dst v) w) : o.wp P a w K Q := by
 unfold pureAt at h
 unfold Oper.wp
 generalize (execOp a.eval o).run P w = r at *
 cases r with
 | ok n w' =>
  cases n <;> simp only [pureUpon] at h <;> simp only [Oper.upon]
  case value u => obtain ⟨rfl, rfl⟩ := h; exact hk
  case skip => obtain ⟨rfl, rfl⟩ := h; exact hk
 | halt x w' => simp only [pureUpon] at h
theorem wpAny_of_sep {n : Nat} {L' : Act → (Nat → Value) → Prop} {Q : Exit → Act → World → Prop} (g : GoodS md ops s.sk s.inits s.fin) (f : Firm s) (hnn : n ≤ ops.size) (hlow : ∀ k, effB s.sk k = true → k < n)
 (hback : ∀ k o, ops[k]? = some o → ∀ e ∈ o.after, Region.binds md e = true → e.on < k) (htail : ∀ k, n ≤ k → k < ops.size → ∀ j, j < k → ancB md ops ops.size k j = true)
 (hQ : ∀ a ρ w, s.C w → s.hasAll ρ w s.fin → s.apart ρ s.fin → L' a ρ → wpList P ops Q (ops.toList.drop n) a w) : ∀ (fuel : Nat) (listed : Array Bool) (a : Act) (ρ : Nat → Value) (w : World), ClosedL md ops listed → listed.size = ops.size → (∀ j, n ≤ j → j < ops.size → listed.getD j true = false) → InvS s listed ρ w →
 anySep s P md ops n L' fuel listed a ρ → wpAny P md ops Q (fuel + (ops.size - n)) listed a w := by
 have leaf : ∀ (fuel : Nat) (listed : Array Bool) (a : Act) (ρ : Nat → Value) (w : World), ClosedL md ops listed → listed.size = ops.size → (∀ j, n ≤ j → j < ops.size → listed.getD j true = false) → InvS s listed ρ w → (∀ j, j < n → listed.getD j false = true) → L' a ρ → wpAny P md ops Q (fuel + (ops.size - n)) listed a w := fun fuel listed a ρ w hc hsz hge hI hl h => by
  have hlive : ∀ d ∈ s.fin, liveS s listed d := fun d hd => by
   obtain ⟨h1, h2⟩ := g.fi d hd
   exact ⟨h1.imp id fun he => ⟨he, hl d (hlow d he)⟩, fun k _ => h2 k⟩
  have h1 := hQ a ρ w hI.1 (Sep.hasAll_iff.2 fun d hd => hI.2.1 d (hlive d hd)) (fun d hd d' hd' hn => hI.2.2 d d' (hlive d hd) (hlive d' hd') hn) h
  exact wpAny_tail hback htail (ops.toList.drop n) n _ listed a w lR (by simp; omega) (fun j => by simp) hc hsz hl hge (by simp) h1
 have some_ready : ∀ (listed : Array Bool), listed.size = ops.size → ¬ (∀ j, j < n → listed.getD j false = true) → ∃ i, i ∈ Region.ready md ops listed ∧ i < n ∧ listed.getD i true = false := fun listed hsz hno => by
  have key : ∀ m, (∀ j, j < m → j < n → listed.getD j false = true) ∨ ∃ i, i < n ∧ listed.getD i true = false ∧ ∀ j, j < i → listed.getD j false = true := fun m => by
   induction m with
   | zero => exact .inl fun j hj => by omega
   | succ m ih =>
    rcases ih with h | h
    ·by_cases hm : m < n
     ·cases hb : listed.getD m true with
      | false => exact .inr ⟨m, hm, hb, fun j hj => h j hj (by omega)⟩
      | true =>
       refine .inl fun j hj hjn => ?_
       rcases Nat.lt_or_ge j m with h2 | h2
       ·exact h j h2 hjn
       ·obtain rfl : j = m := by omega
        have h4 : j < listed.size := by omega
        simpa [h4] using hb
     ·exact .inl fun j hj hjn => h j (by omega) hjn
    ·exact .inr h
  rcases key n with h | ⟨i, h1, h2, h3⟩
  ·exact absurd (fun j hj => h j hj hj) hno
  ·have hio : i < ops.size := by omega
   exact ⟨i, mem_ready.2 ⟨h2, ops[i], Array.getElem?_eq_getElem hio, fun e he hb => h3 e.on (hback i _ (Array.getElem?_eq_getElem hio) e he hb)⟩, h1, h2⟩
 intro fuel
 induction fuel with
 | zero =>
  intro listed a ρ w hc hsz hge hI h
  by_cases hall : ∀ j, j < n → listed.getD j false = true
  ·exact leaf 0 listed a ρ w hc hsz hge hI hall h.2
  ·obtain ⟨i, h1, h2, _⟩ := some_ready listed hsz hall
   have := h.1 i h1; omega
 | succ fuel ih =>
  intro listed a ρ w hc hsz hge hI h
  by_cases hdone : ∀ j, j < n → listed.getD j false = true
  ·refine leaf (fuel + 1) listed a ρ w hc hsz hge hI hdone (h.1 fun i hi => ?_)
   obtain ⟨hun, o, ho, _⟩ := mem_ready.1 hi
   have h1 := (Array.getElem?_eq_some_iff.1 ho).1
   rcases Nat.lt_or_ge i n with h2 | h2
   ·exfalso
    have h3 := hdone i h2
    have h4 : i < listed.size := by omega
    simp [h4] at hun h3; rw [hun] at h3; cases h3
   ·exact h2
  obtain ⟨i0, hi0, hi0n, hi0u⟩ := some_ready listed hsz hdone
  rw [show fuel + 1 + (ops.size - n) = (fuel + (ops.size - n)) + 1 by omega]
  refine ⟨fun h0 => (by rw [h0] at hi0; cases hi0), fun i hi => ?_⟩
  have hin : i < n := by
   rcases Nat.lt_or_ge i n with h2 | h2
   ·exact h2
   ·exfalso
    obtain ⟨_, oi, hoi, hall⟩ := mem_ready.1 hi
    have h1 := (Array.getElem?_eq_some_iff.1 hoi).1
    have h3 := Zbg hc _ i i0 (fun o' ho' e he hb => by rw [hoi] at ho'; injection ho' with ho'; subst ho'; exact hall e he hb) (htail i h2 h1 i0 (by omega))
    have h4 : i0 < listed.size := by omega
    simp [h4] at h3 hi0u; rw [hi0u] at h3; cases h3
  have hn := h.2 i hi hin
  have hsz' : (listed.setIfInBounds i true).size = ops.size := by simpa using hsz
  have hge' : ∀ j, n ≤ j → j < ops.size → (listed.setIfInBounds i true).getD j true = false := fun j hj hjs => by rw [getD_set_ne true (by omega)]; exact hge j hj hjs
  obtain ⟨hun, o, ho, hall⟩ := mem_ready.1 hi
  have unl : listed.getD i false = true → False := fun h1 => by
   rcases Nat.lt_or_ge i listed.size with h' | h'
   ·simp [h'] at hun h1; rw [hun] at h1; cases h1
   ·simp [Array.getElem?_eq_none h'] at h1
  rw [Zbw ho] at hn
  unfold sepNode at hn
  unfold wpOp
  simp only [ho]
  -- an operation that changes nothing
  have easy : effB s.sk i = false → InvS s (listed.setIfInBounds i true) ρ w := fun he => by
   have hl : ∀ d, liveS s (listed.setIfInBounds i true) d → liveS s listed d := fun d hd => by
    refine ⟨hd.1.imp id fun ⟨h1, h2⟩ => ⟨h1, ?_⟩, fun k hk => hd.2 k (getD_set_true hk)⟩
    by_cases hid : i = d
    ·subst hid; rw [he] at h1; cases h1
    ·rwa [getD_set_ne false hid] at h2
   exact ⟨hI.1, fun d hd => hI.2.1 d (hl d hd), fun d d' hd hd' => hI.2.2 d d' (hl d hd) (hl d' hd')⟩
  split at hn
  ·rename_i he
   rw [if_pos hn.1]
   refine .inl ?_
   have hdl : ∀ d ∈ depsL s.sk i, liveS s listed d := fun d hd => by
    refine ⟨(g.deps i d hd).imp id fun ⟨h1, h2⟩ => ⟨h1, Zbg hc _ i d (fun o' ho' e he' hb => by rw [ho] at ho'; injection ho' with ho'; subst ho'; exact hall e he' hb) h2⟩, fun k hk hck => ?_⟩
    by_cases hki : i = k
    ·subst hki; exact unl hk
    ·exact unl (Zbg hc _ k i (fun o' ho' e he' hb => hc k o' ho' hk e he' hb) ((g.cons k d hck).2.2 i hki hd))
   have hcl : ∀ d ∈ consL s.sk i, liveS s listed d := fun d hd => hdl d (g.cons i d hd).1
   have hpre : s.pre i ρ w := ⟨Sep.hasAll_iff.2 fun d hd => hI.2.1 d (hdl d hd), fun d hd d' hd' hne => hI.2.2 d d' (hdl d hd) (hdl d' hd') hne⟩
   have hok : ∀ b, s.hit i ρ b → s.Ok b ∧ b < w.heap.size := fun b ⟨d, hd, hb⟩ => (hI.2.1 d (hcl d hd)).2 b hb
   refine wp_of_sepAt (hn.2.1 w hI.1 hpre) fun v w' hp => ?_
   obtain ⟨hv, hR, hA, hB⟩ := hp
   refine ih _ _ _ _ (hc.set hi) hsz' hge' ?_ (hn.2.2 v hv)
   have hCw := f.C w w' _ hI.1 hA (fun b hb => (hok b hb).1)
   have hl : ∀ d, d ≠ i → liveS s (listed.setIfInBounds i true) d → liveS s listed d ∧ d ∉ consL s.sk i := fun d hdi hd => by
    refine ⟨⟨hd.1.imp id fun ⟨h1, h2⟩ => ⟨h1, by rwa [getD_set_ne false (Ne.symm hdi)] at h2⟩, fun k hk => hd.2 k (getD_set_true hk)⟩, hd.2 i ?_⟩
    have hls : i < listed.size := by
     rcases Nat.lt_or_ge i listed.size with h' | h'
     ·exact h'
     ·simp [Array.getElem?_eq_none h'] at hun
    simp [hls]
   have hnd : ∀ d, d ≠ i → liveS s (listed.setIfInBounds i true) d → i ∉ depsL s.sk d := fun d hdi hd hid => by
    rcases (hl d hdi hd).1.1 with h | ⟨_, h⟩
    ·have h1 := g.ini d h
     obtain ⟨e, he', h2, _⟩ := depsL_mem hid
     have h3 := g.lt d (by simp only [effB, List.any_eq_true, beq_iff_eq]; exact ⟨e, he', h2⟩)
     omega
    ·rcases g.deps d i hid with h' | ⟨_, h'⟩
     ·have := g.ini i h'
      have := (Array.getElem?_eq_some_iff.1 ho).1
      omega
     ·exact unl (Zbg hc _ d i (fun o' ho' e he' hb => hc d o' ho' h e he' hb) h')
   have hni : i ∉ depsL s.sk i := fun hid => unl (by
    rcases g.deps i i hid with h' | ⟨_, h'⟩
    ·have := g.ini i h'
     have := (Array.getElem?_eq_some_iff.1 ho).1
     omega
    ·exact Zbg hc _ i i (fun o' ho' e he' hb => by rw [ho] at ho'; injection ho' with ho'; subst ho'; exact hall e he' hb) h')
   have hnh : ∀ d, d ≠ i → liveS s (listed.setIfInBounds i true) d → ∀ b, s.blk d (s.dv ρ d) (ρ d) b → ¬ s.hit i ρ b ∧ b < w.heap.size := fun d hdi hd b hb => by
    obtain ⟨h1, h2⟩ := hl d hdi hd
    refine ⟨fun ⟨d', hd', hb'⟩ => hI.2.2 d d' h1 (hcl d' hd') (fun e => h2 (e ▸ hd')) b hb hb', ((hI.2.1 d h1).2 b hb).2⟩
   refine ⟨hCw, fun d hd => ?_, fun d d' hd hd' hne b hb hb' => ?_⟩
   ·by_cases hdi : d = i
    ·subst hdi
     unfold Sep.has
     rw [upd_same, Sep.dv_upd hni]
     exact ⟨hR, fun b hb => ⟨(hB b hb).2.elim (fun h => f.new w b hI.1 h) (fun h => (hok b h).1), (hB b hb).1⟩⟩
    ·unfold Sep.has
     rw [upd_ne hdi, Sep.dv_upd (hnd d hdi hd)]
     have h1 := hI.2.1 d (hl d hdi hd).1
     exact ⟨f.R d (s.dv ρ d) (ρ d) w w' _ hI.1 h1.1 hA (fun b hb => (hok b hb).1) (hnh d hdi hd), fun b hb => ⟨(h1.2 b hb).1, Nat.lt_of_lt_of_le (h1.2 b hb).2 hA.size⟩⟩
   ·by_cases hdi : d = i
    ·subst hdi
     rw [upd_same, Sep.dv_upd hni] at hb
     rw [upd_ne (Ne.symm hne), Sep.dv_upd (hnd d' (Ne.symm hne) hd')] at hb'
     obtain ⟨h1, h2⟩ := hnh d' (Ne.symm hne) hd' b hb'
     rcases (hB b hb).2 with h | h
     ·omega
     ·exact h1 h
    ·rw [upd_ne hdi, Sep.dv_upd (hnd d hdi hd)] at hb
     by_cases hdi' : d' = i
     ·subst hdi'
      rw [upd_same, Sep.dv_upd hni] at hb'
      obtain ⟨h1, h2⟩ := hnh d hdi hd b hb
      rcases (hB b hb').2 with h | h
      ·omega
      ·exact h1 h
     ·rw [upd_ne hdi', Sep.dv_upd (hnd d' hdi' hd')] at hb'
      exact hI.2.2 d d' (hl d hdi hd).1 (hl d' hdi' hd').1 hne b hb hb'
  ·rename_i he
   have he' : effB s.sk i = false := by simpa using he
   split at hn
   ·rename_i hw
    rw [if_pos hw]
    obtain ⟨v, hp, hk⟩ := hn
    exact .inl (wp_of_pureAt (hp w hI.1) (ih _ _ _ _ (hc.set hi) hsz' hge' (easy he') hk))
   ·rename_i hw
    rw [if_neg hw]
    exact ih _ _ _ _ (hc.set hi) hsz' hge' (easy he') hn
theorem repl_false (n d : Nat) : (Array.replicate n false).getD d false = true → False := by
 rcases Nat.lt_or_ge d n with h | h
 ·simp [h]
 ·simp [h]
theorem wp_region_sep (s : Sep) (n : Nat) {id : Nat} {Q : Exit → Act → World → Prop} {a : Act} {w : World} {l : List Oper} (ρ0 : Nat → Value) (hm : P.follows .mixedOrders = true) (hB : tailB .any l.toArray n = true) (hG : (goodB .any l.toArray s.sk s.inits s.fin && s.sk.all fun e => decide (e.1 < n)) = true) (f : Firm s)
 (hC : s.C (World.drew w)) (hi : s.hasAll ρ0 (World.drew w) s.inits) (ha : s.apart ρ0 s.inits)
 (h : wpSep s P l.toArray (fun a ρ => ∀ w', s.C w' → s.hasAll ρ w' s.fin → s.apart ρ s.fin → wpList P l.toArray Q (l.drop n) a w') 0 (l.take n) a ρ0) : (Code.region id l.toArray true).wp P Q a w := by
 simp only [tailB, Bool.and_eq_true, List.all_eq_true, List.mem_range, decide_eq_true_eq, Bool.or_eq_true] at hB
 obtain ⟨⟨⟨hB1, hB2⟩, hB3⟩, hB4⟩ := hB
 simp only [Bool.and_eq_true, List.all_eq_true, decide_eq_true_eq] at hG
 have g := goodS_of hG.1
 have hlow : ∀ k, effB s.sk k = true → k < n := fun k he => by
  simp only [effB, List.any_eq_true, beq_iff_eq] at he
  obtain ⟨e, hm, rfl⟩ := he
  exact hG.2 e hm
 have hback : ∀ k o, l.toArray[k]? = some o → ∀ e ∈ o.after, Region.binds .any e = true → e.on < k := fun k o ho e he hb => by
  have h1 := (hB4 k (Array.getElem?_eq_some_iff.1 ho).1).1
  rw [ho] at h1
  simp only [Option.map_some, Option.getD_some] at h1
  have h2 := Array.all_eq_true_iff_forall_mem.1 h1 e he
  simpa [hb] using h2
 have htail : ∀ k, n ≤ k → k < l.toArray.size → ∀ j, j < k → ancB .any l.toArray l.toArray.size k j = true := fun k hk hks j hj => by
  rcases (hB4 k hks).2 with h1 | h1
  ·omega
  ·exact h1 j hj
 have hc0 : ClosedL .any l.toArray (Array.replicate l.toArray.size false) := fun k o ho hl e he hb => by
  exact (repl_false _ _ hl).elim
 have hln : (l.take n).length = n := by simp at hB2 ⊢; omega
 have hsize : l.toArray.size = n + (l.toArray.size - n) := by omega
 refine wp_region_any hm ?_
 have h1 := anySep_lex (s := s) (P := P) (md := .any) (n := n) g f.vals ⟨_, hC⟩ hB1 (l.take n) 0 (Array.replicate l.toArray.size false) a ρ0 (fun j hj => by rw [hln] at hj; simp [List.getElem?_take, hj]) (by simpa using hln) hc0 (by simp) (fun j hj => by omega) (by rw [hln]; exact hB3) h
 have h2 := wpAny_of_sep (s := s) (Q := Q) g f hB2 hlow hback htail (fun a ρ w' hw' h1 h2 h => h w' hw' h1 h2) (l.take n).length (Array.replicate l.toArray.size false) a ρ0 (World.drew w) hc0 (by simp) (fun j _ hj => by simp at hj; simp [hj]) ?_ h1
 ·rw [hln, ← hsize] at h2; exact h2
 ·have hl : ∀ d, liveS s (Array.replicate l.toArray.size false) d → d ∈ s.inits := fun d hd => by
   rcases hd.1 with h | ⟨_, h⟩
   ·exact h
   ·exact (repl_false _ _ h).elim
  exact ⟨hC, fun d hd => Sep.hasAll_iff.1 hi d (hl d hd), fun d d' hd hd' hn => ha d (hl d hd) d' (hl d' hd') hn⟩
end
end Go.Proofs.YtnhmfedegfcflaaGreatDoor
