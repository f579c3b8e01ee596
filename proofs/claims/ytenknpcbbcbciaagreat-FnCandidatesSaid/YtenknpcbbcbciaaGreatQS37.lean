/- Drawn regions once more: what an operation uses up may be read by those that come ahead of it. No condition. -/
import Derived.Test.YtenknpcbbcbciaaGreatQS08
namespace Go.Proofs.YtenknpcbbcbciaaGreat
open Go.RowKit
set_option linter.unusedVariables false
set_option linter.unusedSimpArgs false
def goodBC (md : Region.Mode) (ops : Array Oper) (sk : List (Nat × List Nat × List Nat)) (inits fin : List Nat) : Bool :=
 sk.all (fun e => decide (e.1 < ops.size) &&
  e.2.1.all (fun d => inits.contains d || (effB sk d && ancB md ops ops.size e.1 d)) &&
  e.2.2.all (fun d => e.2.1.contains d && sk.all fun e' => e'.1 == e.1 || !e'.2.1.contains d || ancB md ops ops.size e.1 e'.1)) &&
 inits.all (fun d => decide (ops.size ≤ d)) &&
 fin.all (fun d => (inits.contains d || effB sk d) && sk.all fun e => !e.2.2.contains d)
structure GoodSC (md : Region.Mode) (ops : Array Oper) (sk : List (Nat × List Nat × List Nat)) (inits fin : List Nat) : Prop where
 deps : ∀ k d, d ∈ depsL sk k → d ∈ inits ∨ (effB sk d = true ∧ ancB md ops ops.size k d = true)
 cons : ∀ k d, d ∈ consL sk k → d ∈ depsL sk k ∧ effB sk k = true ∧ ∀ j, j ≠ k → d ∈ depsL sk j → ancB md ops ops.size k j = true
 ini : ∀ d ∈ inits, ops.size ≤ d
 lt : ∀ k, effB sk k = true → k < ops.size
 fi : ∀ d ∈ fin, (d ∈ inits ∨ effB sk d = true) ∧ ∀ k, d ∉ consL sk k
theorem goodS_ofC {md : Region.Mode} {ops : Array Oper} {sk : List (Nat × List Nat × List Nat)} {inits fin : List Nat} (h : goodBC md ops sk inits fin = true) : GoodSC md ops sk inits fin := by
 simp only [goodBC, Bool.and_eq_true, List.all_eq_true, Bool.or_eq_true, Bool.not_eq_true', List.contains_eq_mem, decide_eq_true_eq, decide_eq_false_iff_not, beq_iff_eq] at h
 obtain ⟨⟨h1, h2⟩, h3⟩ := h
 refine ⟨fun k d hd => ?_, fun k d hd => ?_, h2, fun k he => ?_, fun d hd => ?_⟩
 ·obtain ⟨e, hm, rfl, hde⟩ := Zdf hd
  exact (h1 e hm).1.2 d hde
 ·unfold consL at hd
  cases hf : sk.find? fun e => e.1 == k with
  | none => rw [hf] at hd; simp at hd
  | some e =>
   rw [hf] at hd
   obtain ⟨hm, rfl⟩ := find_mem hf
   have hd' : d ∈ e.2.2 := by simpa using hd
   obtain ⟨q1, q2⟩ := (h1 e hm).2 d hd'
   refine ⟨by unfold depsL; rw [hf]; simpa using q1, by simp only [effB, List.any_eq_true, beq_iff_eq]; exact ⟨e, hm, rfl⟩, fun j hj hdj => ?_⟩
   obtain ⟨e', hm', rfl, hde'⟩ := Zdf hdj
   rcases q2 e' hm' with (h | h) | h
   ·exact (hj h).elim
   ·exact (h hde').elim
   ·exact h
 ·simp only [effB, List.any_eq_true, beq_iff_eq] at he
  obtain ⟨e, hm, rfl⟩ := he
  exact (h1 e hm).1.1
 ·obtain ⟨q1, q2⟩ := h3 d hd
  refine ⟨q1, fun k hc => ?_⟩
  unfold consL at hc
  cases hf : sk.find? fun e => e.1 == k with
  | none => rw [hf] at hc; simp at hc
  | some e => rw [hf] at hc; exact q2 e (find_mem hf).1 (by simpa using hc)
section
variable {P : Program} {ops : Array Oper} {md : Region.Mode} {s : Sep}
theorem anySep_firstC {n : Nat} {L : Act → (Nat → Value) → Prop} (g : GoodSC md ops s.sk s.inits s.fin) (hv : ∀ k ds, ∃ v, s.vals k ds v) (hC : ∃ w, s.C w) {i : Nat} {oi : Oper} (hi : ops[i]? = some oi) (hin : i < n) (hsel : ∀ (j : Nat) (o : Oper) cs b, ops[j]? = some o → o.op ≠ .select cs b) :
 ∀ (fuel : Nat) (listed : Array Bool) (a : Act) (ρ : Nat → Value), ClosedL md ops listed →
  (∀ j oj, ops[j]? = some oj → j ≠ i → listed.getD j true = false → (∀ e ∈ oj.after, Region.binds md e = true → e.on ≠ i) → oi.apart ops oj = true) →
  i ∈ Region.ready md ops listed → sepOp s P ops i (anySep s P md ops n L fuel (listed.setIfInBounds i true)) a ρ → anySep s P md ops n L (fuel + 1) listed a ρ := by
 have unl : ∀ {listed : Array Bool} {i : Nat}, i ∈ Region.ready md ops listed → listed.getD i false = true → False := fun {listed i} hr h1 => by
  have h0 := (mem_ready.1 hr).1
  rcases Nat.lt_or_ge i listed.size with h' | h'
  ·simp [h'] at h0 h1; rw [h0] at h1; cases h1
  ·simp [Array.getElem?_eq_none h'] at h1
 have nodep : ∀ {listed : Array Bool} {i j : Nat}, ClosedL md ops listed → i ∈ Region.ready md ops listed → j ∈ Region.ready md ops listed → i ∉ depsL s.sk j := fun {listed i j} hc hr hj hd => by
  rcases g.deps j i hd with h | ⟨_, h⟩
  ·obtain ⟨_, o, ho, _⟩ := mem_ready.1 hr
   have := g.ini i h
   have := (Array.getElem?_eq_some_iff.1 ho).1
   omega
  ·obtain ⟨_, o, ho, hall⟩ := mem_ready.1 hj
   exact unl hr (Zaz hc _ j i (fun o' ho' e he hb => by rw [ho] at ho'; injection ho' with ho'; subst ho'; exact hall e he hb) h)
 have nodep2 : ∀ {listed : Array Bool} {i j : Nat}, ClosedL md ops listed → i ∈ Region.ready md ops listed → j ∈ Region.ready md ops listed → ∀ d ∈ depsL s.sk j, i ∉ depsL s.sk d := fun {listed i j} hc hr hj d hd hid => by
  obtain ⟨_, oi', hoi', _⟩ := mem_ready.1 hr
  have hlt := (Array.getElem?_eq_some_iff.1 hoi').1
  rcases g.deps j d hd with h | ⟨_, h⟩
  ·have h1 := g.ini d h
   obtain ⟨e, he, h2, _⟩ := Zdf hid
   have h3 := g.lt d (by simp only [effB, List.any_eq_true, beq_iff_eq]; exact ⟨e, he, h2⟩)
   omega
  ·obtain ⟨_, o, ho, hall⟩ := mem_ready.1 hj
   have hdl := Zaz hc _ j d (fun o' ho' e he hb => by rw [ho] at ho'; injection ho' with ho'; subst ho'; exact hall e he hb) h
   rcases g.deps d i hid with h' | ⟨_, h'⟩
   ·have := g.ini i h'; omega
   ·exact unl hr (Zaz hc _ d i (fun o' ho' e he hb => hc d o' ho' hdl e he hb) h')
 intro fuel
 induction fuel with
 | zero =>
  intro listed a ρ hc _ hr H
  refine ⟨fun h => absurd (h i hr) (by omega), fun j hj hjn => ?_⟩
  by_cases hji : j = i
  ·subst hji; exact H
  ·exfalso
   have hn := ready_mono hj hji
   have hz : ∀ a ρ, anySep s P md ops n L 0 (listed.setIfInBounds i true) a ρ → False := fun a ρ h => by have := h.1 j hn; omega
   rw [Zbk hi] at H
   unfold sepNode at H
   split at H
   ·obtain ⟨v0, hv0⟩ := hv i (s.dv ρ i); exact hz _ _ (H.2.2 v0 hv0)
   ·split at H
    ·obtain ⟨v, _, h⟩ := H; exact hz _ _ h
    ·exact hz _ _ H
 | succ fuel ih =>
  intro listed a ρ hc hfree hr H
  refine ⟨fun h => absurd (h i hr) (by omega), fun j hj hjn => ?_⟩
  by_cases hji : j = i
  ·subst hji; exact H
  ·obtain ⟨hjun, oj, hoj, hall⟩ := mem_ready.1 hj
   have hnot : ∀ e ∈ oj.after, Region.binds md e = true → e.on ≠ i := fun e he hb heq => unl hr (heq ▸ hall e he hb)
   have hij := nodep hc hr hj
   have hdij := nodep hc hj hr
   have h1 : sepNode s P ops i oi (fun a ρ => sepNode s P ops j oj (anySep s P md ops n L fuel ((listed.setIfInBounds i true).setIfInBounds j true)) a ρ) a ρ := by
    rw [Zbk hi] at H
    exact Zcb (fun a' ρ' h' => by have := h'.2 j (ready_mono hj hji) hjn; rwa [Zbk hoj] at this) H
   have h2 := sepNode_swap (Ne.symm hji) (hfree j oj hoj hji hjun hnot) (fun cs b => hsel i oi cs b hi) (fun cs b => hsel j oj cs b hoj) hdij hij
    (fun h => hdij (g.cons i j h).1) (fun h => hij (g.cons j i h).1) (nodep2 hc hj hr) (nodep2 hc hr hj) (fun d hd => nodep2 hc hj hr d (g.cons i d hd).1) (fun d hd => nodep2 hc hr hj d (g.cons j d hd).1) hv hC h1
   have hfree' : ∀ k ok, ops[k]? = some ok → k ≠ i → (listed.setIfInBounds j true).getD k true = false →
    (∀ e ∈ ok.after, Region.binds md e = true → e.on ≠ i) → oi.apart ops ok = true := fun k ok hk hki hun hno => by
    refine hfree k ok hk hki ?_ hno
    by_cases hjk : j = k
    ·subst hjk; exact hjun
    ·rw [getD_set_ne true hjk] at hun; exact hun
   rw [Zbk hoj]
   refine Zcb (fun a' ρ' h3 => ih (listed.setIfInBounds j true) a' ρ' (hc.set hj) hfree' (ready_mono hr (Ne.symm hji)) ?_) h2
   rw [Zbk hi, Array.setIfInBounds_comm _ _ hji]
   exact h3
theorem anySep_lexC {L' : Act → (Nat → Value) → Prop} (g : GoodSC md ops s.sk s.inits s.fin) (hv : ∀ k ds, ∃ v, s.vals k ds v) (hC : ∃ w, s.C w) (hs : Region.noSelect ops = true) {n : Nat} : ∀ (l : List Oper) (k : Nat) (listed : Array Bool) (a : Act) (ρ : Nat → Value), (∀ j, j < l.length → l[j]? = ops[k + j]?) → k + l.length = n →
 ClosedL md ops listed → listed.size = ops.size → (∀ j, j < k → j < ops.size → listed.getD j false = true) → lexPre md ops l.length k listed = true → wpSep s P ops L' k l a ρ →
 anySep s P md ops n L' l.length listed a ρ
 | [], k, listed, _, _, hl, hkn, hc, hsz, hlt, hB, h => ⟨fun i hi => by
  obtain ⟨hun, o, ho, _⟩ := mem_ready.1 hi
  have h1 := (Array.getElem?_eq_some_iff.1 ho).1
  rcases Nat.lt_or_ge i n with h2 | h2
  ·exfalso
   have h3 := hlt i (by simp at hkn; omega) h1
   have h4 : i < listed.size := by omega
   simp [h4] at hun h3; rw [hun] at h3; cases h3
  ·exact h2, h⟩
 | o :: l, k, listed, a, ρ, hl, hkn, hc, hsz, hlt, hB, h => by
  have h0 : ops[k]? = some o := by simpa using (hl 0 (by simp)).symm
  simp only [List.length_cons, lexPre, Bool.and_eq_true] at hB
  obtain ⟨⟨hr, hf⟩, hB'⟩ := hB
  have hr' : k ∈ Region.ready md ops listed := by simpa using hr
  simp only [List.length_cons] at hkn
  refine anySep_firstC g hv hC h0 (by omega) (Region.noSelect_spec hs) l.length listed a ρ hc (Region.free_spec h0 hf) hr' ?_
  rw [Zbk h0]
  refine Zcb (fun a' ρ' h' => anySep_lexC g hv hC hs l (k + 1) _ _ _ (fun j hj => by have := hl (j + 1) (by simpa using hj); simpa [Nat.add_assoc, Nat.add_comm 1 j] using this) (by omega) (hc.set hr') (by simpa using hsz) (fun j hj hjs => ?_) hB' h') h
  by_cases hjk : k = j
  ·subst hjk; simp [hsz, hjs]
  ·exact getD_set_true (hlt j (by omega) hjs)
theorem wpAny_of_sepC {n : Nat} {L' : Act → (Nat → Value) → Prop} {Q : Exit → Act → World → Prop} (g : GoodSC md ops s.sk s.inits s.fin) (f : Firm s) (hnn : n ≤ ops.size) (hlow : ∀ k, effB s.sk k = true → k < n)
 (hback : ∀ k o, ops[k]? = some o → ∀ e ∈ o.after, Region.binds md e = true → e.on < k) (htail : ∀ k, n ≤ k → k < ops.size → ∀ j, j < k → ancB md ops ops.size k j = true)
 (hQ : ∀ a ρ w, s.C w → s.hasAll ρ w s.fin → s.apart ρ s.fin → L' a ρ → wpList P ops Q (ops.toList.drop n) a w) : ∀ (fuel : Nat) (listed : Array Bool) (a : Act) (ρ : Nat → Value) (w : World), ClosedL md ops listed → listed.size = ops.size → (∀ j, n ≤ j → j < ops.size → listed.getD j true = false) → InvS s listed ρ w →
 anySep s P md ops n L' fuel listed a ρ → wpAny P md ops Q (fuel + (ops.size - n)) listed a w := by
 have leaf : ∀ (fuel : Nat) (listed : Array Bool) (a : Act) (ρ : Nat → Value) (w : World), ClosedL md ops listed → listed.size = ops.size → (∀ j, n ≤ j → j < ops.size → listed.getD j true = false) → InvS s listed ρ w → (∀ j, j < n → listed.getD j false = true) → L' a ρ → wpAny P md ops Q (fuel + (ops.size - n)) listed a w := fun fuel listed a ρ w hc hsz hge hI hl h => by
  have hlive : ∀ d ∈ s.fin, liveS s listed d := fun d hd => by
   obtain ⟨h1, h2⟩ := g.fi d hd
   exact ⟨h1.imp id fun he => ⟨he, hl d (hlow d he)⟩, fun k _ => h2 k⟩
  have h1 := hQ a ρ w hI.1 (Sep.hasAll_iff.2 fun d hd => hI.2.1 d (hlive d hd)) (fun d hd d' hd' hn => hI.2.2 d d' (hlive d hd) (hlive d' hd') hn) h
  exact wpAny_tail hback htail (ops.toList.drop n) n _ listed a w lR (by simp; omega) (fun j => by simp) hc hsz hl hge (by simp) h1
 have some_ready : ∀ (listed : Array Bool), listed.size = ops.size → ¬ (∀ j, j < n → listed.getD j false = true) → ∃ i, i ∈ Region.ready md ops listed ∧ i < n ∧ listed.getD i true = false := fun listed hsz hno => by
  have key : ∀ m, (∀ j, j < m → j < n → listed.getD j false = true) ∨ ∃ i, i < n ∧ listed.getD i true = false ∧ ∀ j, j < i → listed.getD j false = true := fun m => by
   induction m with
   | zero => exact .inl fun j hj => by omega
   | succ m ih =>
    rcases ih with h | h
    ·by_cases hm : m < n
     ·cases hb : listed.getD m true with
      | false => exact .inr ⟨m, hm, hb, fun j hj => h j hj (by omega)⟩
      | true =>
       refine .inl fun j hj hjn => ?_
       rcases Nat.lt_or_ge j m with h2 | h2
       ·exact h j h2 hjn
       ·obtain rfl : j = m := by omega
        have h4 : j < listed.size := by omega
        simpa [h4] using hb
     ·exact .inl fun j hj hjn => h j (by omega) hjn
    ·exact .inr h
  rcases key n with h | ⟨i, h1, h2, h3⟩
  ·exact absurd (fun j hj => h j hj hj) hno
  ·have hio : i < ops.size := by omega
   exact ⟨i, mem_ready.2 ⟨h2, ops[i], Array.getElem?_eq_getElem hio, fun e he hb => h3 e.on (hback i _ (Array.getElem?_eq_getElem hio) e he hb)⟩, h1, h2⟩
 intro fuel
 induction fuel with
 | zero =>
  intro listed a ρ w hc hsz hge hI h
  by_cases hall : ∀ j, j < n → listed.getD j false = true
  ·exact leaf 0 listed a ρ w hc hsz hge hI hall h.2
  ·obtain ⟨i, h1, h2, _⟩ := some_ready listed hsz hall
   have := h.1 i h1; omega
 | succ fuel ih =>
  intro listed a ρ w hc hsz hge hI h
  by_cases hdone : ∀ j, j < n → listed.getD j false = true
  ·refine leaf (fuel + 1) listed a ρ w hc hsz hge hI hdone (h.1 fun i hi => ?_)
   obtain ⟨hun, o, ho, _⟩ := mem_ready.1 hi
   have h1 := (Array.getElem?_eq_some_iff.1 ho).1
   rcases Nat.lt_or_ge i n with h2 | h2
   ·exfalso
    have h3 := hdone i h2
    have h4 : i < listed.size := by omega
    simp [h4] at hun h3; rw [hun] at h3; cases h3
   ·exact h2
  obtain ⟨i0, hi0, hi0n, hi0u⟩ := some_ready listed hsz hdone
  rw [show fuel + 1 + (ops.size - n) = (fuel + (ops.size - n)) + 1 by omega]
  refine ⟨fun h0 => (by rw [h0] at hi0; cases hi0), fun i hi => ?_⟩
  have hin : i < n := by
   rcases Nat.lt_or_ge i n with h2 | h2
   ·exact h2
   ·exfalso
    obtain ⟨_, oi, hoi, hall⟩ := mem_ready.1 hi
    have h1 := (Array.getElem?_eq_some_iff.1 hoi).1
    have h3 := Zaz hc _ i i0 (fun o' ho' e he hb => by rw [hoi] at ho'; injection ho' with ho'; subst ho'; exact hall e he hb) (htail i h2 h1 i0 (by omega))
    have h4 : i0 < listed.size := by omega
    simp [h4] at h3 hi0u; rw [hi0u] at h3; cases h3
  have hn := h.2 i hi hin
  have hsz' : (listed.setIfInBounds i true).size = ops.size := by simpa using hsz
  have hge' : ∀ j, n ≤ j → j < ops.size → (listed.setIfInBounds i true).getD j true = false := fun j hj hjs => by rw [getD_set_ne true (by omega)]; exact hge j hj hjs
  obtain ⟨hun, o, ho, hall⟩ := mem_ready.1 hi
  have unl : listed.getD i false = true → False := fun h1 => by
   rcases Nat.lt_or_ge i listed.size with h' | h'
   ·simp [h'] at hun h1; rw [hun] at h1; cases h1
   ·simp [Array.getElem?_eq_none h'] at h1
  rw [Zbk ho] at hn
  unfold sepNode at hn
  unfold wpOp
  simp only [ho]
  -- an operation that changes nothing
  have easy : effB s.sk i = false → InvS s (listed.setIfInBounds i true) ρ w := fun he => by
   have hl : ∀ d, liveS s (listed.setIfInBounds i true) d → liveS s listed d := fun d hd => by
    refine ⟨hd.1.imp id fun ⟨h1, h2⟩ => ⟨h1, ?_⟩, fun k hk => hd.2 k (getD_set_true hk)⟩
    by_cases hid : i = d
    ·subst hid; rw [he] at h1; cases h1
    ·rwa [getD_set_ne false hid] at h2
   exact ⟨hI.1, fun d hd => hI.2.1 d (hl d hd), fun d d' hd hd' => hI.2.2 d d' (hl d hd) (hl d' hd')⟩
  split at hn
  ·rename_i he
   rw [if_pos hn.1]
   refine .inl ?_
   have hdl : ∀ d ∈ depsL s.sk i, liveS s listed d := fun d hd => by
    refine ⟨(g.deps i d hd).imp id fun ⟨h1, h2⟩ => ⟨h1, Zaz hc _ i d (fun o' ho' e he' hb => by rw [ho] at ho'; injection ho' with ho'; subst ho'; exact hall e he' hb) h2⟩, fun k hk hck => ?_⟩
    by_cases hki : i = k
    ·subst hki; exact unl hk
    ·exact unl (Zaz hc _ k i (fun o' ho' e he' hb => hc k o' ho' hk e he' hb) ((g.cons k d hck).2.2 i hki hd))
   have hcl : ∀ d ∈ consL s.sk i, liveS s listed d := fun d hd => hdl d (g.cons i d hd).1
   have hpre : s.pre i ρ w := ⟨Sep.hasAll_iff.2 fun d hd => hI.2.1 d (hdl d hd), fun d hd d' hd' hne => hI.2.2 d d' (hdl d hd) (hdl d' hd') hne⟩
   have hok : ∀ b, s.hit i ρ b → s.Ok b ∧ b < w.heap.size := fun b ⟨d, hd, hb⟩ => (hI.2.1 d (hcl d hd)).2 b hb
   refine wp_of_sepAt (hn.2.1 w hI.1 hpre) fun v w' hp => ?_
   obtain ⟨hv, hR, hA, hB⟩ := hp
   refine ih _ _ _ _ (hc.set hi) hsz' hge' ?_ (hn.2.2 v hv)
   have hCw := f.C w w' _ hI.1 hA (fun b hb => (hok b hb).1)
   have hl : ∀ d, d ≠ i → liveS s (listed.setIfInBounds i true) d → liveS s listed d ∧ d ∉ consL s.sk i := fun d hdi hd => by
    refine ⟨⟨hd.1.imp id fun ⟨h1, h2⟩ => ⟨h1, by rwa [getD_set_ne false (Ne.symm hdi)] at h2⟩, fun k hk => hd.2 k (getD_set_true hk)⟩, hd.2 i ?_⟩
    have hls : i < listed.size := by
     rcases Nat.lt_or_ge i listed.size with h' | h'
     ·exact h'
     ·simp [Array.getElem?_eq_none h'] at hun
    simp [hls]
   have hnd : ∀ d, d ≠ i → liveS s (listed.setIfInBounds i true) d → i ∉ depsL s.sk d := fun d hdi hd hid => by
    rcases (hl d hdi hd).1.1 with h | ⟨_, h⟩
    ·have h1 := g.ini d h
     obtain ⟨e, he', h2, _⟩ := Zdf hid
     have h3 := g.lt d (by simp only [effB, List.any_eq_true, beq_iff_eq]; exact ⟨e, he', h2⟩)
     omega
    ·rcases g.deps d i hid with h' | ⟨_, h'⟩
     ·have := g.ini i h'
      have := (Array.getElem?_eq_some_iff.1 ho).1
      omega
     ·exact unl (Zaz hc _ d i (fun o' ho' e he' hb => hc d o' ho' h e he' hb) h')
   have hni : i ∉ depsL s.sk i := fun hid => unl (by
    rcases g.deps i i hid with h' | ⟨_, h'⟩
    ·have := g.ini i h'
     have := (Array.getElem?_eq_some_iff.1 ho).1
     omega
    ·exact Zaz hc _ i i (fun o' ho' e he' hb => by rw [ho] at ho'; injection ho' with ho'; subst ho'; exact hall e he' hb) h')
   have hnh : ∀ d, d ≠ i → liveS s (listed.setIfInBounds i true) d → ∀ b, s.blk d (s.dv ρ d) (ρ d) b → ¬ s.hit i ρ b ∧ b < w.heap.size := fun d hdi hd b hb => by
    obtain ⟨h1, h2⟩ := hl d hdi hd
    refine ⟨fun ⟨d', hd', hb'⟩ => hI.2.2 d d' h1 (hcl d' hd') (fun e => h2 (e ▸ hd')) b hb hb', ((hI.2.1 d h1).2 b hb).2⟩
   refine ⟨hCw, fun d hd => ?_, fun d d' hd hd' hne b hb hb' => ?_⟩
   ·by_cases hdi : d = i
    ·subst hdi
     unfold Sep.has
     rw [upd_same, Sep.dv_upd hni]
     exact ⟨hR, fun b hb => ⟨(hB b hb).2.elim (fun h => f.new w b hI.1 h) (fun h => (hok b h).1), (hB b hb).1⟩⟩
    ·unfold Sep.has
     rw [upd_ne hdi, Sep.dv_upd (hnd d hdi hd)]
     have h1 := hI.2.1 d (hl d hdi hd).1
     exact ⟨f.R d (s.dv ρ d) (ρ d) w w' _ hI.1 h1.1 hA (fun b hb => (hok b hb).1) (hnh d hdi hd), fun b hb => ⟨(h1.2 b hb).1, Nat.lt_of_lt_of_le (h1.2 b hb).2 hA.size⟩⟩
   ·by_cases hdi : d = i
    ·subst hdi
     rw [upd_same, Sep.dv_upd hni] at hb
     rw [upd_ne (Ne.symm hne), Sep.dv_upd (hnd d' (Ne.symm hne) hd')] at hb'
     obtain ⟨h1, h2⟩ := hnh d' (Ne.symm hne) hd' b hb'
     rcases (hB b hb).2 with h | h
     ·omega
     ·exact h1 h
    ·rw [upd_ne hdi, Sep.dv_upd (hnd d hdi hd)] at hb
     by_cases hdi' : d' = i
     ·subst hdi'
      rw [upd_same, Sep.dv_upd hni] at hb'
      obtain ⟨h1, h2⟩ := hnh d hdi hd b hb
      rcases (hB b hb').2 with h | h
      ·omega
      ·exact h1 h
     ·rw [upd_ne hdi', Sep.dv_upd (hnd d' hdi' hd')] at hb'
      exact hI.2.2 d d' (hl d hdi hd).1 (hl d' hdi' hd').1 hne b hb hb'
  ·rename_i he
   have he' : effB s.sk i = false := by simpa using he
   split at hn
   ·rename_i hw
    rw [if_pos hw]
    obtain ⟨v, hp, hk⟩ := hn
    exact .inl (wp_of_pureAt (hp w hI.1) (ih _ _ _ _ (hc.set hi) hsz' hge' (easy he') hk))
   ·rename_i hw
    rw [if_neg hw]
    exact ih _ _ _ _ (hc.set hi) hsz' hge' (easy he') hn
theorem wp_region_sepC (s : Sep) (n : Nat) {id : Nat} {Q : Exit → Act → World → Prop} {a : Act} {w : World} {l : List Oper} (ρ0 : Nat → Value) (hm : P.follows .mixedOrders = true) (hB : tailB .any l.toArray n = true) (hG : (goodBC .any l.toArray s.sk s.inits s.fin && s.sk.all fun e => decide (e.1 < n)) = true) (f : Firm s)
 (hC : s.C (World.drew w)) (hi : s.hasAll ρ0 (World.drew w) s.inits) (ha : s.apart ρ0 s.inits)
 (h : wpSep s P l.toArray (fun a ρ => ∀ w', s.C w' → s.hasAll ρ w' s.fin → s.apart ρ s.fin → wpList P l.toArray Q (l.drop n) a w') 0 (l.take n) a ρ0) : (Code.region id l.toArray true).wp P Q a w := by
 simp only [tailB, Bool.and_eq_true, List.all_eq_true, List.mem_range, decide_eq_true_eq, Bool.or_eq_true] at hB
 obtain ⟨⟨⟨hB1, hB2⟩, hB3⟩, hB4⟩ := hB
 simp only [Bool.and_eq_true, List.all_eq_true, decide_eq_true_eq] at hG
 have g := goodS_ofC hG.1
 have hlow : ∀ k, effB s.sk k = true → k < n := fun k he => by
  simp only [effB, List.any_eq_true, beq_iff_eq] at he
  obtain ⟨e, hm, rfl⟩ := he
  exact hG.2 e hm
 have hback : ∀ k o, l.toArray[k]? = some o → ∀ e ∈ o.after, Region.binds .any e = true → e.on < k := fun k o ho e he hb => by
  have h1 := (hB4 k (Array.getElem?_eq_some_iff.1 ho).1).1
  rw [ho] at h1
  simp only [Option.map_some, Option.getD_some] at h1
  have h2 := Array.all_eq_true_iff_forall_mem.1 h1 e he
  simpa [hb] using h2
 have htail : ∀ k, n ≤ k → k < l.toArray.size → ∀ j, j < k → ancB .any l.toArray l.toArray.size k j = true := fun k hk hks j hj => by
  rcases (hB4 k hks).2 with h1 | h1
  ·omega
  ·exact h1 j hj
 have hc0 : ClosedL .any l.toArray (Array.replicate l.toArray.size false) := fun k o ho hl e he hb => by
  exact (repl_false _ _ hl).elim
 have hln : (l.take n).length = n := by simp at hB2 ⊢; omega
 have hsize : l.toArray.size = n + (l.toArray.size - n) := by omega
 refine wp_region_any hm ?_
 have h1 := anySep_lexC (s := s) (P := P) (md := .any) (n := n) g f.vals ⟨_, hC⟩ hB1 (l.take n) 0 (Array.replicate l.toArray.size false) a ρ0 (fun j hj => by rw [hln] at hj; simp [List.getElem?_take, hj]) (by simpa using hln) hc0 (by simp) (fun j hj => by omega) (by rw [hln]; exact hB3) h
 have h2 := wpAny_of_sepC (s := s) (Q := Q) g f hB2 hlow hback htail (fun a ρ w' hw' h1 h2 h => h w' hw' h1 h2) (l.take n).length (Array.replicate l.toArray.size false) a ρ0 (World.drew w) hc0 (by simp) (fun j _ hj => by simp at hj; simp [hj]) ?_ h1
 ·rw [hln, ← hsize] at h2; exact h2
 ·have hl : ∀ d, liveS s (Array.replicate l.toArray.size false) d → d ∈ s.inits := fun d hd => by
   rcases hd.1 with h | ⟨_, h⟩
   ·exact h
   ·exact (repl_false _ _ h).elim
  exact ⟨hC, fun d hd => Sep.hasAll_iff.1 hi d (hl d hd), fun d d' hd hd' hn => ha d (hl d hd) d' (hl d' hd') hn⟩
end
section
variable {P : Program} {W : World} {own : Nat → Prop} {cs : List (Addr × Value)} {sk : List (Nat × List Nat × List Nat)} {ini fi : List Nat} {rs : List (Nat × Res)} {ops : Array Oper} {L : Act → (Nat → Value) → Prop} {k : Nat} {o : Oper} {rest : List Oper} {a : Act} {ρ : Nat → Value}
theorem wp_region_memC (n : Nat) (own : Nat → Prop) (cs : List (Addr × Value)) (sk : List (Nat × List Nat × List Nat)) (ini fi : List Nat) (rs : List (Nat × Res)) (ρ0 : Nat → Value) {id : Nat} {Q : Exit → Act → World → Prop} {l : List Oper} {w : World}
 (hm : P.follows .mixedOrders = true) (hB : tailB .any l.toArray n = true) (hG : (goodBC .any l.toArray sk ini fi && sk.all fun e => decide (e.1 < n)) = true) (hcs : CellsL w cs) (hown : ∀ q ∈ cs, ¬ own q.1.block)
 (hi : (mkSep w own cs sk ini fi rs).hasAll ρ0 (World.drew w) ini) (ha : (mkSep w own cs sk ini fi rs).apart ρ0 ini)
 (h : wpSep (mkSep w own cs sk ini fi rs) P l.toArray (fun a ρ => ∀ w', Alt (okB w own) w w' → CellsL w' cs → (mkSep w own cs sk ini fi rs).hasAll ρ w' fi → (mkSep w own cs sk ini fi rs).apart ρ fi → wpList P l.toArray Q (l.drop n) a w') 0 (l.take n) a ρ0) : (Code.region id l.toArray true).wp P Q a w :=
 wp_region_sepC (mkSep w own cs sk ini fi rs) n ρ0 hm hB hG (firm_mk fun q hq => ⟨hown q hq, World.block_lt_of_cell? w _ (hcs q hq)⟩)
  ⟨(Alt.refl_ _ w).drewN_ 1, fun q hq => hcs q hq⟩ hi ha (by
   have key : ∀ (l' : List Oper) (k : Nat) (a : Act) (ρ : Nat → Value), wpSep (mkSep w own cs sk ini fi rs) P l.toArray (fun a ρ => ∀ w', Alt (okB w own) w w' → CellsL w' cs → (mkSep w own cs sk ini fi rs).hasAll ρ w' fi → (mkSep w own cs sk ini fi rs).apart ρ fi → wpList P l.toArray Q (l.drop n) a w') k l' a ρ →
    wpSep (mkSep w own cs sk ini fi rs) P l.toArray (fun a ρ => ∀ w', (mkSep w own cs sk ini fi rs).C w' → (mkSep w own cs sk ini fi rs).hasAll ρ w' fi → (mkSep w own cs sk ini fi rs).apart ρ fi → wpList P l.toArray Q (l.drop n) a w') k l' a ρ := by
    intro l'
    induction l' with
    | nil => intro k a ρ h w' hw h1 h2; exact h w' hw.1 hw.2 h1 h2
    | cons o l' ih => intro k a ρ h; exact Zcb (fun a ρ => ih (k + 1) a ρ) h
   exact key _ _ _ _ h)
end
def Res.bx (D : Nat) (us : List Value) : Res :=
 ⟨fun _ v => v = undef, fun _ _ w => D < w.heap.size ∧ CellsAt w D 0 us ∧ Fz w D, fun _ _ b => b = D, fun _ => ⟨undef, rfl⟩,
  fun _ v w w' S h k hb => ⟨Nat.lt_of_lt_of_le h.1 k.size, h.2.1.alt k (hb D rfl).1, h.2.2.alt k h.1 (hb D rfl).1⟩⟩
section
variable {P : Program} {W : World} {own : Nat → Prop} {cs : List (Addr × Value)} {sk : List (Nat × List Nat × List Nat)} {ini fi : List Nat} {rs : List (Nat × Res)} {ops : Array Oper} {L : Act → (Nat → Value) → Prop} {k : Nat} {o : Oper} {rest : List Oper} {a : Act} {ρ : Nat → Value}
def Res.bxf (D : Nat) (f : List Value → List Value) : Res :=
 ⟨fun _ v => v = undef, fun ds _ w => D < w.heap.size ∧ CellsAt w D 0 (f ds) ∧ Fz w D, fun _ _ b => b = D, fun _ => ⟨undef, rfl⟩,
  fun _ v w w' S h k hb => ⟨Nat.lt_of_lt_of_le h.1 k.size, h.2.1.alt k (hb D rfl).1, h.2.2.alt k h.1 (hb D rfl).1⟩⟩
theorem mem_bxf (d D : Nat) (us : List Value) (f : List Value → List Value) (v0 : Value) (hr : resAt rs k = Res.bxf D f) (he : effB sk k = true) (hrd : resAt rs d = Res.bx D us) (hd : consL sk k = [d]) (hdd : d ∈ depsL sk k) (hρ : ρ d = v0)
 (hx : ∀ w, Alt (okB W own) W w → CellsL w cs → (mkSep W own cs sk ini fi rs).pre k ρ w → D < w.heap.size → CellsAt w D 0 us → Fz w D → sepAt P o a (fun v w' => v = undef ∧ CellsAt w' D 0 (f ((depsL sk k).map ρ)) ∧ Fz w' D ∧ Alt (fun i => i = D) w w') w)
 (h : wpSep (mkSep W own cs sk ini fi rs) P ops L (k + 1) rest (a.put o.dst undef) (upd ρ k undef)) (hw : Region.wanted o (yielded ops a.tmps) = true := by first | exact Zao rfl | exact Zad rfl rfl rfl rfl) : wpSep (mkSep W own cs sk ini fi rs) P ops L k (o :: rest) a ρ :=
 Zdh (hw := hw) _ hr he (fun w hw hc hp => by
  have h1 : D < w.heap.size ∧ CellsAt w D 0 us ∧ Fz w D := (Zcl hdd hp hρ hrd).1
  have hh : (mkSep W own cs sk ini fi rs).hit k ρ = fun b => b = D := hit_one hd hρ hrd
  rw [hh]
  refine Zby (hx w hw hc hp h1.1 h1.2.1 h1.2.2) fun v w' ⟨e1, e2, e3, e4⟩ => ⟨e1, ⟨Nat.lt_of_lt_of_le h1.1 e4.size, e2, e3⟩, e4, fun b hb => ?_⟩
  have hb' : b = D := hb
  subst hb'
  exact ⟨Nat.lt_of_lt_of_le h1.1 e4.size, .inr rfl⟩) fun v hv => by
  obtain rfl : v = undef := hv
  exact h
end
end Go.Proofs.YtenknpcbbcbciaaGreat
