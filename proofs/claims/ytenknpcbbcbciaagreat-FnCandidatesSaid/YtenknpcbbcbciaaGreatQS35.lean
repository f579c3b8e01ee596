/- Compiled programs: gates only grow, outs are as many as the results' bits, numbers and their bits. No program in sight. -/
import Derived.Test.YtenknpcbbcbciaaGreatQS34
namespace Go.Proofs.YtenknpcbbcbciaaGreat
open Go.RowKit
set_option linter.unusedVariables false
set_option linter.unusedSimpArgs false
attribute [local go_sem] sepAt sepUpon pureAt pureUpon
theorem OLq.lit (w : World) (cs : Array Value) (l : List Lp) (n : Nat) (hn : n ≤ 100) (hl : l.length = n) (hc : cs.toList = lpsC l) (hp : ∀ e ∈ l, e.x.parts = [] ∧ shL e.x) : OL (w.alloc (.cells cs 89)) w.heap.size (w.heap.size + 1) (.slice (some ⟨w.heap.size, 0, none⟩) n n) n l := by
 have hcl : cs.size = n * 7 := by have := lpsC_len l; rw [← hc] at this; simp at this; omega
 have h3 := World.ownsRow_lit (base := w.heap.size) (e := 89) (size := 7) w cs n lR (by unfold maxLen; omega) hcl
 rw [hc] at h3
 refine ⟨h3, hl, fun g hg => ?_, fun e he => ⟨by rw [(hp e he).1]; exact PaAt.nil _ _ _ _ _, (hp e he).2⟩⟩
 simp only [Value.ownBlock, Option.some.injEq] at hg
 omega
theorem OLq.rowK {w w' : World} {lo hi n c : Nat} {A : Option Addr} {l : List Lp} (h : OL w lo hi (.slice A n c) n l) (k : Below w.heap.size w w') : w'.ownsRow lo 89 7 (.slice A n c) n (lpsC l) := (h.alt (Alt.of_new (S := fun _ => False) k) (fun _ _ _ _ h => h)).row
theorem rv_new (w : World) (cs : Array Value) (T : TypeId) (K n s : Nat) (l : List Value) (hK : K = w.heap.size) (hl : cs.toList = l) (hn : l.length = n * s) : RV (w.alloc (.cells cs T)) (some ⟨K, 0, none⟩) n s l := by
 subst hK; subst hl
 refine ⟨by rw [hn], fun _ => ⟨_, rfl, fun j u hu => ?_⟩⟩
 rw [Zcf, Nat.zero_add]
 exact Zaf _ _ j _ (by simpa using hu)
theorem OLq.app {w w2 w' : World} {lo hi n m c c' : Nat} {A A' : Option Addr} {l l' : List Lp} (h : OL w lo hi (.slice A n c) n l) (hhi : hi ≤ w.heap.size) (k : Below w.heap.size w w2) (hl' : l'.length = m) (hpa : ∀ e ∈ l', PaAt w2 w.heap.size w2.heap.size none e.P e.x.parts ∧ shL e.x) (hlo : lo ≤ w.heap.size)
 (hrow : w'.ownsRow lo 89 7 (.slice A' (n + m) c') (n + m) (lpsC l ++ lpsC l')) (hg : w2.grownBy w' (Value.slice A n c).ownBlock) (hat : (Value.slice A' (n + m) c').ownBlock = (Value.slice A n c).ownBlock ∨ (Value.slice A' (n + m) c').ownBlock = some w2.heap.size) :
 OL w' lo w'.heap.size (.slice A' (n + m) c') (n + m) (l ++ l') ∧ Alt (fun i => (Value.slice A n c).ownBlock = some i) w w' := by
 have kg : Alt (fun i => (Value.slice A n c).ownBlock = some i) w2 w' := Alt.of_grown (S := fun i => (Value.slice A n c).ownBlock = some i) hg (fun i hi => hi)
 have k2 : Alt (fun _ => False) w w2 := Alt.of_new k
 have hsz := k.size
 have hlen := h.len
 have kk : Alt (fun i => (Value.slice A n c).ownBlock = some i) w w' := (k2.mono_ (fun i _ h => h.elim)).trans_ kg (fun i _ h => h)
 refine ⟨OLq.mk_ (by rw [lpsC_app]; exact hrow) (by simp [hlen, hl']) fun e he => ?_, kk⟩
 rcases List.mem_append.1 he with he | he
 ·have h1 := h.pa e he
  refine ⟨?_, h1.2⟩
  have h2 := h1.1.alt k2 (fun _ _ _ _ h => h)
  have h3 : PaAt w2 lo hi (Value.slice A' (n + m) c').ownBlock e.P e.x.parts := h2.row fun b h3 h4 h5 h6 h7 => by
   rcases hat with h8 | h8
   ·exact h6 (h8.symm.trans h7)
   ·rw [h8] at h7; injection h7 with h7; omega
  exact ((h2.alt kg fun i h4 h5 h6 h7 => h6 h7).row fun b h3 h4 h5 h6 h7 => by
   rcases hat with h8 | h8
   ·exact h6 (h8.symm.trans h7)
   ·rw [h8] at h7; injection h7 with h7; omega).now
 ·have h1 := hpa e he
  refine ⟨?_, h1.2⟩
  exact (((h1.1.alt kg (fun i h3 h4 h5 h6 => by have := (h.lt i h6).2.1; omega)).row fun b h3 h4 h5 h6 h7 => by
   rcases hat with h8 | h8
   ·have := (h.lt b (h8.symm.trans h7)).2.1; omega
   ·rw [h8] at h7; injection h7 with h7; omega).now).lo_ hlo
set_option maxRecDepth 100000 in
set_option maxHeartbeats 8000000 in
theorem atLimits_any (b : Nat) (R : Nat → Prop) (T : Nat) (w : World) (h : Cur w b R T) (hT : T < 600000000) (hR : ∀ i, R i → i < w.heap.size) :
 Calls Tryz.prog 107 #[.pointer (some ⟨b, 0, none⟩)] w (RetPg b R (T + 100) w) := by
 have hb := h.lt
 have hL0 : OL (w.alloc (.cells #[.int .i64 1, .string ⟨#[120]⟩, .string ⟨#[]⟩, .slice none 0 0, .int .i64 0, .int .i64 3, .int .i64 0] 89)) w.heap.size (w.heap.size + 1) (.slice (some ⟨w.heap.size, 0, none⟩) 1 1) 1 [⟨⟨1, [120], [], [], 0, 3, 0⟩, none, 0⟩] :=
  OLq.lit w _ _ 1 (by decide) rfl rfl (fun e he => by simp only [List.mem_cons, List.not_mem_nil, or_false] at he; subst he; exact ⟨rfl, by unfold shL shortS; simp⟩)
 have al0 : Below w.heap.size w (w.alloc (.cells #[.int .i64 1, .string ⟨#[120]⟩, .string ⟨#[]⟩, .slice none 0 0, .int .i64 0, .int .i64 3, .int .i64 0] 89)) := bA
 have h0 := h.alt (Alt.of_new (S := fun _ => False) al0) (fun h => h) (fun _ _ h => h)
 have ka0 : Alt (fun i => i = b) w _ := Alt.of_new al0
 go_enter Tryz.func107, Tryz.ntmps107
 go_wp2_with fail
 generalize w.alloc (.cells #[.int .i64 1, .string ⟨#[120]⟩, .string ⟨#[]⟩, .slice none 0 0, .int .i64 0, .int .i64 3, .int .i64 0] 89) = a0 at *
 refine (Zbm 3 b R _ _ h0 (by omega) (by omega)).mono ?_
 rintro e a1 ⟨m1, hm1, hm1b, rfl, c1, k1, z1⟩
 have hL1 := (hL0.alt k1 (fun i h1 h2 _ h => by omega)).now
 have ka1 := ka0.trans_ k1 (fun _ _ h => h)
 have hz1 := ka1.size
 clear hL0 al0 h0 ka0 k1 z1 h
 have hm3 : m1 = 0 ∨ m1 = 1 ∨ m1 = 2 := by omega
 clear hm1 hm1b
 rcases hm3 with rfl | rfl | rfl
 ·go_wp2_with fail
  refine (Zbm 2 b R _ _ c1 (by omega) (by omega)).mono ?_
  rintro e a2 ⟨m2, hm2, hm2b, rfl, c2, k2, z2⟩
  have hL2 := (hL1.alt k2 (fun i h1 h2 _ h => by omega)).now
  have ka2 := ka1.trans_ k2 (fun _ _ h => h)
  have hz2 := ka2.size
  have hu2 : m2 ≤ 1 := by omega
  have hw1 : IntKind.i64.wrap (30 + (m2 : Int)) = ((30 + m2 : Nat) : Int) := by rw [IntKind.wrap_i64] <;> omega
  clear hL1 c1 ka1 k2 hz1 z2 hm2
  go_wp2
  go_loopg [3] (29 + m2) (fun g lv wr => ∃ (l : List Lp) (A : Option Addr) (n c : Nat), lv = .slice A n c ∧ n + g = 30 + m2 ∧ 1 ≤ n ∧ OL wr w.heap.size wr.heap.size (.slice A n c) n l ∧ Cur wr b R (T + 10) ∧ Alt (fun i => i = b) w wr ∧ w.heap.size ≤ wr.heap.size)
  case atStart => exact ⟨_, _, _, _, rfl, by omega, by omega, hL2, c2.mono (by omega), ka2, hz2⟩
  case round =>
   obtain ⟨l, A, n, c, rfl, hng, hn1, hL, hu, ha, hsz⟩ := hrel
   clear hL2 c2 ka2 hz2
   generalize wr = W0 at *
   generalize gk = gK at *
   have hng := zH hng
   have hn31 : n ≤ 31 := by have := hng.out; omega
   by_cases hg0 : gK = 0
   ·have hx : ¬ (n : Int) < ((30 + m2 : Nat) : Int) := by have := hng.out; omega
    go_wp2
    go_ret
    exact ⟨l, A, n, c, rfl, hL, hn1, by omega, hu.mono (by omega), ha⟩
   ·have hx : (n : Int) < ((30 + m2 : Nat) : Int) := by have := hng.out; omega
    obtain ⟨D1, hD1⟩ := lT (UInt8.ofNat (97 + n / 10))
    obtain ⟨D2, hD2⟩ := lT (UInt8.ofNat (97 + n % 10))
    have hcv : (convert 22 9 (.slice (some ⟨W0.heap.size, 0, none⟩) 2 2)).run Tryz.prog (W0.alloc (.cells #[.int .u8 (97 + (n : Int) / 10), .int .u8 (97 + (n : Int) % 10)] 5)) = .ok (.string (bs [D1, D2])) (W0.alloc (.cells #[.int .u8 (97 + (n : Int) / 10), .int .u8 (97 + (n : Int) % 10)] 5)) := by
     rw [← hD1.out, ← hD2.out]
     refine run_convert_bytes_back (P := Tryz.prog) (W0.alloc (.cells #[.int .u8 (97 + (n : Int) / 10), .int .u8 (97 + (n : Int) % 10)] 5)) 22 9 5 ⟨W0.heap.size, 0, none⟩ 2 [UInt8.ofNat (97 + n / 10), UInt8.ofNat (97 + n % 10)] Tryz.underlying22 Tryz.underlying5 Tryz.underlying9 (fun i hi => ?_)
     have h1 : (UInt8.ofNat (97 + n / 10)).toNat = 97 + n / 10 := by rw [UInt8.toNat_ofNat']; omega
     have h2 : (UInt8.ofNat (97 + n % 10)).toNat = 97 + n % 10 := by rw [UInt8.toNat_ofNat']; omega
     have e1 : (97 + (n : Int) / 10) = ((97 + n / 10 : Nat) : Int) := by omega
     have e2 : (97 + (n : Int) % 10) = ((97 + n % 10 : Nat) : Int) := by omega
     have hi' : i = 0 ∨ i = 1 := by simp at hi; omega
     rw [e1, e2]
     rcases hi' with rfl | rfl
     ·show _ = some (Value.int .u8 ((UInt8.ofNat (97 + n / 10)).toNat : Int))
      rw [h1]
      exact Zaf _ _ 0 _ rfl
     ·show _ = some (Value.int .u8 ((UInt8.ofNat (97 + n % 10)).toNat : Int))
      rw [h2]
      exact Zaf _ _ 1 _ rfl
    have hz1 : (bs [D1, D2]).size = 2 := bs_size _
    have hap : Hid ((⟨#[107]⟩ : ByteArray) ++ bs [D1, D2] = bs [107, D1, D2]) := zH (bs_append [107] [D1, D2])
    go_wp2_with (at_builtin; go_loud (refine Zdy rfl _ _ 23 89 (.agg #[.int .i64 0, .string ⟨#[]⟩, .string ⟨#[]⟩, .slice none 0 0, .int .i64 0, .int .i64 0, .int .i64 0]) 7 88 rfl Tryz.underlying23 Zcs rfl (by decide) (by decide) rfl (hL.rowK ((bA).alloc (by simp) _)) rfl (rv_new _ _ _ _ 1 7 (lpC ⟨⟨2, [107, D1, D2], [], [], 0, 1, 0⟩, none, 0⟩) (by simp) (by rw [hap.out]; rfl) rfl) (lpC_one _) (by omega) (by simp; omega) ?_); intro A5 c5 w5 hrow hg hat)
    have hL5 := hL.app (l' := [⟨⟨2, [107, D1, D2], [], [], 0, 1, 0⟩, none, 0⟩]) lR ((bA).alloc (by simp) _) rfl (fun e he => by simp only [List.mem_cons, List.not_mem_nil, or_false] at he; subst he; exact ⟨PaAt.nil _ _ _ _ _, by unfold shL shortS; simp⟩) hsz (by rw [lpsC_one]; exact hrow) hg hat
    have hu5 := hu.alt hL5.2 (fun e => by have := (hL.lt b e).1; omega) (fun i hi e => by have := (hL.lt i e).1; have := hR i hi; omega)
    have ha5 := ha.trans_ hL5.2 (fun i hi e => by have := (hL.lt i e).1; omega)
    have hz5 := hL5.2.size
    clear hrow hg hat hcv hz1 hap
    have hng' := hng.out
    go_wp2
    go_roundg (gK - 1)
    case rel => exact ⟨_, A5, n + 1, c5, rfl, by omega, by omega, hL5.1, hu5, ha5, by omega⟩
    case measure => omega
 ·go_wp2_with fail
  refine (Zbm 2 b R _ _ c1 (by omega) (by omega)).mono ?_
  rintro e a2 ⟨m2, hm2, hm2b, rfl, c2, k2, z2⟩
  have hL2 := (hL1.alt k2 (fun i h1 h2 _ h => by omega)).now
  have ka2 := ka1.trans_ k2 (fun _ _ h => h)
  have hz2 := ka2.size
  have hu2 : m2 ≤ 1 := by omega
  have hw1 : IntKind.i64.wrap (11 + (m2 : Int)) = ((11 + m2 : Nat) : Int) := by rw [IntKind.wrap_i64] <;> omega
  clear hL1 c1 ka1 k2 hz1 z2 hm2
  go_wp2
  go_loopg [3] (10 + m2) (fun g lv wr => ∃ (l : List Lp) (A : Option Addr) (n c : Nat), lv = .slice A n c ∧ n + g = 11 + m2 ∧ 1 ≤ n ∧ OL wr w.heap.size wr.heap.size (.slice A n c) n l ∧ Cur wr b R (T + 10) ∧ Alt (fun i => i = b) w wr ∧ w.heap.size ≤ wr.heap.size)
  case atStart => exact ⟨_, _, _, _, rfl, by omega, by omega, hL2, c2.mono (by omega), ka2, hz2⟩
  case round =>
   obtain ⟨l, A, n, c, rfl, hng, hn1, hL, hu, ha, hsz⟩ := hrel
   clear hL2 c2 ka2 hz2
   generalize wr = W0 at *
   generalize gk = gK at *
   have hng := zH hng
   have hn31 : n ≤ 31 := by have := hng.out; omega
   by_cases hg0 : gK = 0
   ·have hx : ¬ (n : Int) < ((11 + m2 : Nat) : Int) := by have := hng.out; omega
    go_wp2
    go_ret
    exact ⟨l, A, n, c, rfl, hL, hn1, by omega, hu.mono (by omega), ha⟩
   ·have hx : (n : Int) < ((11 + m2 : Nat) : Int) := by have := hng.out; omega
    have hb2 : Below W0.heap.size W0 ((W0.alloc (.cells #[.string ⟨#[120]⟩] 9)).alloc (.cells #[.int .i64 6, .string ⟨#[]⟩, .string ⟨#[]⟩, .slice (some ⟨W0.heap.size, 0, none⟩) 1 1, .int .i64 0, .int .i64 0, .int .i64 0] 89)) := (bA).alloc (by simp) _
    have hpx : PaAt ((W0.alloc (.cells #[.string ⟨#[120]⟩] 9)).alloc (.cells #[.int .i64 6, .string ⟨#[]⟩, .string ⟨#[]⟩, .slice (some ⟨W0.heap.size, 0, none⟩) 1 1, .int .i64 0, .int .i64 0, .int .i64 0] 89)) W0.heap.size ((W0.alloc (.cells #[.string ⟨#[120]⟩] 9)).alloc (.cells #[.int .i64 6, .string ⟨#[]⟩, .string ⟨#[]⟩, .slice (some ⟨W0.heap.size, 0, none⟩) 1 1, .int .i64 0, .int .i64 0, .int .i64 0] 89)).heap.size none (some ⟨W0.heap.size, 0, none⟩) [[120]] := fun _ =>
     ⟨_, 0, rfl, Nat.le_refl _, by simp; omega, by simp; omega, by simp, fun i hi => by
      obtain rfl : i = 0 := by simpa using hi
      exact Zat (Zaf W0 _ 0 _ rfl) (bA)⟩
    go_wp2_with (at_builtin; go_loud (refine Zdy rfl _ _ 23 89 (.agg #[.int .i64 0, .string ⟨#[]⟩, .string ⟨#[]⟩, .slice none 0 0, .int .i64 0, .int .i64 0, .int .i64 0]) 7 88 rfl Tryz.underlying23 Zcs rfl (by decide) (by decide) rfl (hL.rowK hb2) rfl (rv_new _ _ _ _ 1 7 (lpC ⟨⟨6, [], [], [[120]], 0, 0, 0⟩, some ⟨W0.heap.size, 0, none⟩, 1⟩) (by simp) rfl rfl) (lpC_one _) (by omega) (by simp; omega) ?_); intro A5 c5 w5 hrow hg hat)
    have hL5 := hL.app (l' := [⟨⟨6, [], [], [[120]], 0, 0, 0⟩, some ⟨W0.heap.size, 0, none⟩, 1⟩]) lR hb2 rfl (fun e he => by simp only [List.mem_cons, List.not_mem_nil, or_false] at he; subst he; exact ⟨hpx, by unfold shL shortS; simp⟩) hsz (by rw [lpsC_one]; exact hrow) hg hat
    have hu5 := hu.alt hL5.2 (fun e => by have := (hL.lt b e).1; omega) (fun i hi e => by have := (hL.lt i e).1; have := hR i hi; omega)
    have ha5 := ha.trans_ hL5.2 (fun i hi e => by have := (hL.lt i e).1; omega)
    have hz5 := hL5.2.size
    clear hrow hg hat hb2 hpx
    have hng' := hng.out
    go_wp2
    go_roundg (gK - 1)
    case rel => exact ⟨_, A5, n + 1, c5, rfl, by omega, by omega, hL5.1, hu5, ha5, by omega⟩
    case measure => omega
 ·clear hL1
  go_wp2_with fail
  refine (Zbm 2 b R _ _ c1 (by omega) (by omega)).mono ?_
  rintro e a2 ⟨p, hp, hpb, rfl, c2, k2, z2⟩
  have ka2 := ka1.trans_ k2 (fun _ _ h => h)
  have hz2 := ka2.size
  have hpp : p ≤ 1 := by omega
  clear c1 ka1 k2 hz1 z2 hp
  have hL3 : OL (a2.alloc (.cells #[.int .i64 1, .string ⟨#[120]⟩, .string ⟨#[]⟩, .slice none 0 0, .int .i64 p, .int .i64 10, .int .i64 0, .int .i64 1, .string ⟨#[121]⟩, .string ⟨#[]⟩, .slice none 0 0, .int .i64 p, .int .i64 10, .int .i64 0] 89)) a2.heap.size (a2.heap.size + 1) (.slice (some ⟨a2.heap.size, 0, none⟩) 2 2) 2 [⟨⟨1, [120], [], [], p, 10, 0⟩, none, 0⟩, ⟨⟨1, [121], [], [], p, 10, 0⟩, none, 0⟩] :=
   OLq.lit a2 _ _ 2 (by decide) rfl rfl (fun e he => by
    simp only [List.mem_cons, List.not_mem_nil, or_false] at he
    rcases he with rfl | rfl <;> exact ⟨rfl, by unfold shL shortS; simp⟩)
  have al3 : Below a2.heap.size a2 (a2.alloc (.cells #[.int .i64 1, .string ⟨#[120]⟩, .string ⟨#[]⟩, .slice none 0 0, .int .i64 p, .int .i64 10, .int .i64 0, .int .i64 1, .string ⟨#[121]⟩, .string ⟨#[]⟩, .slice none 0 0, .int .i64 p, .int .i64 10, .int .i64 0] 89)) := bA
  have h3 := c2.alt (Alt.of_new (S := fun _ => False) al3) (fun h => h) (fun _ _ h => h)
  have ka3 := ka2.trans_ (T := fun _ => False) (Alt.of_new al3) (fun _ _ h => h.elim)
  go_wp2_with fail
  have hz3 : (a2.alloc (.cells #[.int .i64 1, .string ⟨#[120]⟩, .string ⟨#[]⟩, .slice none 0 0, .int .i64 p, .int .i64 10, .int .i64 0, .int .i64 1, .string ⟨#[121]⟩, .string ⟨#[]⟩, .slice none 0 0, .int .i64 p, .int .i64 10, .int .i64 0] 89)).heap.size = a2.heap.size + 1 := by simp
  generalize a2.alloc (.cells #[.int .i64 1, .string ⟨#[120]⟩, .string ⟨#[]⟩, .slice none 0 0, .int .i64 p, .int .i64 10, .int .i64 0, .int .i64 1, .string ⟨#[121]⟩, .string ⟨#[]⟩, .slice none 0 0, .int .i64 p, .int .i64 10, .int .i64 0] 89) = a3 at *
  refine (one_any 2 b R _ _ h3 (by omega) (by omega)).mono ?_
  rintro e a4 ⟨t, rfl, h4, k4, z4⟩
  have hL4 := (hL3.alt k4 (fun i h1 h2 _ h => by omega)).now
  have ka4 := ka3.trans_ k4 (fun _ _ h => h)
  have hz4 := ka4.size
  have hlo : w.heap.size ≤ a2.heap.size := hz2
  clear hL3 h3 ka3 k4 al3 z4 hz3
  have hLw := hL4.lo_ hlo
  clear hL4
  cases t with
  | false =>
   go_wp2
   go_ret
   exact ⟨_, _, 2, _, rfl, hLw, by omega, by omega, h4.mono (by omega), ka4⟩
  | true =>
   have hb2 : Below a4.heap.size a4 (a4.alloc (.cells #[.int .i64 1, .string ⟨#[122]⟩, .string ⟨#[]⟩, .slice none 0 0, .int .i64 p, .int .i64 1, .int .i64 0] 89)) := bA
   go_wp2_with (at_builtin; go_loud (refine Zdy rfl _ _ 23 89 (.agg #[.int .i64 0, .string ⟨#[]⟩, .string ⟨#[]⟩, .slice none 0 0, .int .i64 0, .int .i64 0, .int .i64 0]) 7 88 rfl Tryz.underlying23 Zcs rfl (by decide) (by decide) rfl (hLw.rowK hb2) rfl (rv_new _ _ _ _ 1 7 (lpC ⟨⟨1, [122], [], [], p, 1, 0⟩, none, 0⟩) (by simp) rfl rfl) (lpC_one _) (by omega) (by simp; omega) ?_); intro A5 c5 w5 hrow hg hat)
   have hL5 := hLw.app (l' := [⟨⟨1, [122], [], [], p, 1, 0⟩, none, 0⟩]) lR hb2 rfl (fun e he => by simp only [List.mem_cons, List.not_mem_nil, or_false] at he; subst he; exact ⟨PaAt.nil _ _ _ _ _, by unfold shL shortS; simp⟩) hz4 (by rw [lpsC_one]; exact hrow) hg hat
   have hu5 := h4.alt hL5.2 (fun e => by have := (hLw.lt b e).1; omega) (fun i hi e => by have := (hLw.lt i e).1; have := hR i hi; omega)
   have ha5 := ka4.trans_ hL5.2 (fun i hi e => by have := (hLw.lt i e).1; omega)
   clear hrow hg hat hb2
   go_wp2
   go_ret
   exact ⟨_, A5, 2 + 1, c5, rfl, hL5.1, by omega, by omega, hu5.mono (by omega), ha5⟩
end Go.Proofs.YtenknpcbbcbciaaGreat
namespace Go.Proofs.YtenknpcbbcbciaaGreat
open Go.RowKit
set_option linter.unusedVariables false
set_option linter.unusedSimpArgs false
attribute [local go_sem] sepAt sepUpon pureAt pureUpon
def RetAp (b : Nat) (R : Nat → Prop) (T : Nat) (w : World) (e : Ending) (w' : World) : Prop :=
 ∃ (l : List Lp) (A : Option Addr) (n c : Nat), e = .returned (.slice A n c) ∧ OLq shortL w' w.heap.size w'.heap.size (.slice A n c) n l ∧ 1 ≤ n ∧ n ≤ 40 ∧ Cur w' b R T ∧ Alt (fun i => i = b) w w'
theorem OLq.weaken {Sh Sh' : Ln → Prop} (himp : ∀ x, Sh x → Sh' x) {w : World} {lo hi n : Nat} {v : Value} {l : List Lp} (h : OLq Sh w lo hi v n l) : OLq Sh' w lo hi v n l :=
 ⟨h.row, h.len, h.hb, fun e he => ⟨(h.pa e he).1, himp _ (h.pa e he).2⟩⟩
theorem ap_fin {b n c g v i T : Nat} {R : Nat → Prop} {w a : World} {l : List Lp} {u : Value} {e' : Lp} (h : OLq shL a w.heap.size a.heap.size (.slice (some ⟨g, 0, none⟩) n c) n l) (hv : v < n) (hi : i < 7) (he : (lpC (lp l v)).set i u = lpC e') (hp : PaAt a w.heap.size a.heap.size (some g) e'.P e'.x.parts) (hs : shortL e'.x) (hn1 : 1 ≤ n) (hn40 : n ≤ 40) (hc : Cur a b R T) (hk : Alt (fun i => i = b) w a) (hb : b < w.heap.size) (hR : ∀ i, R i → i < w.heap.size) :
 RetAp b R T w (.returned (.slice (some ⟨g, 0, none⟩) n c)) (a.setCell ⟨g, v * 7 + i, none⟩ u) := by
 have hg := (h.lt g (by simp [Value.ownBlock])).1
 have ks : Alt (fun i => i = g) a (a.setCell ⟨g, v * 7 + i, none⟩ u) := (Alt.refl_ _ a).set_ _ _ (fun _ => rfl)
 exact ⟨_, _, n, c, rfl, (h.store (Sh' := shortL) (fun _ h => h.s) hv hi he hp hs).now, hn1, hn40, hc.alt ks (fun e => by omega) (fun i hi e => by have := hR i hi; omega), hk.trans_ ks (fun i hi e => by omega)⟩
theorem ap_fin1 {b n c g v i T : Nat} {R : Nat → Prop} {w a : World} {l : List Lp} {u : Value} {x' : Ln} (h : OLq shL a w.heap.size a.heap.size (.slice (some ⟨g, 0, none⟩) n c) n l) (hv : v < n) (hi : i < 7) (he : (lpC (lp l v)).set i u = lpC ⟨x', (lp l v).P, (lp l v).q⟩) (hx : x'.parts = (lp l v).x.parts) (hs : shortL x') (hn1 : 1 ≤ n) (hn40 : n ≤ 40) (hc : Cur a b R T) (hk : Alt (fun i => i = b) w a) (hb : b < w.heap.size) (hR : ∀ i, R i → i < w.heap.size) :
 RetAp b R T w (.returned (.slice (some ⟨g, 0, none⟩) n c)) (a.setCell ⟨g, v * 7 + i, none⟩ u) := by
 refine ap_fin h hv hi he ?_ hs hn1 hn40 hc hk hb hR
 have hlen := h.len
 have := (h.pa _ (lp_mem (show v < l.length by omega))).1
 dsimp only
 rw [hx]
 simpa [Value.ownBlock] using this
set_option maxRecDepth 100000 in
set_option maxHeartbeats 8000000 in
theorem anyProgram_any (b : Nat) (R : Nat → Prop) (T : Nat) (w : World) (h : Cur w b R T) (hT : T < 500000000) (hR : ∀ i, R i → i < w.heap.size) (hRb : ¬ R b) :
 Calls Tryz.prog 59 #[.pointer (some ⟨b, 0, none⟩)] w (RetAp b R (T + 3000) w) := by
 have hb := h.lt
 go_enter Tryz.func59, Tryz.ntmps59
 go_wp2_with fail
 refine (one_any 30 b R _ _ h (by omega) (by omega)).mono ?_
 rintro e a1 ⟨t, rfl, c1, k1, z1⟩
 have hR1 : ∀ i, R i → i < a1.heap.size := fun i hi => by have := hR i hi; omega
 have hz1 : w.heap.size ≤ a1.heap.size := by omega
 clear z1
 cases t with
 | true =>
  go_wp2_with fail
  refine (atLimits_any b R _ _ c1 (by omega) hR1).mono ?_
  rintro e a2 ⟨l, A, n, c, rfl, hL, hn1, hn40, c2, k2⟩
  have hk := k1.trans_ k2 (fun _ _ h => h)
  go_wp2
  go_ret
  exact ⟨_, A, n, c, rfl, (hL.weaken (fun _ h => h.s)).lo_ hz1, hn1, hn40, c2.mono (by omega), hk⟩
 | false =>
  go_wp2_with fail
  refine (program_any b R _ _ c1 (by omega) hR1 hRb).mono ?_
  rintro e a2 ⟨l, A, n, c, rfl, hL, hn1, hn40, c2, k2⟩
  have hk2 := k1.trans_ k2 (fun _ _ h => h)
  have hLa := hL.lo_ hz1
  have hz2 := hk2.size
  have hR2 : ∀ i, R i → i < a2.heap.size := fun i hi => by have := hR i hi; omega
  clear h k1 k2 c1 hL hR1 hz1
  go_wp2_with fail
  refine (Zbm n b R _ _ c2 (by omega) (by omega)).mono ?_
  rintro e a3 ⟨v, hv, hvb, rfl, c3, k3, z3⟩
  have hv : v < n := by omega
  have hLb := (hLa.alt k3 (fun i h1 h2 _ h => by omega)).now
  have hk3 := hk2.trans_ k3 (fun _ _ h => h)
  have hz3 := hk3.size
  clear hk2 c2 k3 hLa z3
  obtain ⟨g, rfl, hg1, _, hg2, _, _, hcap⟩ := hLb.cell hv
  go_wp2_with fail
  refine (Zbm 30 b R _ _ c3 (by omega) (by omega)).mono ?_
  rintro e a4 ⟨m, hm, hmb, rfl, c4, k4, z4⟩
  have hL4 := (hLb.alt k4 (fun i h1 h2 _ h => by omega)).now
  have hk4 := hk3.trans_ k4 (fun _ _ h => h)
  have hz4 := hk4.size
  have hg3 : g < a4.heap.size := by have := k4.size; omega
  clear hk3 c3 k4 hLb z4 hm hg2 hz3
  obtain ⟨_, hA0, _, _, _, hc, hf, _⟩ := hL4.cell hv
  simp only [Option.some.injEq, Addr.mk.injEq, and_true] at hA0
  subst hA0
  have hlen := hL4.len
  have hvl : v < l.length := by omega
  have hsv := (hL4.pa _ (lp_mem hvl))
  have d0 := hc 0 _ rfl; have d1 := hc 1 _ rfl; have d2 := hc 2 _ rfl; have d3 := hc 3 _ rfl; have d5 := hc 5 _ rfl; have d6 := hc 6 _ rfl
  have f0 := hf (v * 7); have f1 := hf (v * 7 + 1); have f2 := hf (v * 7 + 2); have f3 := hf (v * 7 + 3); have f5 := hf (v * 7 + 5); have f6 := hf (v * 7 + 6)
  clear hc hf
  by_cases m0 : m = 0
  ·subst m0
   clear d0 f0 d1 f1 d5 f5 d6 f6 d3 f3 d2 f2
   go_wp2_with fail
   refine (Zbm 8 b R _ _ c4 (by omega) (by omega)).mono ?_
   rintro e a5 ⟨y, hy, hyb, rfl, c5, k5, z5⟩
   clear z5
   have hL5 := (hL4.alt k5 (fun i h1 h2 _ h => by omega)).now
   have hk5 := hk4.trans_ k5 (fun _ _ h => h)
   obtain ⟨_, hA5, _, _, hg5, hc, hf, _⟩ := hL5.cell hv
   simp only [Option.some.injEq, Addr.mk.injEq, and_true] at hA5
   subst hA5
   have d : a5.cell? ⟨g, v * 7, none⟩ = some _ := hc 0 _ rfl
   have f : a5.frozen? ⟨g, v * 7, none⟩ = false := hf (v * 7 + 0)
   clear hc hf hL4 hk4
   go_wp2
   go_ret
   exact ap_fin1 hL5 hv (i := 0) (by decide) (x' := { (lp l v).x with kind := y }) rfl rfl ⟨hsv.2.1, hsv.2.2.1, Nat.le_trans hsv.2.2.2.1 (by omega), hsv.2.2.2.2⟩ hn1 hn40 (c5.mono (by omega)) hk5 hb hR
  have n0 : ¬ ((m : Nat) : Int) = 0 := by omega
  by_cases m1 : m = 1
  ·subst m1
   clear d0 f0 d1 f1 d5 f5 d6 f6 d3 f3 d2 f2
   have al : Below a4.heap.size a4 (a4.alloc (.cells #[.string ⟨#[120]⟩, .string ⟨#[]⟩, .string ⟨#[88]⟩, .string ⟨#[97, 98, 99, 100, 101, 102]⟩, .string ⟨#[97, 98, 99, 100, 101, 102, 103]⟩] 9)) := bA
   have hr : RX (a4.alloc (.cells #[.string ⟨#[120]⟩, .string ⟨#[]⟩, .string ⟨#[88]⟩, .string ⟨#[97, 98, 99, 100, 101, 102]⟩, .string ⟨#[97, 98, 99, 100, 101, 102, 103]⟩] 9)) (some ⟨a4.heap.size, 0, none⟩) 5 [[120], [], [88], [97, 98, 99, 100, 101, 102], [97, 98, 99, 100, 101, 102, 103]] := RX_lit a4 [[120], [], [88], [97, 98, 99, 100, 101, 102], [97, 98, 99, 100, 101, 102, 103]] 9
   have c4' := c4.alt (Alt.of_new (S := fun _ => False) al) (fun h => h) (fun _ _ h => h)
   have kal : Alt (fun i => i = b) a4 (a4.alloc (.cells #[.string ⟨#[120]⟩, .string ⟨#[]⟩, .string ⟨#[88]⟩, .string ⟨#[97, 98, 99, 100, 101, 102]⟩, .string ⟨#[97, 98, 99, 100, 101, 102, 103]⟩] 9)) := Alt.of_new al
   go_wp2_with fail
   refine (of_any _ _ _ [[120], [], [88], [97, 98, 99, 100, 101, 102], [97, 98, 99, 100, 101, 102, 103]] b R _ _ c4' (by omega) hr (by omega) (by omega) (fun q o e => by simp only [Option.some.injEq, Addr.mk.injEq, and_true] at e; have := hk4.size; omega)).mono ?_
   rintro e a5 ⟨y, hy, rfl, c5, k9, z5⟩
   have k5 := kal.trans_ k9 (fun _ _ h => h)
   clear hr al c4' kal k9 z5
   have hys : shortS y := by
    simp only [List.mem_cons, List.not_mem_nil, or_false] at hy
    unfold shortS
    rcases hy with rfl | rfl | rfl | rfl | rfl <;> simp
   have hL5 := (hL4.alt k5 (fun i h1 h2 _ h => by omega)).now
   have hk5 := hk4.trans_ k5 (fun _ _ h => h)
   obtain ⟨_, hA5, _, _, hg5, hc, hf, _⟩ := hL5.cell hv
   simp only [Option.some.injEq, Addr.mk.injEq, and_true] at hA5
   subst hA5
   have d : a5.cell? ⟨g, v * 7 + 1, none⟩ = some _ := hc 1 _ rfl
   have f : a5.frozen? ⟨g, v * 7 + 1, none⟩ = false := hf (v * 7 + 1)
   clear hc hf hL4 hk4
   go_wp2
   go_ret
   exact ap_fin1 hL5 hv (i := 1) (by decide) (x' := { (lp l v).x with name := y }) rfl rfl ⟨hys, hsv.2.2.1, Nat.le_trans hsv.2.2.2.1 (by omega), hsv.2.2.2.2⟩ hn1 hn40 (c5.mono (by omega)) hk5 hb hR
  have n1 : ¬ ((m : Nat) : Int) = 1 := by omega
  by_cases m2 : m = 2
  ·subst m2
   clear d0 f0 d1 f1 d5 f5 d6 f6 d3 f3 d2 f2
   have al : Below a4.heap.size a4 (a4.alloc (.cells #[.int .i64 0, .int .i64 10, .int .i64 11] 3)) := bA
   have hr : RI (a4.alloc (.cells #[.int .i64 0, .int .i64 10, .int .i64 11] 3)) (some ⟨a4.heap.size, 0, none⟩) 3 [0, 10, 11] := by simpa using RI_lit a4 [0, 10, 11] 3
   have c4' := c4.alt (Alt.of_new (S := fun _ => False) al) (fun h => h) (fun _ _ h => h)
   have kal : Alt (fun i => i = b) a4 (a4.alloc (.cells #[.int .i64 0, .int .i64 10, .int .i64 11] 3)) := Alt.of_new al
   go_wp2_with fail
   refine (among_any _ _ _ [0, 10, 11] b R _ _ c4' (by omega) hr (by omega) (by omega) (fun q o e => by simp only [Option.some.injEq, Addr.mk.injEq, and_true] at e; have := hk4.size; omega)).mono ?_
   rintro e a5 ⟨y, hy, rfl, c5, k9, z5⟩
   have k5 := kal.trans_ k9 (fun _ _ h => h)
   clear hr al c4' kal k9 z5
   have hL5 := (hL4.alt k5 (fun i h1 h2 _ h => by omega)).now
   have hk5 := hk4.trans_ k5 (fun _ _ h => h)
   obtain ⟨_, hA5, _, _, hg5, hc, hf, _⟩ := hL5.cell hv
   simp only [Option.some.injEq, Addr.mk.injEq, and_true] at hA5
   subst hA5
   have d : a5.cell? ⟨g, v * 7 + 5, none⟩ = some _ := hc 5 _ rfl
   have f : a5.frozen? ⟨g, v * 7 + 5, none⟩ = false := hf (v * 7 + 5)
   clear hc hf hL4 hk4
   go_wp2
   go_ret
   exact ap_fin1 hL5 hv (i := 5) (by decide) (x' := { (lp l v).x with width := y }) rfl rfl ⟨hsv.2.1, hsv.2.2.1, Nat.le_trans hsv.2.2.2.1 (by omega), hsv.2.2.2.2⟩ hn1 hn40 (c5.mono (by omega)) hk5 hb hR
  have n2 : ¬ ((m : Nat) : Int) = 2 := by omega
  by_cases m3 : m = 3
  ·subst m3
   clear d0 f0 d1 f1 d5 f5 d6 f6 d3 f3 d2 f2
   have al : Below a4.heap.size a4 (a4.alloc (.cells #[.int .i64 (-1), .int .i64 1, .int .i64 1024] 3)) := bA
   have hr : RI (a4.alloc (.cells #[.int .i64 (-1), .int .i64 1, .int .i64 1024] 3)) (some ⟨a4.heap.size, 0, none⟩) 3 [-1, 1, 1024] := by simpa using RI_lit a4 [-1, 1, 1024] 3
   have c4' := c4.alt (Alt.of_new (S := fun _ => False) al) (fun h => h) (fun _ _ h => h)
   have kal : Alt (fun i => i = b) a4 (a4.alloc (.cells #[.int .i64 (-1), .int .i64 1, .int .i64 1024] 3)) := Alt.of_new al
   go_wp2_with fail
   refine (among_any _ _ _ [-1, 1, 1024] b R _ _ c4' (by omega) hr (by omega) (by omega) (fun q o e => by simp only [Option.some.injEq, Addr.mk.injEq, and_true] at e; have := hk4.size; omega)).mono ?_
   rintro e a5 ⟨y, hy, rfl, c5, k9, z5⟩
   have k5 := kal.trans_ k9 (fun _ _ h => h)
   clear hr al c4' kal k9 z5
   have hL5 := (hL4.alt k5 (fun i h1 h2 _ h => by omega)).now
   have hk5 := hk4.trans_ k5 (fun _ _ h => h)
   obtain ⟨_, hA5, _, _, hg5, hc, hf, _⟩ := hL5.cell hv
   simp only [Option.some.injEq, Addr.mk.injEq, and_true] at hA5
   subst hA5
   have d : a5.cell? ⟨g, v * 7 + 6, none⟩ = some _ := hc 6 _ rfl
   have f : a5.frozen? ⟨g, v * 7 + 6, none⟩ = false := hf (v * 7 + 6)
   clear hc hf hL4 hk4
   go_wp2
   go_ret
   exact ap_fin1 hL5 hv (i := 6) (by decide) (x' := { (lp l v).x with value := y }) rfl rfl ⟨hsv.2.1, hsv.2.2.1, Nat.le_trans hsv.2.2.2.1 (by omega), hsv.2.2.2.2⟩ hn1 hn40 (c5.mono (by omega)) hk5 hb hR
  have n3 : ¬ ((m : Nat) : Int) = 3 := by omega
  by_cases m4 : m = 4
  ·subst m4
   clear d0 f0 d1 f1 d5 f5 d6 f6 d2 f2
   have hps : RX a4 (lp l v).P (lp l v).x.parts.length (lp l v).x.parts := hsv.1.reads
   have hp9 : (lp l v).x.parts.length ≤ 9 := hsv.2.2.2.1
   go_wp2_with fail
   refine (l1OwnS_any (lp l v).P _ (lp l v).q (lp l v).x.parts _ hps (by omega)).mono ?_
   rintro e a5 ⟨A5, q5, rfl, hrow5, b5⟩
   have al : Below a5.heap.size a5 (a5.alloc (.cells #[.string ⟨#[120]⟩] 9)) := bA
   have hrow6 := Zav hrow5 (Alt.of_new (S := fun _ => False) al) (fun _ _ h => h)
   have hlo5 := b5.size
   clear hps
   generalize hPl : (lp l v).x.parts.length = PL at *
   go_wp2_with (
    at_builtin
    refine Zdy rfl _ _ 87 9 (.string ⟨#[]⟩) 1 16 rfl Tryz.underlying87 info_strO rfl (by decide) (by decide) rfl hrow6 rfl (rv_new _ _ _ _ 1 1 [.string ⟨#[120]⟩] (by first | rfl | simp) rfl rfl) (fun u hu => by simp only [List.mem_cons, List.not_mem_nil, or_false] at hu; subst hu; rfl) (by omega) (by simp; omega) ?_
    intro A6 q6 a6 hrow hgr hat
    have k6 : Alt (fun i => a4.heap.size ≤ i) a5 a6 := ((Alt.of_new al).trans_ (Alt.of_grown (S := fun i => (Value.slice A5 PL q5).ownBlock = some i) hgr (fun i hi => hi)) (fun i _ hi => (hrow5.lt i hi).1))
    have k46 : Alt (fun _ => False) a4 a6 := (Alt.of_new b5).trans_ k6 (fun i hi h => by omega)
    have hL5 := (hL4.alt k46 (fun _ _ _ _ h => h)).now
    have hk5 := hk4.trans_ k46 (fun _ _ h => h.elim)
    have c5 := c4.alt k46 (fun h => h) (fun _ _ h => h)
    have hrowE : a6.ownsRow a4.heap.size 9 1 (.slice A6 (PL + 1) q6) (PL + 1) (strV ((lp l v).x.parts ++ [[120]])) := by
     have : strV ((lp l v).x.parts ++ [[120]]) = strV (lp l v).x.parts ++ [.string ⟨#[120]⟩] := by simp [strV]; rfl
     rw [this]; exact hrow
    have hpa : PaAt a6 w.heap.size a6.heap.size (some g) A6 ((lp l v).x.parts ++ [[120]]) := (PaAt.ofRow hrowE (fun q hq => by have := (hrowE.lt q hq).1; simp; omega)).lo_ hz4
    obtain ⟨_, hA5, _, _, hg5, hc, hf, _⟩ := hL5.cell hv
    simp only [Option.some.injEq, Addr.mk.injEq, and_true] at hA5
    subst hA5
    have d : a6.cell? ⟨g, v * 7 + 3, none⟩ = some _ := hc 3 _ rfl
    have f : a6.frozen? ⟨g, v * 7 + 3, none⟩ = false := hf (v * 7 + 3))
   go_ret
   exact ap_fin hL5 hv (i := 3) (by decide) (e' := ⟨{ (lp l v).x with parts := (lp l v).x.parts ++ [[120]] }, A6, q6⟩) (by simp [lpC, hPl]) hpa ⟨hsv.2.1, hsv.2.2.1, by simp; omega, fun s hs => (List.mem_append.1 hs).elim (hsv.2.2.2.2 s) (fun h => by simp only [List.mem_cons, List.not_mem_nil, or_false] at h; subst h; unfold shortS; simp)⟩ hn1 hn40 (c5.mono (by omega)) hk5 hb hR
  have n4 : ¬ ((m : Nat) : Int) = 4 := by omega
  by_cases m5 : m = 5
  ·subst m5
   clear d0 f0 d1 f1 d5 f5 d6 f6 d3 f3 d2 f2
   have al : Below a4.heap.size a4 (a4.alloc (.cells #[.string ⟨#[43]⟩, .string ⟨#[47]⟩, .string ⟨#[42]⟩] 9)) := bA
   have hr : RX (a4.alloc (.cells #[.string ⟨#[43]⟩, .string ⟨#[47]⟩, .string ⟨#[42]⟩] 9)) (some ⟨a4.heap.size, 0, none⟩) 3 [[43], [47], [42]] := RX_lit a4 [[43], [47], [42]] 9
   have c4' := c4.alt (Alt.of_new (S := fun _ => False) al) (fun h => h) (fun _ _ h => h)
   have kal : Alt (fun i => i = b) a4 (a4.alloc (.cells #[.string ⟨#[43]⟩, .string ⟨#[47]⟩, .string ⟨#[42]⟩] 9)) := Alt.of_new al
   go_wp2_with fail
   refine (of_any _ _ _ [[43], [47], [42]] b R _ _ c4' (by omega) hr (by omega) (by omega) (fun q o e => by simp only [Option.some.injEq, Addr.mk.injEq, and_true] at e; have := hk4.size; omega)).mono ?_
   rintro e a5 ⟨y, hy, rfl, c5, k9, z5⟩
   have k5 := kal.trans_ k9 (fun _ _ h => h)
   clear hr al c4' kal k9 z5
   have hys : shortS y := by
    simp only [List.mem_cons, List.not_mem_nil, or_false] at hy
    unfold shortS
    rcases hy with rfl | rfl | rfl <;> simp
   have hL5 := (hL4.alt k5 (fun i h1 h2 _ h => by omega)).now
   have hk5 := hk4.trans_ k5 (fun _ _ h => h)
   obtain ⟨_, hA5, _, _, hg5, hc, hf, _⟩ := hL5.cell hv
   simp only [Option.some.injEq, Addr.mk.injEq, and_true] at hA5
   subst hA5
   have d : a5.cell? ⟨g, v * 7 + 2, none⟩ = some _ := hc 2 _ rfl
   have f : a5.frozen? ⟨g, v * 7 + 2, none⟩ = false := hf (v * 7 + 2)
   clear hc hf hL4 hk4
   go_wp2
   go_ret
   exact ap_fin1 hL5 hv (i := 2) (by decide) (x' := { (lp l v).x with op := y }) rfl rfl ⟨hsv.2.1, hys, Nat.le_trans hsv.2.2.2.1 (by omega), hsv.2.2.2.2⟩ hn1 hn40 (c5.mono (by omega)) hk5 hb hR
  have n5 : ¬ ((m : Nat) : Int) = 5 := by omega
  clear d0 d1 d2 d3 d5 d6 f0 f1 f2 f3 f5 f6
  go_wp2
  go_ret
  exact ⟨l, _, n, c, rfl, hL4.weaken (fun _ h => h.s), hn1, hn40, c4.mono (by omega), hk4⟩
end Go.Proofs.YtenknpcbbcbciaaGreat
namespace Go.Proofs.YtenknpcbbcbciaaGreat
open Go.RowKit
set_option linter.unusedVariables false
set_option linter.unusedSimpArgs false
theorem os_byK {l : List Ln} (x y : Int) (h : allW l) : ∀ k, k ≤ l.length → ((cS l x y k).os.length : Int) = sumI (byK outP l (wids sW l) k) := by
 intro k
 induction k with
 | zero => intro _; rfl
 | succ k ih =>
  intro hk
  have hi := ih (by omega)
  have hv := (cS_inv x y h (k + 1) hk).wid k (by omega)
  have hw := (cS_inv x y h k (by omega)).ws
  have hr : (stepG l x y k (cS l x y k)).o = gl (cS l x y (k + 1)).ws k := by
   show _ = gl (stepC l (stepG l x y k (cS l x y k)) k (cS l x y k)).ws k
   simp only [stepC]
   rw [Zdu hw]
  show ((stepC l (stepG l x y k (cS l x y k)) k (cS l x y k)).os.length : Int) = _
  rw [byK]
  by_cases h6 : (lx l k).kind = 6
  ·simp only [stepC, if_pos h6, List.length_append]
   rw [if_pos (show outP (lx l k) = true by simp [outP, h6]), Zea, ← hi, hr, ← hv.1]
   omega
  ·simp only [stepC, if_neg h6]
   rw [if_neg (by simp [outP, h6]), ← hi]
def cc (l : List Ln) : Cs := cS l (sumI (insL l 0)) (sumI (insL l 1)) l.length
def coB (l : List Ln) : Bool := decide (goodP l) && circB (sumI (insL l 0)) (sumI (insL l 1)) (cc l).g (cc l).os
theorem Zdq {l : List Ln} (h : coB l = true) : goodP l ∧ circB (sumI (insL l 0)) (sumI (insL l 1)) (cc l).g (cc l).os = true := by
 unfold coB at h
 rw [Bool.and_eq_true] at h
 exact ⟨of_decide_eq_true h.1, h.2⟩
theorem circB_parts {x y : Int} {gs : List G3} {os : List Int} (h : circB x y gs os = true) :
 (0 ≤ x ∧ x ≤ 20) ∧ (0 ≤ y ∧ y ≤ 20) ∧ gs.length ≤ 300 ∧ os.length ≤ 40 ∧ gatesB (x + y) gs gs.length = true ∧ allB 0 (x + y + gs.length - 1) os = true := by
 unfold circB at h
 simp only [Bool.and_eq_true, decide_eq_true_eq] at h
 obtain ⟨h1, h2, h3, h4, h5, h6⟩ := h
 refine ⟨?_, ?_, h3, h4, h5, h6⟩
 ·unfold inB at h1; simpa using h1
 ·unfold inB at h2; simpa using h2
theorem coB_os {l : List Ln} (h : goodP l) : ((cc l).os.length : Int) = sumI (outsL l) := os_byK _ _ h.2.1 _ lR
def offs (ws : List Int) (k : Nat) : Nat := (sumI (ws.take k)).toNat
theorem offs_zero (ws : List Int) : offs ws 0 = 0 := rfl
theorem Zce {ws : List Int} {k : Nat} (h : ∀ z ∈ ws, 1 ≤ z ∧ z ≤ 10) (hk : k < ws.length) : offs ws (k + 1) = offs ws k + (gi ws k).toNat := by
 unfold offs
 have h1 := (Zeb (M := 10) (fun z hz => by have := h z hz; omega) k (by omega)).1
 have h2 := h _ (Zbo hk)
 rw [sumI_snoc2 hk]; omega
theorem offs_le {ws : List Int} (h : ∀ z ∈ ws, 1 ≤ z ∧ z ≤ 10) {k m : Nat} (hk : k ≤ m) (hm : m ≤ ws.length) : offs ws k ≤ offs ws m := by
 induction m with
 | zero => obtain rfl : k = 0 := by omega
           exact Nat.le_refl _
 | succ m ih =>
  rcases Nat.lt_or_ge k (m + 1) with h1 | h1
  ·have := ih (by omega) (by omega); rw [Zce h (by omega)]; omega
  ·obtain rfl : k = m + 1 := by omega
   exact Nat.le_refl _
theorem Zef {ws : List Int} (h : ∀ z ∈ ws, 1 ≤ z ∧ z ≤ 10) : (offs ws ws.length : Int) = sumI ws := by
 unfold offs
 have h1 := (Zeb (M := 10) (fun z hz => by have := h z hz; omega) ws.length lR).1
 rw [List.take_of_length_le lR] at *
 omega
def numK (ws bits : List Int) (k : Nat) : List Int := tab k fun i => numN ((bits.drop (offs ws i)).take (gi ws i).toNat)
theorem numK_len (ws bits : List Int) (k : Nat) : (numK ws bits k).length = k := tab_len _ _
theorem numK_snoc (ws bits : List Int) (k : Nat) : numK ws bits (k + 1) = numK ws bits k ++ [numN ((bits.drop (offs ws k)).take (gi ws k).toNat)] := tab_snoc _ _
def bitsK (ws ns : List Int) : Nat → List Int
 | 0 => []
 | k + 1 => bitsK ws ns k ++ bitsN (gi ns k).toNat (gi ws k).toNat
theorem Zca {ws : List Int} (h : ∀ z ∈ ws, 1 ≤ z ∧ z ≤ 10) (ns : List Int) : ∀ k, k ≤ ws.length → (bitsK ws ns k).length = offs ws k := by
 intro k
 induction k with
 | zero => intro _; rfl
 | succ k ih => intro hk; rw [bitsK, List.length_append, ih (by omega), Zax, Zce h (by omega)]
theorem bitsK_bd (ws ns : List Int) : ∀ k, allB 0 1 (bitsK ws ns k) = true := by
 intro k
 induction k with
 | zero => rfl
 | succ k ih =>
  rw [bitsK]
  exact allB_iff.2 fun z hz => by
   rcases List.mem_append.1 hz with hz | hz
   ·exact allB_iff.1 ih z hz
   ·exact allB_iff.1 (Zcw _ _) z hz
theorem bitsN_cons (n k : Nat) : bitsN n (k + 1) = ((n % 2 : Nat) : Int) :: bitsN (n / 2) k := by
 unfold bitsN tab
 rw [List.range_succ_eq_map, List.map_cons, List.map_map]
 congr 1
 ·simp
 ·refine List.map_congr_left fun i _ => ?_
  show ((n / 2 ^ (i + 1) % 2 : Nat) : Int) = ((n / 2 / 2 ^ i % 2 : Nat) : Int)
  rw [Nat.div_div_eq_div_mul, Nat.pow_succ, Nat.mul_comm]
theorem numN_bitsN (n k : Nat) (h : n < 2 ^ k) : numN (bitsN n k) = n := by
 induction k generalizing n with
 | zero => simp at h; subst h; rfl
 | succ k ih =>
  rw [bitsN_cons, numN, ih (n / 2) (by rw [Nat.pow_succ] at h; omega)]
  omega
theorem bitsN_numN {xs : List Int} (h : allB 0 1 xs = true) : bitsN (numN xs).toNat xs.length = xs := by
 induction xs with
 | nil => rfl
 | cons b l ih =>
  have h1 := allB_iff.1 h
  have hb := h1 b (by simp)
  have hl : allB 0 1 l = true := allB_iff.2 fun z hz => h1 z (by simp [hz])
  have hn := (numN_bd hl).1
  rw [List.length_cons, bitsN_cons, numN]
  have e1 : (b + 2 * numN l).toNat / 2 = (numN l).toNat := by omega
  rw [e1, ih hl]
  congr 1
  omega
theorem num_bits {ws ns bits : List Int} (hw : ∀ z ∈ ws, 1 ≤ z ∧ z ≤ 10) (hl : ws.length = ns.length) (hf : ∀ k, k < ws.length → 0 ≤ gi ns k ∧ gi ns k ≤ 2 ^ (gi ws k).toNat - 1) (hb : allB 0 1 bits = true) (hs : bits.length = offs ws ws.length) :
 numK ws bits ws.length = ns ↔ bits = bitsK ws ns ws.length := by
 constructor
 ·intro he
  have key : ∀ k, k ≤ ws.length → bits.take (offs ws k) = bitsK ws ns k := by
   intro k
   induction k with
   | zero => intro _; rfl
   | succ k ih =>
    intro hk
    have h1 := Zce hw (by omega : k < ws.length)
    have h2 := offs_le hw (by omega : k + 1 ≤ ws.length) lR
    have hg : gi ns k = numN ((bits.drop (offs ws k)).take (gi ws k).toNat) := by rw [← he]; exact gi_tab (by omega)
    have hlen : ((bits.drop (offs ws k)).take (gi ws k).toNat).length = (gi ws k).toNat := by simp; omega
    rw [bitsK, h1, List.take_add, ih (by omega), hg]
    congr 1
    have := bitsN_numN (xs := (bits.drop (offs ws k)).take (gi ws k).toNat) (allB_iff.2 fun z hz => allB_iff.1 hb z (List.mem_of_mem_drop (List.mem_of_mem_take hz)))
    rw [hlen] at this
    exact this.symm
  have := key ws.length lR
  rwa [← hs, List.take_of_length_le lR] at this
 ·rintro rfl
  refine gi_eq (by rw [numK_len]; exact hl) fun j hj => ?_
  rw [numK_len] at hj
  have key : ∀ m, m ≤ ws.length → j < m → ((bitsK ws ns m).drop (offs ws j)).take (gi ws j).toNat = bitsN (gi ns j).toNat (gi ws j).toNat := by
   intro m
   induction m with
   | zero => intro _ h; omega
   | succ m ih =>
    intro hm hjm
    have hlm := Zca hw ns m (by omega)
    rcases Nat.lt_or_ge j m with h1 | h1
    ·have h2 := Zce hw (by omega : j < ws.length)
     have h3 := offs_le hw (by omega : j + 1 ≤ m) (by omega)
     rw [bitsK, List.drop_append_of_le_length (by omega), List.take_append_of_le_length (by simp; omega)]
     exact ih (by omega) h1
    ·obtain rfl : j = m := by omega
     rw [bitsK, ← hlm, List.drop_left, List.take_of_length_le (by rw [Zax]; exact Nat.le_refl _)]
  have hfj := hf j hj
  rw [show gi (numK ws (bitsK ws ns ws.length) ws.length) j = numN (((bitsK ws ns ws.length).drop (offs ws j)).take (gi ws j).toNat) from gi_tab hj, key _ lR hj, numN_bitsN]
  ·omega
  ·have e : ((2 ^ (gi ws j).toNat : Nat) : Int) = (2 : Int) ^ (gi ws j).toNat := by rw [Int.natCast_pow]; rfl
   have h2 : ((gi ns j).toNat : Int) < ((2 ^ (gi ws j).toNat : Nat) : Int) := by rw [e]; omega
   exact Int.ofNat_lt.1 h2
def cntN (p : Nat → Bool) : Nat → Int
 | 0 => 0
 | k + 1 => cntN p k + if p k = true then 1 else 0
theorem cntN_bd (p : Nat → Bool) (k : Nat) : 0 ≤ cntN p k ∧ cntN p k ≤ k := by
 induction k with
 | zero => simp [cntN]
 | succ k ih => rw [cntN]; split <;> omega
def candK (p : Nat → Bool) : Nat → List Int
 | 0 => []
 | k + 1 => if p k = true then candK p k ++ [(k : Int)] else candK p k
theorem candK_len (p : Nat → Bool) (k : Nat) : (candK p k).length ≤ k := by
 induction k with
 | zero => simp [candK]
 | succ k ih =>
  rw [candK]
  split
  ·simp; omega
  ·omega
end Go.Proofs.YtenknpcbbcbciaaGreat
