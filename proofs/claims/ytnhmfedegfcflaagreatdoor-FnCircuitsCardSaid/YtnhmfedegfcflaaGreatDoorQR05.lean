/- Numbers and lines as text: what they are in plain words, and the contracts of the functions that write them. Numbers from 0 to a million. -/
import Derived.Lib.ItoaLen
import Derived.Lib.ItoaMem
import Derived.Test.YtnhmfedegfcflaaGreatDoorQR04
import Derived.Test.YtnhmfedegfcflaaGreatDoorRows
namespace Go.Proofs.YtnhmfedegfcflaaGreatDoor
open Go.RowKit
set_option linter.unusedVariables false
set_option linter.unusedSimpArgs false
def numsL (ns : List Int) : List UInt8 := ns.flatMap fun n => 32 :: Lib.itoa n
theorem numsL_snoc (ns : List Int) (n : Int) : numsL (ns ++ [n]) = numsL ns ++ (32 :: Lib.itoa n) := by simp [numsL]
theorem numsL_nil : numsL [] = [] := rfl
def lineL (wd : List UInt8) (ns : List Int) : List UInt8 := wd ++ numsL ns ++ [10]
def smallN (ns : List Int) : Prop := ∀ n ∈ ns, 0 ≤ n ∧ n ≤ 1000000
theorem Zcr {n : Int} (h0 : 0 ≤ n) (h1 : n ≤ 1000000) : (Lib.itoa n).length ≤ 21 := Lib.itoa_length_le n (by omega) (by omega)
theorem numsL_len {ns : List Int} (h : smallN ns) : (numsL ns).length ≤ 22 * ns.length := by
 induction ns with
 | nil => simp [numsL]
 | cons n ns ih =>
  have h1 := ih fun m hm => h m (List.mem_cons_of_mem _ hm)
  have h2 := h n (List.mem_cons_self ..)
  have h3 := Zcr h2.1 h2.2
  simp only [numsL, List.flatMap_cons, List.length_append, List.length_cons] at h1 ⊢
  omega
theorem smallN_take {ns : List Int} (h : smallN ns) (k : Nat) : smallN (ns.take k) := fun n hn => h n (List.mem_of_mem_take hn)
theorem take_snoc_gi {ns : List Int} {k : Nat} (h : k < ns.length) : ns.take (k + 1) = ns.take k ++ [gi ns k] := by
 rw [List.take_succ_eq_append_getElem h]; simp [gi, List.getElem?_eq_getElem h]
theorem below_grow {w : World} (k : Nat) (os : Array Obj) : Below w.heap.size w (Go.Sort.grow (w.drewN k) os) := by
 have h := Zay (B := w.heap.size) (a := w) k
 refine ⟨h.os, h.tape, h.output, ?_, fun j hj => ?_⟩
 ·have := h.size; simp only [Go.Sort.grow, Array.size_append]; omega
 ·rw [← h.block j hj]
  have := h.size
  simp only [Go.Sort.grow]
  rw [Array.getElem?_append_left (by omega)]
def tabName : String := Rows.fnCircuitsRow.named.getD 6 ""
theorem tab_global : Tryz.prog.globalNamed tabName = some 6 := by kernel_rfl
def PT (w : World) : Prop := 6 < w.heap.size ∧ Lib.TabIs Tryz.prog w tabName .u64 Lib.pow10Tab
theorem var_below {P : Program} {B g : Nat} {W W' : World} {n : String} {cs : Array Value} (h : Below B W W') (hg : P.globalNamed n = some g) (hgB : g < B) (hv : W.var? P n = some cs) : W'.var? P n = some cs := by
 unfold World.var? at hv ⊢
 rw [hg] at hv ⊢
 simpa [h.block g hgB] using hv
theorem PT.below {B : Nat} {w w' : World} (h : PT w) (hb : Below B w w') (hB : w.heap.size ≤ B) : PT w' :=
 ⟨Nat.lt_of_lt_of_le h.1 hb.size, var_below hb tab_global (Nat.lt_of_lt_of_le h.1 hB) h.2⟩
theorem Itoa_any (n : Int) (h0 : 0 ≤ n) (h1 : n ≤ 1000000) (w : World) (ht : PT w) :
 Calls Tryz.prog 92 #[.int .i64 n] w fun e w' => e = .returned (.string (bs (Lib.itoa n))) ∧ Below w.heap.size w w' :=
 (Any.strconv_Itoa Tryz.laysM171 n (by omega) (by omega) w ht.2).mono fun _ _ ⟨h1, k, os, h2⟩ => ⟨h1, h2 ▸ below_grow k os⟩
theorem conv_byte (W : World) (g : Nat) (x : Int) (h : 0 ≤ x) (h' : x ≤ 255) (hc : W.cell? ⟨g, 0, none⟩ = some (.int .u8 x)) : (convert 22 9 (.slice (some ⟨g, 0, none⟩) 1 1)).run Tryz.prog W = .ok (.string (bs [UInt8.ofNat x.toNat])) W := by
 have h1 : ((UInt8.ofNat x.toNat).toNat : Int) = x := by
  rw [UInt8.toNat_ofNat']
  omega
 refine run_convert_bytes_back (P := Tryz.prog) _ _ _ _ _ 1 [UInt8.ofNat x.toNat] Tryz.underlying22 Tryz.underlying5 Tryz.underlying9 (fun j hj => ?_)
 obtain rfl : j = 0 := by simpa using hj
 simp only [List.getElem_cons_zero]
 rw [h1]
 simpa [Addr.add] using hc
theorem itoa_one {n : Int} (h0 : 0 ≤ n) (h1 : n < 10) : Lib.itoa n = [UInt8.ofNat (48 + n).toNat] := by
 obtain ⟨m, rfl⟩ := Int.eq_ofNat_of_zero_le h0
 rw [Lib.itoa_nonneg, Lib.decDigits_one (by omega)]
 congr 2
theorem itoa_more {n : Int} (h0 : ¬ n < 10) : Lib.itoa n = Lib.itoa (n / 10) ++ [UInt8.ofNat (48 + n % 10).toNat] := by
 obtain ⟨m, rfl⟩ := Int.eq_ofNat_of_zero_le (show 0 ≤ n by omega)
 have h2 : ((m : Int) / 10) = ((m / 10 : Nat) : Int) := by omega
 rw [h2, Lib.itoa_nonneg, Lib.itoa_nonneg, Lib.decDigits, dif_neg (by omega)]
 congr 3
set_option maxRecDepth 100000 in
theorem l1Num_any : ∀ (f : Nat) (n : Int) (h0 : 0 ≤ n) (h1 : n ≤ 1000000) (hf : n.toNat < f) (w : World),
 Calls Tryz.prog 81 #[.int .i64 n] w fun e w' => e = .returned (.string (bs (Lib.itoa n))) ∧ Below w.heap.size w w' := by
 intro f
 induction f with
 | zero => intro n _ _ h; omega
 | succ f ih =>
  intro n h0 h1 hf w
  by_cases hs : n < 10
  ·have hcv := fun W g => conv_byte W g (48 + n) (by omega) (by omega)
   have hb : Below w.heap.size w (w.alloc (.cells #[.int .u8 (48 + n)] 5)) := bA
   have he := zH (itoa_one h0 hs)
   go_enter Tryz.func81, Tryz.ntmps81
   go_wp2
   go_ret
   exact ⟨by rw [he.out]; rfl, hb⟩
  ·have hq : n.tdiv 10 = n / 10 := Int.tdiv_eq_ediv_of_nonneg h0
   have hr : n.tmod 10 = n % 10 := Int.tmod_eq_emod_of_nonneg h0
   have q1 : IntKind.i64.wrap (n / 10) = n / 10 := IntWalk.i64_in _ (by omega)
   have q2 : IntKind.i64.wrap (48 + n % 10) = 48 + n % 10 := IntWalk.i64_in _ (by omega)
   have q3 : IntKind.u8.wrap (48 + n % 10) = 48 + n % 10 := by simp only [IntKind.wrap, IntKind.bits, IntKind.signed]; norm_cast; simp; omega
   have hcv := fun W g => conv_byte W g (48 + n % 10) (by omega) (by omega)
   have he := zH (itoa_more (n := n) (by omega))
   have hz : (bs (Lib.itoa (n / 10))).size ≤ 21 := by rw [Zbd]; exact Zcr (by omega) (by omega)
   have hz1 : (bs [UInt8.ofNat (48 + n % 10).toNat]).size = 1 := by rw [Zbd]; rfl
   go_enter Tryz.func81, Tryz.ntmps81
   go_wp2_with fail
   go_region_with (go_at_call 81; refine (ih (n / 10) (by omega) (by omega) (by omega) _).mono ?_; rintro e w1 ⟨rfl, hb1⟩; (try (refine have hc9 : w1.cell? ⟨w.heap.size, 0, none⟩ = some (.int .u8 (48 + n % 10)) := ?_; ?_; (focus (refine Zae ?_ hb1; simp; done)))))
   all_goals
    go_wp2
    go_ret
    refine ⟨by rw [he.out, ← Zbb]; rfl, ?_⟩
    have hd : Below w.heap.size w w.drew := (Below.refl _ _).drew
    first
     | exact (hd.trans hb1).alloc (Nat.le_trans hd.size hb1.size) _
     | exact ((Below.refl w.heap.size w).alloc lR _).drew.trans (hb1.mono (by simp))
set_option maxRecDepth 100000 in
theorem line_any (wd : ByteArray) (A : Option Addr) (n c : Nat) (ns : List Int) (w : World) (ha : RI w A n ns) (hn : n ≤ 1000) (hs : smallN ns) (hwd : wd.size ≤ 1000) (ht : PT w) :
 Calls Tryz.prog 64 #[.string wd, .slice A n c] w fun e w' => e = .returned (.string (bs (lineL wd.data.toList ns))) ∧ Below w.heap.size w w' := by
 have hl := ha.len
 go_enter Tryz.func64, Tryz.ntmps64
 go_wp2
 go_loopw [5, 11] (fun s i wr => ∃ (k : Nat) (sb : ByteArray), k ≤ n ∧ i = .int .i64 k ∧ s = .string sb ∧ Hid (sb = bs (wd.data.toList ++ numsL (ns.take k))) ∧ Below w.heap.size w wr) (fun _ i _ => n - (intOf i).toNat)
 case atStart => exact ⟨0, wd, Nat.zero_le _, rfl, rfl, zH (by rw [List.take_zero, numsL_nil, List.append_nil, bs_data]), Below.refl _ _⟩
 case round =>
  obtain ⟨k, sb, hk, rfl, rfl, hsb, hb⟩ := hrel
  have hsz : sb.size ≤ 1000 + 22 * k := by
   rw [hsb.out, Zbd, List.length_append]
   have h1 := numsL_len (smallN_take hs k)
   have h2 : wd.data.toList.length = wd.size := Array.length_toList
   have h3 : (ns.take k).length ≤ k := by simp; omega
   omega
  by_cases hlt : k < n
  ·obtain ⟨b, o, rfl, hbB, c1⟩ := (ha.below hb lR).at_ hlt
   have hg := hs _ (gi_mem (xs := ns) (j := k) (by omega))
   have hi := Zcr hg.1 hg.2
   rw [← Zbd] at hi
   go_wp2_with fail
   refine (Itoa_any (gi ns k) hg.1 hg.2 _ (ht.below hb lR)).mono ?_
   rintro e w2 ⟨rfl, hb2⟩
   have hnx : Hid (sb ++ (bs [32] ++ bs (Lib.itoa (gi ns k))) = bs (wd.data.toList ++ numsL (ns.take (k + 1)))) := zH (by
    rw [hsb.out, take_snoc_gi (by omega), numsL_snoc, Zbb, Zbb]; simp)
   go_wp2
   go_roundw
   case rel => exact ⟨k + 1, _, by omega, by go_num, rfl, hnx, hb.trans (hb2.mono hb.size)⟩
   case measure => simp [intOf]; omega
  ·obtain rfl : n = k := by omega
   go_wp2
   go_ret
   refine ⟨?_, hb⟩
   have : sb ++ bs [10] = bs (lineL wd.data.toList ns) := by
    rw [hsb.out, Zbb, List.take_of_length_le (by omega)]; rfl
   rw [← this]; rfl
end Go.Proofs.YtnhmfedegfcflaaGreatDoor
