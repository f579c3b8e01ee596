/- DropDead of the program. Lengths below 2^21. -/
import Derived.Test.YtikgagjoapggnaaQP19
import Derived.Test.YtikgagjoapggnaaQP21
import Derived.Test.YtikgagjoapggnaaQP29
namespace Go.Proofs.Ytikgagjoapggnaa
open Go.RowKit
set_option linter.unusedVariables false
set_option linter.unusedSimpArgs false
attribute [local go_sem] sepAt sepUpon pureAt pureUpon
def Res.brow (lo n : Nat) (U : List Int) : Res :=
  ⟨fun _ v => ∃ b, v = .slice (some ⟨b, 0, none⟩) n n, fun _ v w => ∀ b, v = .slice (some ⟨b, 0, none⟩) n n → lo ≤ b ∧ BRow w b n U, fun _ v b => v = .slice (some ⟨b, 0, none⟩) n n, fun _ => ⟨.slice (some ⟨0, 0, none⟩) n n, 0, rfl⟩,
    fun _ v w w' S h k hb b hv => ⟨(h b hv).1, (h b hv).2.alt k (hb b hv).1⟩⟩
def postBRow (w : World) (n : Nat) (U : List Int) (v : Value) (w' : World) : Prop := ∃ b, v = .slice (some ⟨b, 0, none⟩) n n ∧ w.heap.size ≤ b ∧ BRow w' b n U ∧ Below w.heap.size w w'
section
variable {P : Program} {W : World} {own : Nat → Prop} {cs : List (Addr × Value)} {sk : List (Nat × List Nat × List Nat)} {ini fi : List Nat} {rs : List (Nat × Res)} {ops : Array Oper} {L : Act → (Nat → Value) → Prop} {k : Nat} {o : Oper} {rest : List Oper} {a : Act} {ρ : Nat → Value}
theorem mem_brow (lo n : Nat) (U : List Int) (hr : resAt rs k = Res.brow lo n U) (he : effB sk k = true) (hlo : lo ≤ W.heap.size) (hx : ∀ w, Alt (okB W own) W w → CellsL w cs → (mkSep W own cs sk ini fi rs).pre k ρ w → sepAt P o a (postBRow w n U) w)
    (h : ∀ b, wpSep (mkSep W own cs sk ini fi rs) P ops L (k + 1) rest (a.put o.dst (.slice (some ⟨b, 0, none⟩) n n)) (upd ρ k (.slice (some ⟨b, 0, none⟩) n n))) (hw : Region.wanted o (yielded ops a.tmps) = true := by first | exact wanted_none rfl | exact wanted_some rfl rfl rfl rfl) : wpSep (mkSep W own cs sk ini fi rs) P ops L k (o :: rest) a ρ :=
  mem_eff (hw := hw) _ hr he (fun w hw hc hp => sepAt_mono (hx w hw hc hp) fun v w' ⟨b, h1, h2, h3, h6⟩ => by
    subst h1
    refine ⟨⟨b, rfl⟩, fun b' hb' => ?_, Alt.of_new h6, fun b' hb' => ?_⟩
    · simp only [Value.slice.injEq, Option.some.injEq, Addr.mk.injEq, and_true] at hb'
      subst hb'
      exact ⟨by have := hw.size; omega, h3⟩
    · have hb'' : Value.slice (some ⟨b, 0, none⟩) n n = .slice (some ⟨b', 0, none⟩) n n := hb'
      simp only [Value.slice.injEq, Option.some.injEq, Addr.mk.injEq, and_true] at hb''
      subst hb''
      exact ⟨h3.lt, .inl h2⟩) fun v hv => by
    obtain ⟨b, rfl⟩ := hv
    exact h b
theorem one_apart {j : Nat} : (mkSep W own cs sk [j] fi rs).apart ρ [j] := by
  intro d hd d' hd' hn b hb hb'
  simp only [List.mem_cons, List.not_mem_nil, or_false] at hd hd'
  exact hn (hd.trans hd'.symm)
end
section
variable {W wz : World} {lo b4 b5 : Nat} {x y : Int} {G G' F F' : Option Addr} {kg cG m cG' n cF n' cF' : Nat} {hs hs' : List G3} {fs fs' : List Int}
theorem MgI.appF1 (h : MgI W lo b4 b5 x y G kg cG hs F n cF fs) (hw : Alt (okB W (fun b => (Value.slice F n cF).ownBlock = some b)) W wz) (hF : Own wz lo wz.heap.size (.slice F' n' cF') n' fs') (hok : ∀ b, (Value.slice F' n' cF').ownBlock = some b → okB W (fun b => (Value.slice F n cF).ownBlock = some b) b) :
    (wz.cell? ⟨b5, 0, none⟩ = some (.slice F n cF) ∧ Fz wz b5) ∧ MgI (wz.setCell ⟨b5, 0, none⟩ (.slice F' n' cF')) lo b4 b5 x y G kg cG hs F' n' cF' fs' := by
  have hx4 : ¬ okB W (fun b => (Value.slice F n cF).ownBlock = some b) b4 := fun hc => hc.elim (fun h1 => by have := h.lt4; omega) h.r4
  have hx5 : ¬ okB W (fun b => (Value.slice F n cF).ownBlock = some b) b5 := fun hc => hc.elim (fun h1 => by have := h.lt5; omega) h.r5
  have h5 := hw.cell_ h.c5 hx5
  have f5 := h.f5.alt hw h.lt5 hx5
  have k1 : Alt (fun i => i = b5) wz (wz.setCell ⟨b5, 0, none⟩ (.slice F' n' cF')) := (Alt.refl_ _ wz).set_ _ _ (fun _ => rfl)
  have hg := (h.g.alt hw (fun g hg hc => hc.elim (fun h1 => by have := h.g.lt g hg; omega) (fun h1 => h.ap g hg h1))).now
  have hz := hw.size
  refine ⟨⟨h5, f5⟩, (h.bx.alt hw hx4).alt k1 h.ne, (h.f4.alt hw h.lt4 hx4).set _ _, World.cell?_setCell_same _ _ _ h5, f5.set _ _, (hg.alt k1 (fun g hg hc => h.g5 (hc ▸ hg))).now, (hF.alt k1 (fun g hg hc => hx5 (hc ▸ hok g hg))).now, fun g h1 h2 => ?_, h.g4, h.g5, fun hc => hx4 (hok _ hc), fun hc => hx5 (hok _ hc), h.ne, h.lo4, h.lo5, by have := h.lt4; simp; omega, by have := h.lt5; simp; omega⟩
  rcases hok g h2 with h3 | h3
  · have := h.g.lt g h1; omega
  · exact h.ap g h1 h3
theorem MgI.appG1 (h : MgI W lo b4 b5 x y G kg cG hs F n cF fs) (hw : Alt (okB W (fun b => (Value.slice G kg cG).ownBlock = some b)) W wz) (hG : OwnG wz lo wz.heap.size (.slice G' m cG') m hs') (hok : ∀ b, (Value.slice G' m cG').ownBlock = some b → okB W (fun b => (Value.slice G kg cG).ownBlock = some b) b) :
    (BxC wz b4 x y G kg cG none 0 0 ∧ Fz wz b4) ∧ MgI (wz.setCell ⟨b4, 2, none⟩ (.slice G' m cG')) lo b4 b5 x y G' m cG' hs' F n cF fs := by
  have hx4 : ¬ okB W (fun b => (Value.slice G kg cG).ownBlock = some b) b4 := fun hc => hc.elim (fun h1 => by have := h.lt4; omega) h.g4
  have hx5 : ¬ okB W (fun b => (Value.slice G kg cG).ownBlock = some b) b5 := fun hc => hc.elim (fun h1 => by have := h.lt5; omega) h.g5
  have k1 : Alt (fun i => i = b4) wz (wz.setCell ⟨b4, 2, none⟩ (.slice G' m cG')) := (Alt.refl_ _ wz).set_ _ _ (fun _ => rfl)
  have hx := h.bx.alt hw hx4
  have f4 := h.f4.alt hw h.lt4 hx4
  have hf := (h.f.alt hw (fun g hg hc => hc.elim (fun h1 => by have := h.f.lt g hg; omega) (fun h1 => h.ap g h1 hg))).now
  have hz := hw.size
  refine ⟨⟨hx, f4⟩, hx.setG G' m cG', f4.set _ _, k1.cell_ (hw.cell_ h.c5 hx5) (fun hc => h.ne hc.symm), (h.f5.alt hw h.lt5 hx5).set _ _, (hG.alt k1 (fun g hg hc => hx4 (hc ▸ hok g hg))).now, (hf.alt k1 (fun g hg hc => h.r4 (hc ▸ hg))).now, fun g h1 h2 => ?_, fun hc => hx4 (hok _ hc), fun hc => hx5 (hok _ hc), h.r4, h.r5, h.ne, h.lo4, h.lo5, by have := h.lt4; simp; omega, by have := h.lt5; simp; omega⟩
  rcases hok g h1 with h3 | h3
  · have := h.f.lt g h2; omega
  · exact h.ap g h3 h2
end
theorem drp_no {X : Nat} {gs : List G3} {U : List Int} {k : Nat} (h : inL U ((X : Int) + k) = false) : (drp X gs U (k + 1)).1 = (drp X gs U k).1 := by
  simp only [drp, h]; rfl
theorem drp_yes {X : Nat} {gs : List G3} {U : List Int} {k : Nat} (h : inL U ((X : Int) + k) = true) : (drp X gs U (k + 1)).1 = (drp X gs U k).1 ++ [mvG (fun w => gi (drp X gs U k).2 w.toNat) (gg gs k)] := by
  simp only [drp, h]; rfl
theorem dropDead_1_any (B : Nat) (A : Option Addr) (n c : Nat) (xs : List Int) (z : Int) (w : World) (hc : w.cell? ⟨B, 0, none⟩ = some (.slice A n c)) (ha : RI w A n xs) (hz : 0 ≤ z ∧ z < n) (hn : n ≤ 2097152) :
    Calls Try.prog 46 #[.int .i64 z, .pointer (some ⟨B, 0, none⟩)] w fun e w' => e = .returned (.int .i64 (gi xs z.toNat)) ∧ Below w.heap.size w w' := by
  obtain ⟨Z, rfl⟩ : ∃ Z : Nat, z = Z := ⟨z.toNat, by omega⟩
  have hZ : Z < n := by omega
  obtain ⟨b, o, rfl, hbl, hce⟩ := ha.at_ (k := Z) (by omega)
  go_enter Try.func46, Try.ntmps46
  go_wp2
  go_ret
  exact ⟨rfl, Below.refl _ _⟩
set_option maxRecDepth 100000 in
set_option maxHeartbeats 3000000 in
theorem dropDead_any (x y : Int) (Ag : Option Addr) (ng cg : Nat) (Ao : Option Addr) (no co : Nat) (gs : List G3) (os : List Int) (X : Nat) (w : World) (hr : RG w Ag ng gs ∧ RI w Ao no os) (hng : ng ≤ 3000) (hno : no ≤ 40) (hx : 0 ≤ x ∧ x ≤ 20) (hy : 0 ≤ y ∧ y ≤ 20) (hXe : Hid (x + y = (X : Int))) (hgt : ∀ k : Nat, k < ng → GateIs (gg gs k) ((X : Int) + k)) (hao : allB 0 (((X + ng : Nat) : Int) - 1) os = true) :
    Calls Try.prog 23 #[.agg #[.int .i64 x, .int .i64 y, .slice Ag ng cg, .slice Ao no co]] w (RetDr w x y (drp X gs (usedL X gs os) ng).1 (pick (drp X gs (usedL X gs os) ng).2 os)) := by
  have hlg := hr.1.len
  have hlo := hr.2.len
  have hB1 : Below w.heap.size w (w.alloc (.cells #[.int .i64 x, .int .i64 y, .slice Ag ng cg, .slice Ao no co] 26)) := (Below.refl _ _).alloc (Nat.le_refl _) _
  have hB : Below w.heap.size w ((w.alloc (.cells #[.int .i64 x, .int .i64 y, .slice Ag ng cg, .slice Ao no co] 26)).alloc (.cells #[.int .i64 0, .int .i64 0, .slice none 0 0, .slice none 0 0] 26)) := hB1.alloc (by simp) _
  have hx0 : BxC ((w.alloc (.cells #[.int .i64 x, .int .i64 y, .slice Ag ng cg, .slice Ao no co] 26)).alloc (.cells #[.int .i64 0, .int .i64 0, .slice none 0 0, .slice none 0 0] 26)) w.heap.size x y Ag ng cg Ao no co := (BxC.new w _).below ((Below.refl _ _).alloc (Nat.le_refl _) _)
  have hr0 : BxC ((w.alloc (.cells #[.int .i64 x, .int .i64 y, .slice Ag ng cg, .slice Ao no co] 26)).alloc (.cells #[.int .i64 0, .int .i64 0, .slice none 0 0, .slice none 0 0] 26)) (w.heap.size + 1) 0 0 none 0 0 none 0 0 := by simpa using BxC.new (x := 0) (y := 0) (Ag := none) (ng := 0) (cg := 0) (Ao := none) (no := 0) (co := 0) (w.alloc (.cells #[.int .i64 x, .int .i64 y, .slice Ag ng cg, .slice Ao no co] 26)) 26
  have f0 : Fz ((w.alloc (.cells #[.int .i64 x, .int .i64 y, .slice Ag ng cg, .slice Ao no co] 26)).alloc (.cells #[.int .i64 0, .int .i64 0, .slice none 0 0, .slice none 0 0] 26)) (w.heap.size + 1) := by simpa using Fz.new (w.alloc (.cells #[.int .i64 x, .int .i64 y, .slice Ag ng cg, .slice Ao no co] 26)) #[.int .i64 0, .int .i64 0, .slice none 0 0, .slice none 0 0] 26
  have hs0 : ((w.alloc (.cells #[.int .i64 x, .int .i64 y, .slice Ag ng cg, .slice Ao no co] 26)).alloc (.cells #[.int .i64 0, .int .i64 0, .slice none 0 0, .slice none 0 0] 26)).heap.size = w.heap.size + 2 := by simp
  have HX0 : (X : Int) ≤ 40 := by have := hXe.out; omega
  obtain ⟨U, hU⟩ : ∃ U, Hid (usedL X gs os = U) := ⟨_, Lib.hid rfl⟩
  rw [hU.out]
  have HPl : Hid ((pick (drp X gs U ng).2 os).length = no) := Lib.hid (by rw [pick_len]; exact hlo)
  obtain ⟨v1, HV1⟩ : ∃ v1, Hid (((w.alloc (.cells #[.int .i64 x, .int .i64 y, .slice Ag ng cg, .slice Ao no co] 26)).alloc (.cells #[.int .i64 0, .int .i64 0, .slice none 0 0, .slice none 0 0] 26)) = v1) := ⟨_, Lib.hid rfl⟩
  rw [HV1.out] at hB hx0 hr0 f0 hs0
  have hBv := hB
  have hx1 := hx0
  have hr1 := hr0
  have f1 := f0
  have hz1 : w.heap.size + 2 ≤ v1.heap.size := by omega
  clear hx0 hr0 f0 hB hB1 hs0
  go_enter Try.func23, Try.ntmps23
  go_wp2_with fail
  rw [HV1.out]
  clear HV1
  have hq := hx1; obtain ⟨k0, k1, k2, k3⟩ := hq
  go_wp2_with fail
  refine wp_region_mem0 (6) [(⟨w.heap.size, 0, none⟩, .int .i64 x), (⟨w.heap.size, 1, none⟩, .int .i64 y), (⟨w.heap.size, 2, none⟩, .slice Ag ng cg), (⟨w.heap.size, 3, none⟩, .slice Ao no co)] [(1, [], []), (3, [], []), (4, [], []), (5, [], [])] [1, 4, 5] [(1, Res.brow v1.heap.size (X + ng) U), (3, Res.plain (.int .i64 (X : Int))), (4, Res.row v1.heap.size X (spn 0 X)), (5, Res.box [.slice none 0 0])] (by kernel_rfl) (by kernel_rfl) (by kernel_rfl) (by simp only [CellsL, List.mem_cons, forall_eq_or_imp, List.not_mem_nil, false_implies, implies_true, and_true]; repeat (any_goals (apply And.intro)); all_goals (first | assumption | go_simp)) ?_
  simp only [List.take_succ_cons, List.take_zero, List.drop_succ_cons, List.drop_zero, List.take_nil, List.drop_nil, List.take, List.drop]
  repeat (first
    | ((with_reducible refine mem_pure0 ?_ ?_ ?_)
       · exact rfl
       · exact rfl
       intro K hK
       apply Exists.intro
       refine ⟨fun w3 hw3 => ?_, ?_⟩
       · have hcs := hw3
         simp only [CellsL, List.mem_cons, forall_eq_or_imp, List.not_mem_nil, false_implies, implies_true, and_true] at hcs
         clear hw3
         go_simp
         first | done | exact ⟨rfl, rfl⟩ | rfl
       refine hK _ ?_
       clear hK K
       try simp only [Act.put, List.setIfInBounds_toArray, List.set_cons_zero, List.set_cons_succ])
    | ((with_reducible refine mem_skip ?_ ?_ ?_)
       · exact rfl
       · exact wanted_not rfl rfl rfl rfl
       simp only [Act.put, List.setIfInBounds_toArray, List.set_cons_zero, List.set_cons_succ])
    | ((with_reducible refine mem_pure ?_ ?_ ?_)
       · exact rfl
       · exact wanted_some rfl rfl rfl rfl
       intro K hK
       apply Exists.intro
       refine ⟨fun w3 hw3 => ?_, ?_⟩
       · have hcs := hw3
         simp only [CellsL, List.mem_cons, forall_eq_or_imp, List.not_mem_nil, false_implies, implies_true, and_true] at hcs
         clear hw3
         go_simp
         first | done | exact ⟨rfl, rfl⟩ | rfl
       refine hK _ ?_
       clear hK K
       try simp only [Act.put, List.setIfInBounds_toArray, List.set_cons_zero, List.set_cons_succ]))
  (with_reducible refine mem_brow v1.heap.size (X + ng) U ?_ ?_ ?_ ?_ ?_ (hw := ?_))
  · exact rfl
  · exact rfl
  · omega
  · intro w3 hw3 hc3 hp3
    have hrr : RG w3 Ag ng gs ∧ RI w3 Ao no os := ⟨hr.1.below (hBv.trans ((alt_below hw3).mono hBv.size)) (Nat.le_refl _), hr.2.below (hBv.trans ((alt_below hw3).mono hBv.size)) (Nat.le_refl _)⟩
    have hcs := hc3
    simp only [CellsL, List.mem_cons, forall_eq_or_imp, List.not_mem_nil, false_implies, implies_true, and_true] at hcs
    go_simp
    refine (used_any x y Ag ng cg Ao no co gs os X _ hrr hng hno hx hy hXe hgt hao).mono ?_
    rintro e w4 hT
    rw [hU.out] at hT
    obtain ⟨g, rfl, hg1, hg2, hg3⟩ := hT
    exact retPost.mk_ ⟨g, rfl, hg1, hg2, hg3⟩
  · intro g
    try simp only [Act.put, List.setIfInBounds_toArray, List.set_cons_zero, List.set_cons_succ]
    repeat (first
      | ((with_reducible refine mem_pure0 ?_ ?_ ?_)
         · exact rfl
         · exact rfl
         intro K hK
         apply Exists.intro
         refine ⟨fun w3 hw3 => ?_, ?_⟩
         · have hcs := hw3
           simp only [CellsL, List.mem_cons, forall_eq_or_imp, List.not_mem_nil, false_implies, implies_true, and_true] at hcs
           clear hw3
           go_simp
           first | done | exact ⟨rfl, rfl⟩ | rfl
         refine hK _ ?_
         clear hK K
         try simp only [Act.put, List.setIfInBounds_toArray, List.set_cons_zero, List.set_cons_succ])
      | ((with_reducible refine mem_skip ?_ ?_ ?_)
         · exact rfl
         · exact wanted_not rfl rfl rfl rfl
         simp only [Act.put, List.setIfInBounds_toArray, List.set_cons_zero, List.set_cons_succ])
      | ((with_reducible refine mem_pure ?_ ?_ ?_)
         · exact rfl
         · exact wanted_some rfl rfl rfl rfl
         intro K hK
         apply Exists.intro
         refine ⟨fun w3 hw3 => ?_, ?_⟩
         · have hcs := hw3
           simp only [CellsL, List.mem_cons, forall_eq_or_imp, List.not_mem_nil, false_implies, implies_true, and_true] at hcs
           clear hw3
           go_simp
           first | done | exact ⟨rfl, rfl⟩ | rfl
         refine hK _ ?_
         clear hK K
         try simp only [Act.put, List.setIfInBounds_toArray, List.set_cons_zero, List.set_cons_succ]))
    focus
      (with_reducible refine mem_plain (.int .i64 (X : Int)) ?_ ?_ ?_ ?_ (hw := ?_))
      · exact rfl
      · exact rfl
      · intro w3 hw3 hc3 hp3
        have hcs := hc3
        simp only [CellsL, List.mem_cons, forall_eq_or_imp, List.not_mem_nil, false_implies, implies_true, and_true] at hcs
        (go_simp; refine (Circuit_inputs_any x y Ag ng cg Ao no co _ hx hy).mono ?_; rintro e w4 ⟨rfl, hb4⟩; rw [hXe.out]; exact retPost.mk_ (postPlain.mk_ hb4))
      rotate_left
      · first | exact wanted_none rfl | exact wanted_some rfl rfl rfl rfl
      try simp only [Act.put, List.setIfInBounds_toArray, List.set_cons_zero, List.set_cons_succ]
    repeat (first
      | ((with_reducible refine mem_pure0 ?_ ?_ ?_)
         · exact rfl
         · exact rfl
         intro K hK
         apply Exists.intro
         refine ⟨fun w3 hw3 => ?_, ?_⟩
         · have hcs := hw3
           simp only [CellsL, List.mem_cons, forall_eq_or_imp, List.not_mem_nil, false_implies, implies_true, and_true] at hcs
           clear hw3
           go_simp
           first | done | exact ⟨rfl, rfl⟩ | rfl
         refine hK _ ?_
         clear hK K
         try simp only [Act.put, List.setIfInBounds_toArray, List.set_cons_zero, List.set_cons_succ])
      | ((with_reducible refine mem_skip ?_ ?_ ?_)
         · exact rfl
         · exact wanted_not rfl rfl rfl rfl
         simp only [Act.put, List.setIfInBounds_toArray, List.set_cons_zero, List.set_cons_succ])
      | ((with_reducible refine mem_pure ?_ ?_ ?_)
         · exact rfl
         · exact wanted_some rfl rfl rfl rfl
         intro K hK
         apply Exists.intro
         refine ⟨fun w3 hw3 => ?_, ?_⟩
         · have hcs := hw3
           simp only [CellsL, List.mem_cons, forall_eq_or_imp, List.not_mem_nil, false_implies, implies_true, and_true] at hcs
           clear hw3
           go_simp
           first | done | exact ⟨rfl, rfl⟩ | rfl
         refine hK _ ?_
         clear hK K
         try simp only [Act.put, List.setIfInBounds_toArray, List.set_cons_zero, List.set_cons_succ]))
    focus
      (with_reducible refine mem_row v1.heap.size X (spn 0 X) ?_ ?_ ?_ ?_ ?_ (hw := ?_))
      · exact rfl
      · exact rfl
      · omega
      · intro w3 hw3 hc3 hp3
        have hcs := hc3
        simp only [CellsL, List.mem_cons, forall_eq_or_imp, List.not_mem_nil, false_implies, implies_true, and_true] at hcs
        (go_simp; refine (span_any 0 X _ (by omega) (by omega)).mono ?_; rintro e w4 hT; obtain ⟨A4, c4, rfl, ho4, hb4⟩ := hT.open_ (spn_len 0 X); exact retPost.mk_ (postRow.mk_ ho4 hb4))
      rotate_left
      · first | exact wanted_none rfl | exact wanted_some rfl rfl rfl rfl
      intro F0 c0
      try simp only [Act.put, List.setIfInBounds_toArray, List.set_cons_zero, List.set_cons_succ]
    repeat (first
      | ((with_reducible refine mem_pure0 ?_ ?_ ?_)
         · exact rfl
         · exact rfl
         intro K hK
         apply Exists.intro
         refine ⟨fun w3 hw3 => ?_, ?_⟩
         · have hcs := hw3
           simp only [CellsL, List.mem_cons, forall_eq_or_imp, List.not_mem_nil, false_implies, implies_true, and_true] at hcs
           clear hw3
           go_simp
           first | done | exact ⟨rfl, rfl⟩ | rfl
         refine hK _ ?_
         clear hK K
         try simp only [Act.put, List.setIfInBounds_toArray, List.set_cons_zero, List.set_cons_succ])
      | ((with_reducible refine mem_skip ?_ ?_ ?_)
         · exact rfl
         · exact wanted_not rfl rfl rfl rfl
         simp only [Act.put, List.setIfInBounds_toArray, List.set_cons_zero, List.set_cons_succ])
      | ((with_reducible refine mem_pure ?_ ?_ ?_)
         · exact rfl
         · exact wanted_some rfl rfl rfl rfl
         intro K hK
         apply Exists.intro
         refine ⟨fun w3 hw3 => ?_, ?_⟩
         · have hcs := hw3
           simp only [CellsL, List.mem_cons, forall_eq_or_imp, List.not_mem_nil, false_implies, implies_true, and_true] at hcs
           clear hw3
           go_simp
           first | done | exact ⟨rfl, rfl⟩ | rfl
         refine hK _ ?_
         clear hK K
         try simp only [Act.put, List.setIfInBounds_toArray, List.set_cons_zero, List.set_cons_succ]))
    focus
      (with_reducible refine mem_box [.slice none 0 0] ?_ ?_ ?_ ?_ (hw := ?_))
      · exact rfl
      · exact rfl
      · intro w3 hw3 hc3 hp3
        have hcs := hc3
        simp only [CellsL, List.mem_cons, forall_eq_or_imp, List.not_mem_nil, false_implies, implies_true, and_true] at hcs
        (go_simp; exact postBox.new w3 [.slice none 0 0] _ ⟨box_cell _ _ 0 _ rfl, trivial⟩)
      rotate_left
      · first | exact wanted_none rfl | exact wanted_some rfl rfl rfl rfl
      intro b5
      try simp only [Act.put, List.setIfInBounds_toArray, List.set_cons_zero, List.set_cons_succ]
    repeat (first
      | ((with_reducible refine mem_pure0 ?_ ?_ ?_)
         · exact rfl
         · exact rfl
         intro K hK
         apply Exists.intro
         refine ⟨fun w3 hw3 => ?_, ?_⟩
         · have hcs := hw3
           simp only [CellsL, List.mem_cons, forall_eq_or_imp, List.not_mem_nil, false_implies, implies_true, and_true] at hcs
           clear hw3
           go_simp
           first | done | exact ⟨rfl, rfl⟩ | rfl
         refine hK _ ?_
         clear hK K
         try simp only [Act.put, List.setIfInBounds_toArray, List.set_cons_zero, List.set_cons_succ])
      | ((with_reducible refine mem_skip ?_ ?_ ?_)
         · exact rfl
         · exact wanted_not rfl rfl rfl rfl
         simp only [Act.put, List.setIfInBounds_toArray, List.set_cons_zero, List.set_cons_succ])
      | ((with_reducible refine mem_pure ?_ ?_ ?_)
         · exact rfl
         · exact wanted_some rfl rfl rfl rfl
         intro K hK
         apply Exists.intro
         refine ⟨fun w3 hw3 => ?_, ?_⟩
         · have hcs := hw3
           simp only [CellsL, List.mem_cons, forall_eq_or_imp, List.not_mem_nil, false_implies, implies_true, and_true] at hcs
           clear hw3
           go_simp
           first | done | exact ⟨rfl, rfl⟩ | rfl
         refine hK _ ?_
         clear hK K
         try simp only [Act.put, List.setIfInBounds_toArray, List.set_cons_zero, List.set_cons_succ]))
    refine wpSep_end ?_
    intro wt hwt hct hfin hap
    have hbt := alt_below hwt
    have h1 : v1.heap.size ≤ g ∧ BRow wt g (X + ng) U := hfin.1.1 g rfl
    have h4 : Own wt v1.heap.size wt.heap.size (.slice F0 X c0) X (spn 0 X) := hfin.2.1.1
    have h5 : b5 < wt.heap.size ∧ CellsAt wt b5 0 [.slice none 0 0] ∧ Fz wt b5 := hfin.2.2.1.1 b5 rfl
    have hb5l : v1.heap.size ≤ b5 := ((hfin.2.2.1.2 b5 rfl).1).elim id False.elim
    have hg5 : g ≠ b5 := fun hc => hap 1 (by simp) 5 (by simp) (by decide) g rfl (by rw [hc]; rfl)
    have hF5 : (Value.slice F0 X c0).ownBlock ≠ some b5 := fun hc => hap 4 (by simp) 5 (by simp) (by decide) b5 hc rfl
    have hgF : (Value.slice F0 X c0).ownBlock ≠ some g := fun hc => hap 4 (by simp) 1 (by simp) (by decide) g hc rfl
    obtain ⟨hl5, ⟨n0, _⟩, fz5⟩ := h5
    obtain ⟨hgl, hRt⟩ := h1
    clear hfin hap hct hwt
    have k5 : Alt (fun i => i = b5) wt (wt.setCell ⟨b5, 0, none⟩ (.slice F0 X c0)) := (Alt.refl_ _ wt).set_ _ _ (fun _ => rfl)
    have hzt := hbt.size
    have hbS := hbt.setCell (p := ⟨b5, 0, none⟩) hb5l (.slice F0 X c0)
    have hRS := hRt.alt k5 hg5
    have hFS := (h4.alt k5 (fun g hg hc => hF5 (hc ▸ hg))).now
    have c5S := World.cell?_setCell_same wt ⟨b5, 0, none⟩ (.slice F0 X c0) n0
    have f5S := fz5.set ⟨b5, 0, none⟩ (.slice F0 X c0)
    have hlS : b5 < (wt.setCell ⟨b5, 0, none⟩ (.slice F0 X c0)).heap.size := by simpa using hl5
    have hsS : (wt.setCell ⟨b5, 0, none⟩ (.slice F0 X c0)).heap.size = wt.heap.size := by simp
    have d5 := fz5 0
    have hxS := hx1.below hbS
    have hbA : Below wt.heap.size (wt.setCell ⟨b5, 0, none⟩ (.slice F0 X c0)) ((wt.setCell ⟨b5, 0, none⟩ (.slice F0 X c0)).alloc (.cells #[.int .i64 x, .int .i64 y, .slice none 0 0, .slice none 0 0] 26)) := (Below.refl _ _).alloc (by simp) _
    have hbA' : Below (wt.setCell ⟨b5, 0, none⟩ (.slice F0 X c0)).heap.size (wt.setCell ⟨b5, 0, none⟩ (.slice F0 X c0)) ((wt.setCell ⟨b5, 0, none⟩ (.slice F0 X c0)).alloc (.cells #[.int .i64 x, .int .i64 y, .slice none 0 0, .slice none 0 0] 26)) := (Below.refl _ _).alloc (Nat.le_refl _) _
    have hsA : ((wt.setCell ⟨b5, 0, none⟩ (.slice F0 X c0)).alloc (.cells #[.int .i64 x, .int .i64 y, .slice none 0 0, .slice none 0 0] 26)).heap.size = wt.heap.size + 1 := by simp
    have hnB : BxC ((wt.setCell ⟨b5, 0, none⟩ (.slice F0 X c0)).alloc (.cells #[.int .i64 x, .int .i64 y, .slice none 0 0, .slice none 0 0] 26)) wt.heap.size x y none 0 0 none 0 0 := by simpa using BxC.new (x := x) (y := y) (Ag := none) (ng := 0) (cg := 0) (Ao := none) (no := 0) (co := 0) (wt.setCell ⟨b5, 0, none⟩ (.slice F0 X c0)) 26
    have fnB : Fz ((wt.setCell ⟨b5, 0, none⟩ (.slice F0 X c0)).alloc (.cells #[.int .i64 x, .int .i64 y, .slice none 0 0, .slice none 0 0] 26)) wt.heap.size := by simpa using Fz.new (wt.setCell ⟨b5, 0, none⟩ (.slice F0 X c0)) #[.int .i64 x, .int .i64 y, .slice none 0 0, .slice none 0 0] 26
    have hI0 : MgI ((wt.setCell ⟨b5, 0, none⟩ (.slice F0 X c0)).alloc (.cells #[.int .i64 x, .int .i64 y, .slice none 0 0, .slice none 0 0] 26)) v1.heap.size wt.heap.size b5 x y none 0 0 [] F0 X c0 (spn 0 X) := ⟨hnB, fnB, cell_bel c5S hbA', f5S.below hbA' hlS, OwnG.none_ _ _ _, (hFS.below hbA' (.inl (Nat.le_refl _))).now, Apart.noneG _ _ _, by simp [Value.ownBlock], by simp [Value.ownBlock], fun hc => by have := hFS.lt _ hc; omega, hF5, by omega, hzt, hb5l, by omega, by omega⟩
    have hR0 := hRS.below hbA'
    have hb0 := hbS.trans (hbA.mono hzt)
    have hg4 : g ≠ wt.heap.size := by have := hRt.lt; omega
    have hxA := hxS.below hbA'
    clear k0 k1 k2 k3
    have hq := hxS; obtain ⟨k0, k1, k2, k3⟩ := hq
    have hq := hxA; obtain ⟨q0, q1, q2, q3⟩ := hq
    go_wp2
    clear k0 k1 k2 k3 q0 q1 q2 q3 hxA hxS c5S f5S hFS hRS hbS k5 hnB fnB h4 n0 fz5 d5 hlS hsS hRt hbt hbA' hl5
    go_loopw [21] (fun i wr => ∃ (k : Nat) (G : Option Addr) (kg cG : Nat) (F : Option Addr) (cF : Nat), k ≤ ng ∧ i = .int .i64 k ∧ MgI wr v1.heap.size wt.heap.size b5 x y G kg cG (drp X gs U k).1 F (X + k) cF (drp X gs U k).2 ∧ BRow wr g (X + ng) U ∧ (Value.slice F (X + k) cF).ownBlock ≠ some g ∧ (Value.slice G kg cG).ownBlock ≠ some g ∧ Below v1.heap.size v1 wr) (fun i _ => ng - (intOf i).toNat)
    case atStart => exact ⟨0, _, _, _, _, _, Nat.zero_le _, rfl, hI0, hR0, hgF, by simp [Value.ownBlock], hb0⟩
    case round =>
      obtain ⟨k, G, kg, cG, F, cF, hk, rfl, hI, hR, hFg, hGg, hb⟩ := hrel
      clear hI0 hR0 hb0 hgF hF5 hbA hsA
      have hzr := hb.size
      have hBr := hBv.trans (hb.mono hBv.size)
      have hdl := drp_len X gs U k
      have hkl := hI.g.len
      by_cases hlt : k < ng
      · obtain ⟨b, o, rfl, hbB, c1, c2, c3⟩ := (hr.1.below hBr (Nat.le_refl _)).at_ hlt
        have hgk := hgt k hlt
        obtain ⟨hs, hhs⟩ : ∃ hs, Hid ((drp X gs U k).1 = hs) := ⟨_, Lib.hid rfl⟩
        obtain ⟨fs, hfs⟩ : ∃ fs, Hid ((drp X gs U k).2 = fs) := ⟨_, Lib.hid rfl⟩
        rw [hhs.out, hfs.out] at hI hdl
        rw [hhs.out] at hkl
        rw [hkl] at hdl
        obtain ⟨hkk, hfl⟩ := hdl
        have HS2 : Hid ((drp X gs U (k + 1)).2 = fs ++ [(X : Int) + kg]) := Lib.hid (by simp only [drp]; rw [hfs.out, hhs.out, hkl])
        have HN : Hid (x + y + (kg : Int) = (X : Int) + kg) := Lib.hid (by have := hXe.out; omega)
        have hbA : Below wr.heap.size wr (wr.alloc (.cells #[.int .i64 (gg gs k).k, .int .i64 (gg gs k).a, .int .i64 (gg gs k).b] 50)) := (Below.refl _ _).alloc (Nat.le_refl _) _
        have hIA := hI.below hbA
        have hRA := hR.below hbA
        have hgA := BxG.new (k := (gg gs k).k) (a := (gg gs k).a) (c := (gg gs k).b) wr 50
        have hsA : (wr.alloc (.cells #[.int .i64 (gg gs k).k, .int .i64 (gg gs k).a, .int .i64 (gg gs k).b] 50)).heap.size = wr.heap.size + 1 := by simp
        have hwA : IntKind.i64.wrap ((X : Int) + (k : Int)) = (X : Int) + k := IntWalk.i64_in _ (by omega)
        obtain ⟨W, HW⟩ : ∃ W, Hid (wr.alloc (.cells #[.int .i64 (gg gs k).k, .int .i64 (gg gs k).a, .int .i64 (gg gs k).b] 50) = W) := ⟨_, Lib.hid rfl⟩
        rw [HW.out] at hbA hIA hRA hgA hsA
        have hFb := fun q hq => (hI.f.lt q hq).2.2
        have hGb := fun q hq => (hI.g.lt q hq).2.2
        go_wp2_with fail
        rw [HW.out]
        clear HW c1 c2 c3
        have hq := hIA.bx; obtain ⟨p0, p1, p2, p3⟩ := hq
        have h5 := hIA.c5
        go_wp2_with fail
        refine wp_region_mem (5) ((fun b => (Value.slice F (X + k) cF).ownBlock = some b)) [(⟨b5, 0, none⟩, .slice F (X + k) cF), (⟨wt.heap.size, 0, none⟩, .int .i64 x), (⟨wt.heap.size, 1, none⟩, .int .i64 y), (⟨wt.heap.size, 2, none⟩, .slice G kg cG), (⟨wt.heap.size, 3, none⟩, .slice none 0 0)] [(2, [], []), (3, [], []), (4, [101, 3], [101])] [101] [4] [(101, Res.row v1.heap.size (X + k) fs), (2, Res.plain (.int .i64 ((X : Int) + kg))), (3, Res.row v1.heap.size 1 [(X : Int) + kg]), (4, Res.row v1.heap.size (X + k + 1) (fs ++ [(X : Int) + kg]))] ((upd (fun _ => undef) 101 (.slice F (X + k) cF))) (by kernel_rfl) (by kernel_rfl) (by kernel_rfl) (by simp only [CellsL, List.mem_cons, forall_eq_or_imp, List.not_mem_nil, false_implies, implies_true, and_true]; repeat (any_goals (apply And.intro)); all_goals (first | assumption | go_simp)) (fun q hq => by simp only [List.mem_cons, List.not_mem_nil, or_false] at hq; rcases hq with rfl | rfl | rfl | rfl | rfl <;> first | exact hIA.r5 | exact hIA.r4) (⟨⟨hIA.f, fun b hb => ⟨.inr hb, (hIA.f.lt b hb).2.2⟩⟩, trivial⟩) (one_apart) ?_
        simp only [List.take_succ_cons, List.take_zero, List.drop_succ_cons, List.drop_zero, List.take_nil, List.drop_nil, List.take, List.drop]
        repeat (first
          | ((with_reducible refine mem_pure0 ?_ ?_ ?_)
             · exact rfl
             · exact rfl
             intro K hK
             apply Exists.intro
             refine ⟨fun w3 hw3 => ?_, ?_⟩
             · have hcs := hw3
               simp only [CellsL, List.mem_cons, forall_eq_or_imp, List.not_mem_nil, false_implies, implies_true, and_true] at hcs
               clear hw3
               go_simp
               first | done | exact ⟨rfl, rfl⟩ | rfl
             refine hK _ ?_
             clear hK K
             try simp only [Act.put, List.setIfInBounds_toArray, List.set_cons_zero, List.set_cons_succ])
          | ((with_reducible refine mem_skip ?_ ?_ ?_)
             · exact rfl
             · exact wanted_not rfl rfl rfl rfl
             simp only [Act.put, List.setIfInBounds_toArray, List.set_cons_zero, List.set_cons_succ])
          | ((with_reducible refine mem_pure ?_ ?_ ?_)
             · exact rfl
             · exact wanted_some rfl rfl rfl rfl
             intro K hK
             apply Exists.intro
             refine ⟨fun w3 hw3 => ?_, ?_⟩
             · have hcs := hw3
               simp only [CellsL, List.mem_cons, forall_eq_or_imp, List.not_mem_nil, false_implies, implies_true, and_true] at hcs
               clear hw3
               go_simp
               first | done | exact ⟨rfl, rfl⟩ | rfl
             refine hK _ ?_
             clear hK K
             try simp only [Act.put, List.setIfInBounds_toArray, List.set_cons_zero, List.set_cons_succ]))
        focus
          (with_reducible refine mem_plain (.int .i64 ((X : Int) + kg)) ?_ ?_ ?_ ?_ (hw := ?_))
          · exact rfl
          · exact rfl
          · intro w3 hw3 hc3 hp3
            have hcs := hc3
            simp only [CellsL, List.mem_cons, forall_eq_or_imp, List.not_mem_nil, false_implies, implies_true, and_true] at hcs
            (go_simp; refine (Circuit_wires_any x y G kg cG none 0 0 _ hx hy (by omega)).mono ?_; rintro e w4 ⟨rfl, hb4⟩; rw [HN.out]; exact retPost.mk_ (postPlain.mk_ hb4))
          rotate_left
          · first | exact wanted_none rfl | exact wanted_some rfl rfl rfl rfl
          try simp only [Act.put, List.setIfInBounds_toArray, List.set_cons_zero, List.set_cons_succ]
        repeat (first
          | ((with_reducible refine mem_pure0 ?_ ?_ ?_)
             · exact rfl
             · exact rfl
             intro K hK
             apply Exists.intro
             refine ⟨fun w3 hw3 => ?_, ?_⟩
             · have hcs := hw3
               simp only [CellsL, List.mem_cons, forall_eq_or_imp, List.not_mem_nil, false_implies, implies_true, and_true] at hcs
               clear hw3
               go_simp
               first | done | exact ⟨rfl, rfl⟩ | rfl
             refine hK _ ?_
             clear hK K
             try simp only [Act.put, List.setIfInBounds_toArray, List.set_cons_zero, List.set_cons_succ])
          | ((with_reducible refine mem_skip ?_ ?_ ?_)
             · exact rfl
             · exact wanted_not rfl rfl rfl rfl
             simp only [Act.put, List.setIfInBounds_toArray, List.set_cons_zero, List.set_cons_succ])
          | ((with_reducible refine mem_pure ?_ ?_ ?_)
             · exact rfl
             · exact wanted_some rfl rfl rfl rfl
             intro K hK
             apply Exists.intro
             refine ⟨fun w3 hw3 => ?_, ?_⟩
             · have hcs := hw3
               simp only [CellsL, List.mem_cons, forall_eq_or_imp, List.not_mem_nil, false_implies, implies_true, and_true] at hcs
               clear hw3
               go_simp
               first | done | exact ⟨rfl, rfl⟩ | rfl
             refine hK _ ?_
             clear hK K
             try simp only [Act.put, List.setIfInBounds_toArray, List.set_cons_zero, List.set_cons_succ]))
        focus
          (with_reducible refine mem_row v1.heap.size 1 [(X : Int) + kg] ?_ ?_ ?_ ?_ ?_ (hw := ?_))
          · exact rfl
          · exact rfl
          · omega
          · intro w3 hw3 hc3 hp3
            have hcs := hc3
            simp only [CellsL, List.mem_cons, forall_eq_or_imp, List.not_mem_nil, false_implies, implies_true, and_true] at hcs
            (go_simp; exact postRow.new1 _ _)
          rotate_left
          · first | exact wanted_none rfl | exact wanted_some rfl rfl rfl rfl
          intro A7 c7
          try simp only [Act.put, List.setIfInBounds_toArray, List.set_cons_zero, List.set_cons_succ]
        repeat (first
          | ((with_reducible refine mem_pure0 ?_ ?_ ?_)
             · exact rfl
             · exact rfl
             intro K hK
             apply Exists.intro
             refine ⟨fun w3 hw3 => ?_, ?_⟩
             · have hcs := hw3
               simp only [CellsL, List.mem_cons, forall_eq_or_imp, List.not_mem_nil, false_implies, implies_true, and_true] at hcs
               clear hw3
               go_simp
               first | done | exact ⟨rfl, rfl⟩ | rfl
             refine hK _ ?_
             clear hK K
             try simp only [Act.put, List.setIfInBounds_toArray, List.set_cons_zero, List.set_cons_succ])
          | ((with_reducible refine mem_skip ?_ ?_ ?_)
             · exact rfl
             · exact wanted_not rfl rfl rfl rfl
             simp only [Act.put, List.setIfInBounds_toArray, List.set_cons_zero, List.set_cons_succ])
          | ((with_reducible refine mem_pure ?_ ?_ ?_)
             · exact rfl
             · exact wanted_some rfl rfl rfl rfl
             intro K hK
             apply Exists.intro
             refine ⟨fun w3 hw3 => ?_, ?_⟩
             · have hcs := hw3
               simp only [CellsL, List.mem_cons, forall_eq_or_imp, List.not_mem_nil, false_implies, implies_true, and_true] at hcs
               clear hw3
               go_simp
               first | done | exact ⟨rfl, rfl⟩ | rfl
             refine hK _ ?_
             clear hK K
             try simp only [Act.put, List.setIfInBounds_toArray, List.set_cons_zero, List.set_cons_succ]))
        refine mem_appI 101 v1.heap.size (X + k) 1 fs [(X : Int) + kg] F cF A7 c7 (.tmp 26) (.tmp 29) (by rfl) (by rfl) (by omega) (by rfl) (by rfl) (by decide) (by rfl) (by rfl) (by rfl) (by rfl) (by omega) (fun w3 hw3 hc3 hp3 => ?_) (fun F' cF' => ?_)
        · have h7 : Own w3 v1.heap.size w3.heap.size (.slice A7 1 c7) 1 [(X : Int) + kg] := hp3.1.2.1.1
          exact h7.reads
        try simp only [Act.put, List.setIfInBounds_toArray, List.set_cons_zero, List.set_cons_succ]
        repeat (first
          | ((with_reducible refine mem_pure0 ?_ ?_ ?_)
             · exact rfl
             · exact rfl
             intro K hK
             apply Exists.intro
             refine ⟨fun w3 hw3 => ?_, ?_⟩
             · have hcs := hw3
               simp only [CellsL, List.mem_cons, forall_eq_or_imp, List.not_mem_nil, false_implies, implies_true, and_true] at hcs
               clear hw3
               go_simp
               first | done | exact ⟨rfl, rfl⟩ | rfl
             refine hK _ ?_
             clear hK K
             try simp only [Act.put, List.setIfInBounds_toArray, List.set_cons_zero, List.set_cons_succ])
          | ((with_reducible refine mem_skip ?_ ?_ ?_)
             · exact rfl
             · exact wanted_not rfl rfl rfl rfl
             simp only [Act.put, List.setIfInBounds_toArray, List.set_cons_zero, List.set_cons_succ])
          | ((with_reducible refine mem_pure ?_ ?_ ?_)
             · exact rfl
             · exact wanted_some rfl rfl rfl rfl
             intro K hK
             apply Exists.intro
             refine ⟨fun w3 hw3 => ?_, ?_⟩
             · have hcs := hw3
               simp only [CellsL, List.mem_cons, forall_eq_or_imp, List.not_mem_nil, false_implies, implies_true, and_true] at hcs
               clear hw3
               go_simp
               first | done | exact ⟨rfl, rfl⟩ | rfl
             refine hK _ ?_
             clear hK K
             try simp only [Act.put, List.setIfInBounds_toArray, List.set_cons_zero, List.set_cons_succ]))
        refine wpSep_end ?_
        intro wz hwz hcz hfin hap
        have hF4 : Own wz v1.heap.size wz.heap.size (.slice F' (X + k + 1) cF') (X + k + 1) (fs ++ [(X : Int) + kg]) := hfin.1.1
        have hok : ∀ b, (Value.slice F' (X + k + 1) cF').ownBlock = some b → okB W (fun b => (Value.slice F (X + k) cF).ownBlock = some b) b := fun b hb => (hfin.1.2 b hb).1
        have ha := hIA.appF1 hwz hF4 hok
        obtain ⟨⟨c5z, f5z⟩, hI6⟩ := ha
        have d5 := f5z 0
        have hbW := hb.trans (hbA.mono hzr)
        have hbz := (hbW.trans (hwz.below_ (B := v1.heap.size) (by omega) (fun i hi ho => ho.elim (fun h => by omega) (fun h => by have := hIA.f.lt i h; omega)))).setCell (p := ⟨b5, 0, none⟩) hb5l (.slice F' (X + k + 1) cF')
        have kk5 : Alt (fun i => i = b5) wz (wz.setCell ⟨b5, 0, none⟩ (.slice F' (X + k + 1) cF')) := (Alt.refl_ _ wz).set_ _ _ (fun _ => rfl)
        have hRz := (hRA.alt hwz (fun hc => hc.elim (fun h => by have := hRA.lt; omega) hFg)).alt kk5 hg5
        have hgz := (hgA.alt_ hwz (fun hc => hc.elim (fun h => by omega) (fun h => absurd (hFb _ h) (Nat.lt_irrefl _)))).alt_ kk5 (by have := hI.lt5; show ¬ wr.heap.size = b5; omega)
        have hFg' : (Value.slice F' (X + k + 1) cF').ownBlock ≠ some g := fun hc => (hok g hc).elim (fun h => by have := hRA.lt; omega) hFg
        have hxz := hx1.below hbz
        have hq := hxz; obtain ⟨t0, t1, t2, t3⟩ := hq
        clear hfin hap hcz hwz hF4 p0 p1 p2 p3 h5 kk5 hIA hRA hgA hI hR
        go_wp2_with fail
        refine (Circuit_inputs_any x y (some ⟨b, o, none⟩) ng cg Ao no co _ hx hy).mono ?_
        rintro e w8 ⟨rfl, hb8⟩
        rw [hXe.out]
        have hI8 := hI6.below hb8
        have hR8 := hRz.below hb8
        have hg8 := hgz.below hb8
        have hbv8 := hbz.trans (hb8.mono hbz.size)
        have hz8 := hbv8.size
        have hk0 : (0 : Int) ≤ (X : Int) + k := by omega
        have hk1 : (X : Int) + (k : Int) < (X : Int) + (ng : Int) := by omega
        have hk2 : (X : Int) + (k : Int) < ((X + ng : Nat) : Int) := by omega
        have htk : ((X : Int) + (k : Int)).toNat = X + k := by omega
        have hcu := hR8.at_ (X + k) (by omega)
        rw [show ((X + k : Nat) : Int) = (X : Int) + k by omega] at hcu
        clear hI6 hRz hgz hbz hb8 hxz t0 t1 t2 t3 c5z f5z d5
        have HTo : ∀ z : Int, 0 ≤ z → z < (X : Int) + k → ∀ w1, w1.cell? ⟨b5, 0, none⟩ = some (.slice F' (X + k + 1) cF') → RI w1 F' (X + k + 1) (fs ++ [(X : Int) + kg]) → Calls Try.prog 46 (#[.int .i64 z] ++ #[.pointer (some ⟨b5, 0, none⟩)]) w1 fun e w' => e = .returned (.int .i64 (gi fs z.toNat)) ∧ Below w1.heap.size w1 w' := fun z h0 h1 w1 hc hri => by
          have h := dropDead_1_any b5 F' (X + k + 1) cF' (fs ++ [(X : Int) + kg]) z w1 hc hri ⟨h0, by omega⟩ (by omega)
          rw [gi_append_l (by omega)] at h
          exact h
        cases hu : inL U ((X : Int) + k) with
        | false =>
          have HS1 : Hid ((drp X gs U (k + 1)).1 = hs) := Lib.hid (by rw [drp_no hu, hhs.out])
          rw [hu] at hcu
          clear hu
          go_wp2
          rw [← HS2.out] at hI8
          rw [← HS1.out] at hI8
          go_roundw
          case rel => exact ⟨k + 1, _, _, _, _, _, by omega, by go_num, hI8, hR8, hFg', hGg, hbv8⟩
          case measure => first | (simp [intOf]; done) | (simp [intOf]; omega)
        | true =>
          obtain ⟨M, hM⟩ : ∃ M, Hid (mvG (fun z => gi fs z.toNat) (gg gs k) = M) := ⟨_, Lib.hid rfl⟩
          have HS1 : Hid ((drp X gs U (k + 1)).1 = hs ++ [M]) := Lib.hid (by rw [drp_yes hu, hhs.out, hfs.out, hM.out])
          rw [hu] at hcu
          clear hu
          have hnb : ¬ (Value.slice G kg cG).ownBlock = some wr.heap.size := fun h => absurd (hGb _ h) (Nat.lt_irrefl _)
          have hq := hI8.bx; obtain ⟨p0, p1, p2, p3⟩ := hq
          have hq := hg8; obtain ⟨q0, q1, q2⟩ := hq
          go_wp2_with fail
          refine wp_region_mem (7) ((fun b => (Value.slice G kg cG).ownBlock = some b)) [(⟨wt.heap.size, 2, none⟩, .slice G kg cG), (⟨wr.heap.size, 0, none⟩, .int .i64 (gg gs k).k), (⟨wr.heap.size, 1, none⟩, .int .i64 (gg gs k).a), (⟨wr.heap.size, 2, none⟩, .int .i64 (gg gs k).b)] [(4, [], []), (5, [], []), (6, [100, 5], [100])] [100] [6] [(100, Res.rowG v1.heap.size kg hs), (4, Res.plain (.agg #[.int .i64 M.k, .int .i64 M.a, .int .i64 M.b])), (5, Res.rowG v1.heap.size 1 [M]), (6, Res.rowG v1.heap.size (kg + 1) (hs ++ [M]))] ((upd (fun _ => undef) 100 (.slice G kg cG))) (by kernel_rfl) (by kernel_rfl) (by kernel_rfl) (by simp only [CellsL, List.mem_cons, forall_eq_or_imp, List.not_mem_nil, false_implies, implies_true, and_true]; repeat (any_goals (apply And.intro)); all_goals (first | assumption | go_simp)) (fun q hq => by simp only [List.mem_cons, List.not_mem_nil, or_false] at hq; rcases hq with rfl | rfl | rfl | rfl <;> first | exact hI8.g4 | exact hnb) (⟨⟨hI8.g, fun b hb => ⟨.inr hb, (hI8.g.lt b hb).2.2⟩⟩, trivial⟩) (one_apart) ?_
          simp only [List.take_succ_cons, List.take_zero, List.drop_succ_cons, List.drop_zero, List.take_nil, List.drop_nil, List.take, List.drop]
          repeat (first
            | ((with_reducible refine mem_pure0 ?_ ?_ ?_)
               · exact rfl
               · exact rfl
               intro K hK
               apply Exists.intro
               refine ⟨fun w3 hw3 => ?_, ?_⟩
               · have hcs := hw3
                 simp only [CellsL, List.mem_cons, forall_eq_or_imp, List.not_mem_nil, false_implies, implies_true, and_true] at hcs
                 clear hw3
                 go_simp
                 first | done | exact ⟨rfl, rfl⟩ | rfl
               refine hK _ ?_
               clear hK K
               try simp only [Act.put, List.setIfInBounds_toArray, List.set_cons_zero, List.set_cons_succ])
            | ((with_reducible refine mem_skip ?_ ?_ ?_)
               · exact rfl
               · exact wanted_not rfl rfl rfl rfl
               simp only [Act.put, List.setIfInBounds_toArray, List.set_cons_zero, List.set_cons_succ])
            | ((with_reducible refine mem_pure ?_ ?_ ?_)
               · exact rfl
               · exact wanted_some rfl rfl rfl rfl
               intro K hK
               apply Exists.intro
               refine ⟨fun w3 hw3 => ?_, ?_⟩
               · have hcs := hw3
                 simp only [CellsL, List.mem_cons, forall_eq_or_imp, List.not_mem_nil, false_implies, implies_true, and_true] at hcs
                 clear hw3
                 go_simp
                 first | done | exact ⟨rfl, rfl⟩ | rfl
               refine hK _ ?_
               clear hK K
               try simp only [Act.put, List.setIfInBounds_toArray, List.set_cons_zero, List.set_cons_succ]))
          focus
            (with_reducible refine mem_plain (.agg #[.int .i64 M.k, .int .i64 M.a, .int .i64 M.b]) ?_ ?_ ?_ ?_ (hw := ?_))
            · exact rfl
            · exact rfl
            · intro w3 hw3 hc3 hp3
              have hcs := hc3
              simp only [CellsL, List.mem_cons, forall_eq_or_imp, List.not_mem_nil, false_implies, implies_true, and_true] at hcs
              (have c53 := hw3.cell_ hI8.c5 (fun hc => hc.elim (fun h => absurd hI8.lt5 (Nat.not_lt.2 h)) hI8.g5); have hF3 := hI8.f.alt hw3 (fun q hq hc => hc.elim (fun h => by have := hI8.f.lt q hq; omega) (fun h => hI8.ap q h hq)); go_simp; refine (moved_any 46 Try.call46 #[.pointer (some ⟨b5, 0, none⟩)] (fun z => gi fs z.toNat) (gg gs k) ((X : Int) + k) _ hgk (Lib.hid fun z h0 h1 w1 hb1 => HTo z h0 h1 w1 (cell_bel c53 hb1) (hF3.reads.below hb1 (Nat.le_refl _)))).mono ?_; rintro e w4 ⟨rfl, hb4⟩; rw [hM.out]; exact retPost.mk_ (postPlain.mk_ hb4))
            rotate_left
            · first | exact wanted_none rfl | exact wanted_some rfl rfl rfl rfl
            try simp only [Act.put, List.setIfInBounds_toArray, List.set_cons_zero, List.set_cons_succ]
          repeat (first
            | ((with_reducible refine mem_pure0 ?_ ?_ ?_)
               · exact rfl
               · exact rfl
               intro K hK
               apply Exists.intro
               refine ⟨fun w3 hw3 => ?_, ?_⟩
               · have hcs := hw3
                 simp only [CellsL, List.mem_cons, forall_eq_or_imp, List.not_mem_nil, false_implies, implies_true, and_true] at hcs
                 clear hw3
                 go_simp
                 first | done | exact ⟨rfl, rfl⟩ | rfl
               refine hK _ ?_
               clear hK K
               try simp only [Act.put, List.setIfInBounds_toArray, List.set_cons_zero, List.set_cons_succ])
            | ((with_reducible refine mem_skip ?_ ?_ ?_)
               · exact rfl
               · exact wanted_not rfl rfl rfl rfl
               simp only [Act.put, List.setIfInBounds_toArray, List.set_cons_zero, List.set_cons_succ])
            | ((with_reducible refine mem_pure ?_ ?_ ?_)
               · exact rfl
               · exact wanted_some rfl rfl rfl rfl
               intro K hK
               apply Exists.intro
               refine ⟨fun w3 hw3 => ?_, ?_⟩
               · have hcs := hw3
                 simp only [CellsL, List.mem_cons, forall_eq_or_imp, List.not_mem_nil, false_implies, implies_true, and_true] at hcs
                 clear hw3
                 go_simp
                 first | done | exact ⟨rfl, rfl⟩ | rfl
               refine hK _ ?_
               clear hK K
               try simp only [Act.put, List.setIfInBounds_toArray, List.set_cons_zero, List.set_cons_succ]))
          focus
            (with_reducible refine mem_rowG v1.heap.size 1 [M] ?_ ?_ ?_ ?_ ?_ (hw := ?_))
            · exact rfl
            · exact rfl
            · omega
            · intro w3 hw3 hc3 hp3
              have hcs := hc3
              simp only [CellsL, List.mem_cons, forall_eq_or_imp, List.not_mem_nil, false_implies, implies_true, and_true] at hcs
              (go_simp; exact postRowG.new1 _ _)
            rotate_left
            · first | exact wanted_none rfl | exact wanted_some rfl rfl rfl rfl
            intro A3 c3
            try simp only [Act.put, List.setIfInBounds_toArray, List.set_cons_zero, List.set_cons_succ]
          repeat (first
            | ((with_reducible refine mem_pure0 ?_ ?_ ?_)
               · exact rfl
               · exact rfl
               intro K hK
               apply Exists.intro
               refine ⟨fun w3 hw3 => ?_, ?_⟩
               · have hcs := hw3
                 simp only [CellsL, List.mem_cons, forall_eq_or_imp, List.not_mem_nil, false_implies, implies_true, and_true] at hcs
                 clear hw3
                 go_simp
                 first | done | exact ⟨rfl, rfl⟩ | rfl
               refine hK _ ?_
               clear hK K
               try simp only [Act.put, List.setIfInBounds_toArray, List.set_cons_zero, List.set_cons_succ])
            | ((with_reducible refine mem_skip ?_ ?_ ?_)
               · exact rfl
               · exact wanted_not rfl rfl rfl rfl
               simp only [Act.put, List.setIfInBounds_toArray, List.set_cons_zero, List.set_cons_succ])
            | ((with_reducible refine mem_pure ?_ ?_ ?_)
               · exact rfl
               · exact wanted_some rfl rfl rfl rfl
               intro K hK
               apply Exists.intro
               refine ⟨fun w3 hw3 => ?_, ?_⟩
               · have hcs := hw3
                 simp only [CellsL, List.mem_cons, forall_eq_or_imp, List.not_mem_nil, false_implies, implies_true, and_true] at hcs
                 clear hw3
                 go_simp
                 first | done | exact ⟨rfl, rfl⟩ | rfl
               refine hK _ ?_
               clear hK K
               try simp only [Act.put, List.setIfInBounds_toArray, List.set_cons_zero, List.set_cons_succ]))
          refine mem_appG 100 v1.heap.size kg 1 hs [M] G cG A3 c3 (.tmp 39) (.tmp 43) (by rfl) (by rfl) (by omega) (by rfl) (by rfl) (by decide) (by rfl) (by rfl) (by rfl) (by rfl) (by omega) (fun w3 hw3 hc3 hp3 => ?_) (fun G' cG' => ?_)
          · have h3 : OwnG w3 v1.heap.size w3.heap.size (.slice A3 1 c3) 1 [M] := hp3.1.2.1.1
            exact h3.reads
          try simp only [Act.put, List.setIfInBounds_toArray, List.set_cons_zero, List.set_cons_succ]
          repeat (first
            | ((with_reducible refine mem_pure0 ?_ ?_ ?_)
               · exact rfl
               · exact rfl
               intro K hK
               apply Exists.intro
               refine ⟨fun w3 hw3 => ?_, ?_⟩
               · have hcs := hw3
                 simp only [CellsL, List.mem_cons, forall_eq_or_imp, List.not_mem_nil, false_implies, implies_true, and_true] at hcs
                 clear hw3
                 go_simp
                 first | done | exact ⟨rfl, rfl⟩ | rfl
               refine hK _ ?_
               clear hK K
               try simp only [Act.put, List.setIfInBounds_toArray, List.set_cons_zero, List.set_cons_succ])
            | ((with_reducible refine mem_skip ?_ ?_ ?_)
               · exact rfl
               · exact wanted_not rfl rfl rfl rfl
               simp only [Act.put, List.setIfInBounds_toArray, List.set_cons_zero, List.set_cons_succ])
            | ((with_reducible refine mem_pure ?_ ?_ ?_)
               · exact rfl
               · exact wanted_some rfl rfl rfl rfl
               intro K hK
               apply Exists.intro
               refine ⟨fun w3 hw3 => ?_, ?_⟩
               · have hcs := hw3
                 simp only [CellsL, List.mem_cons, forall_eq_or_imp, List.not_mem_nil, false_implies, implies_true, and_true] at hcs
                 clear hw3
                 go_simp
                 first | done | exact ⟨rfl, rfl⟩ | rfl
               refine hK _ ?_
               clear hK K
               try simp only [Act.put, List.setIfInBounds_toArray, List.set_cons_zero, List.set_cons_succ]))
          refine wpSep_end ?_
          intro wy hwy hcy hfin hap
          have hG4 : OwnG wy v1.heap.size wy.heap.size (.slice G' (kg + 1) cG') (kg + 1) (hs ++ [M]) := hfin.1.1
          have hokG : ∀ b, (Value.slice G' (kg + 1) cG').ownBlock = some b → okB w8 (fun b => (Value.slice G kg cG).ownBlock = some b) b := fun b hb => (hfin.1.2 b hb).1
          have ha := hI8.appG1 hwy hG4 hokG
          obtain ⟨⟨hx9, f9⟩, hI9⟩ := ha
          have e2 := f9 2
          have hb9 := (hbv8.trans (hwy.below_ (B := v1.heap.size) hz8 (fun i hi ho => ho.elim (fun h => by omega) (fun h => by have := hI8.g.lt i h; omega)))).setCell (p := ⟨wt.heap.size, 2, none⟩) hzt (.slice G' (kg + 1) cG')
          have hR9 := (hR8.alt hwy (fun hc => hc.elim (fun h => by have := hR8.lt; omega) hGg)).alt ((Alt.refl_ (fun i => i = wt.heap.size) wy).set_ ⟨wt.heap.size, 2, none⟩ (.slice G' (kg + 1) cG') (fun _ => rfl)) hg4
          have hGg' : (Value.slice G' (kg + 1) cG').ownBlock ≠ some g := fun hc => (hokG g hc).elim (fun h => by have := hR8.lt; omega) hGg
          have hq := hx9; obtain ⟨s0, s1, s2, s3⟩ := hq
          rw [← HS2.out] at hI9
          rw [← HS1.out] at hI9
          clear hfin hap hcy hwy hG4 hokG p0 p1 p2 p3 q0 q1 q2 hI8 hR8 hbv8 hg8
          go_wp2
          go_roundw
          case rel => exact ⟨k + 1, _, _, _, _, _, by omega, by go_num, hI9, hR9, hFg', hGg', hb9⟩
          case measure => first | (simp [intOf]; done) | (simp [intOf]; omega)
      · obtain rfl : ng = k := Nat.le_antisymm (Nat.le_of_not_lt hlt) hk
        have hq := hI.bx; obtain ⟨p0, p1, p2, p3⟩ := hq
        have h5 := hI.c5
        have hxr := hx1.below hb
        have hq := hxr; obtain ⟨k0, k1, k2, k3⟩ := hq
        go_wp2_with fail
        refine (at_any F Ao (X + ng) cF no co (drp X gs U ng).2 os _ hI.f.reads (hr.2.below hBr (Nat.le_refl _)) (by omega) (by omega) hao).mono ?_
        rintro e w5 hT
        obtain ⟨A5, c5, rfl, ho5, hb5⟩ := hT.open_ HPl.out
        have hI5 := hI.below hb5
        have hz5 := hb5.size
        have hBl5 := hb.trans (hb5.mono hb.size)
        have hB5 := hBv.trans (hBl5.mono hBv.size)
        have hr5 := hr1.below hBl5
        have f5 := f1.below hBl5 hr1.lt
        clear p0 p1 p2 p3 h5 k0 k1 k2 k3 hxr
        have hq := hI5.bx; obtain ⟨p0, p1, p2, p3⟩ := hq
        have e3 := hI5.f4 3
        have hO7 := hI5.bx.setO A5 no c5
        have ka : Alt (fun i => i = wt.heap.size) w5 (w5.setCell ⟨wt.heap.size, 3, none⟩ (.slice A5 no c5)) := (Alt.refl_ _ w5).set_ _ _ (fun _ => rfl)
        have hB7 := hB5.setCell (p := ⟨wt.heap.size, 3, none⟩) (by show w.heap.size ≤ wt.heap.size; have := hI5.lo4; omega) (.slice A5 no c5)
        have hr7 := hr5.alt ka (by have := hI5.lo4; omega)
        have f7 := f5.alt ka hr5.lt (by have := hI5.lo4; omega)
        have hG7 := hI5.g.alt ka (fun g hg hc => hI5.g4 (hc ▸ hg))
        have hO57 := ho5.alt ka (fun g hg hc => by have := ho5.lt g hg; have := hI.lt4; omega)
        have hap7 : Apart (.slice G kg cG) (.slice A5 no c5) := fun g h1 h2 => by
          have h3 := hI.g.lt g h1
          have h4 := ho5.lt g h2
          omega
        have hC7 : OwnC (w5.setCell ⟨wt.heap.size, 3, none⟩ (.slice A5 no c5)) v1.heap.size w5.heap.size G kg cG A5 no c5 (drp X gs U ng).1 (pick (drp X gs U ng).2 os) := ⟨hG7, hO57.lo_ (by have := hb.size; omega), hap7⟩
        obtain ⟨n0, n1, n2, n3⟩ := hO7
        have hq := hr7; obtain ⟨r0, r1, r2, r3⟩ := hq
        have g0 := f7 0; have g1 := f7 1; have g2 := f7 2; have g3 := f7 3
        clear hI hI5 hG7 hO57 ka
        go_wp2
        have hq9 := BxC.set4 (hr7) x y G kg cG A5 no c5
        obtain ⟨q0, q1, q2, q3⟩ := hq9
        refine bodyPost_ret (v := .agg #[.int .i64 x, .int .i64 y, .slice G kg cG, .slice A5 no c5]) (by simp [results, Try.results23, go_sem, q0, q1, q2, q3]) rfl ?_
        exact RetDr.mk_ hkl HPl.out rfl (by rw [set4_size]; exact ((hC7.set4 (.inl (by omega)) _ _ _ _ _ _ _ _).lo_ (by omega)) |> fun h => h.hi_ (by simp)) (below_set4 hB7 (by omega) _ _ _ _ _ _ _ _)
  · exact wanted_none rfl
end Go.Proofs.Ytikgagjoapggnaa
