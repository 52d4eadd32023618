/- NearGroups where the arguments are not right. -/
import Derived.Test.YtcjcfpbbhmhlbaaQE
set_option linter.unusedVariables false
set_option linter.unusedSimpArgs false
namespace Go.Vc.Ng
open Go.Proofs Go.IntWalk Go.Vc.Ne
set_option maxRecDepth 100000
set_option maxHeartbeats 16000000 in
theorem groups_many (ds : List (List Int)) (num den : Int) (text : List Int) (hl : ds.length ≤ 1048576) (hb : ∀ d ∈ ds, d.length ≤ 1048576) (ht : text.length ≤ 1048576) (c60 : 60 < ds.length) : ACall Try.prog 4 [.c (rBB ds), .c (.int .i64 num), .c (.int .i64 den), .c (rB text)] [] (fun r os => r = .c (.bool true) ∧ os = []) := by
  have hw : chk ds num den = 2 := if_pos (.inl c60)
  have h0 : ¬ chk ds num den = 0 := by omega
  have z0 : ((60 : Int) < (ds.length : Int)) = True := eq_true (by omega)
  have hg := getD_len hb
  (refine ACall.of_body (nt := 243) (rs := [.tmp 8]) tabOK Try.func4 rfl rfl rfl rfl ?_; simp only [startSt, List.length_cons, List.length_nil, Nat.reduceAdd, Nat.reduceSub, List.replicate_succ, List.replicate_zero, List.cons_append, List.nil_append])
  unfold rB encU8
  simp only [VCp, VC_region, VC_seq, aops_nil, aops_cons, put_some, aop, qop, isQuiet, ASt.eval, AV.need, ned, avOf, acOf, List.set_cons_succ, List.set_cons_zero, List.map_nil, Int.reduceNeg, true_and]
  refine CallAt.plain shingled_spec rfl ?_
  rintro r os ⟨rfl, rfl⟩
  simp only [VC_skip, VC_region, VC_seq, VC_cond, VC_ret, aops_nil, aops_cons, put_some, aop, qop, isQuiet, ASt.eval, ASt.ev, AV.strip, AV.need, AV.ac, AV.isTup, qun, ned, AV.map, avOf, acOf, AC.ren, giveBack, afterCall, List.getD_cons_succ, List.getD_cons_zero, List.set_cons_succ, List.set_cons_zero, List.map_cons, List.map_nil, List.append_nil, List.length_nil, Int.reduceNeg, true_and, and_self, forall_const, false_implies, Bool.false_eq_true, Bool.not_true, eq_self]
  refine CallAt.plain (pairs_spec ds num den hl hb) rfl ?_
  intro r os hr
  rcases hr with ⟨-, rfl, rfl⟩ | ⟨h, _⟩
  rotate_left
  · exact absurd h h0
  simp only [VC_region, VC_seq, aops_nil, aops_cons, put_some, aop, qop, isQuiet, ASt.eval, ASt.ev, AV.strip, AV.need, AV.isTup, qextract, ned, AV.map, AC.ren, giveBack, afterCall, List.getD_cons_succ, List.getD_cons_zero, List.set_cons_succ, List.set_cons_zero, List.map_cons, List.map_nil, List.append_nil, List.length_cons, List.length_nil, List.headD_cons, List.getElem?_cons_succ, List.getElem?_cons_zero, Int.reduceNeg, true_and, and_self, Nat.zero_add, eq_self]
  refine CallAt.plain (groups_spec ds num den hl hb) rfl ?_
  intro r os hr
  rcases hr with ⟨-, rfl, rfl⟩ | ⟨h, _⟩
  rotate_left
  · exact absurd h h0
  simp only [VC_skip, VC_region, VC_seq, VC_cond, VC_block, VC_loop, VC_ret, aops_nil, aops_cons, put_some, aop, qop, isQuiet, ASt.eval, ASt.ev, AV.strip, AV.need, AV.ac, AV.isTup, onG, guardOf, qbin, binInt, qpick, qpick0, qlen, qextract, ned, AV.map, isScalar, avOf, acOf, AC.ren, giveBack, afterCall, eInt, eList, List.getD_cons_succ, List.getD_cons_zero, List.set_cons_succ, List.set_cons_zero, List.map_cons, List.map_nil, List.append_nil, List.length_cons, List.length_nil, List.headD_cons, List.getElem?_cons_succ, List.getElem?_cons_zero, Option.bind_some, Int.reduceEq, Int.reduceNeg, implies_true, imp_self, beq_false, decide_eq_true_eq, decide_eq_false_iff_not, Bool.not_eq_true', Bool.cond_true_left, Bool.or_eq_true, Bool.or_eq_false_iff, Int.not_lt, true_and, and_true, and_self, forall_const, false_implies, Bool.and_true, Bool.true_and, Bool.and_false, Bool.false_eq_true, Bool.true_eq_false, Bool.not_true, Bool.not_false, cond_true, cond_false, beq_self_eq_true, Nat.zero_add, eq_self, decide_true, decide_false, false_and, tab_3, tab_23, tab_28, z0, hw]
  refine LoopAt.inv (ι := Nat) (T := tab) (fun i => [(85, .c (.int .i64 i)), (14, .c (.int .i64 (mst (cpr text ds) i).1)), (15, .c (.int .i64 (mst (cpr text ds) i).2.1)), (16, .c (.int .i64 (mst (cpr text ds) i).2.2))]) (fun i => []) (fun i => i ≤ ds.length) (fun i => ds.length - i) tabOK 0 (Nat.zero_le _) ?_ ?_
  · (simp only [LessC, headSt, dsts, opDsts, resetS, putsS, lessS, lessO, belowS, belowO, AV.below, AC.below, List.set_cons_succ, List.set_cons_zero, List.cons_append, List.nil_append, List.append_nil, List.length_nil, List.all_cons, List.all_nil, Int.reduceNeg, Int.cast_ofNat_Int, AV.c.injEq, AC.int.injEq, true_and, and_true, and_self, reduceCtorEq, Bool.and_true, Nat.le_refl, eq_self, or_true, false_or] <;> try omega)
    all_goals trivial
  intro i hi
  have hsb := mst_bounds (c := cpr text ds) (B := 2097154) (by omega) (cpr_bounds ht hg) i
  have hnx : mst (cpr text ds) (i + 1) = mstep i (mst (cpr text ds) i) (cpr text ds i) := rfl
  have hcb := cpr_bounds ht hg i
  have hc1 : (cpr text ds i).1 = ((cmI text (ds.getD i []) : Nat) : Int) := rfl
  have hc2 : (cpr text ds i).2 = ((allI text (ds.getD i []) : Nat) : Int) := rfl
  have hend : i = ds.length → (mst (cpr text ds) i).1 = (mst (cpr text ds) ds.length).1 := fun e => by rw [e]
  generalize hcd : cpr text ds i = c at hnx hcb hc1 hc2
  generalize hsd : mst (cpr text ds) i = s at hsb hnx hend ⊢
  obtain ⟨best, p, q⟩ := s
  obtain ⟨n, al⟩ := c
  simp only at hsb hcb hc1 hc2 hend
  simp only [VCp, headSt, dsts, opDsts, resetS, putsS, VC_skip, VC_region, VC_seq, VC_cond, VC_block, VC_exit, aops_nil, aops_cons, put_some, aop, qop, isQuiet, ASt.eval, ASt.ev, AV.strip, AV.need, AV.ac, AV.isTup, qbin, binInt, qindexAddr, qload, ned, DV.ac, ofCells, TI.isAgg, isScalar, eInt, eList, List.getD_cons_succ, List.getD_cons_zero, List.set_cons_succ, List.set_cons_zero, List.map_cons, List.map_nil, List.cons_append, List.nil_append, List.append_nil, List.length_cons, List.length_nil, List.take_succ_cons, List.take_nil, List.headD_cons, Int.reduceNeg, Int.toNat_natCast, decide_eq_true_eq, decide_eq_false_iff_not, Int.not_lt, true_and, and_self, not_false_eq_true, if_true, Nat.zero_add, Nat.le_refl, eq_self, Nat.succ_ne_self, tab_3, tab_22, tab_23]
  refine ⟨fun h => ?_, fun h => ?_⟩
  · refine ⟨⟨by omega, by omega⟩, ?_⟩
    refine CallAt.plain (commonR_spec text (ds.getD i []) ht (hg i)) rfl ?_
    rintro r os ⟨rfl, rfl⟩
    rw [← hc1, ← hc2]
    have key : ∀ (n al : Int), 0 ≤ n → n ≤ 2097154 → 0 ≤ al → al ≤ 2097154 → IntKind.i64.wrap (n * q) = n * q ∧ IntKind.i64.wrap (p * al) = p * al := fun n al a1 a2 a3 a4 => by
      have m1 := mul_b (a := n) (A := 2097154) (b := q) (B := 2097154) (by omega) (by omega) (by omega) (by omega)
      have m2 := mul_b (a := p) (A := 2097154) (b := al) (B := 2097154) (by omega) (by omega) (by omega) (by omega)
      exact ⟨i64_in _ (by omega), i64_in _ (by omega)⟩
    have k1 := key n al (by omega) (by omega) (by omega) (by omega)
    have k2 := key 1 1 (by omega) (by omega) (by omega) (by omega)
    by_cases ha : al = 0
    · have za : (al = 0) = True := eq_true ha
      have hst : mstep i (best, p, q) (n, al) = if best < 0 ∨ p * 1 < 1 * q then ((i : Int), 1, 1) else (best, p, q) := by
        unfold mstep
        simp only [if_pos ha]
      rw [hst] at hnx
      simp only [VC_skip, VC_region, VC_seq, VC_cond, aops_nil, aops_cons, put_some, qop, isQuiet, ASt.eval, AV.need, AV.ac, onG, guardOf, qbin, binInt, qpick, qpick0, qextract, AV.map, isScalar, avOf, acOf, AC.ren, giveBack, afterCall, eInt, List.getD_cons_succ, List.getD_cons_zero, List.set_cons_succ, List.set_cons_zero, List.map_cons, List.map_nil, List.append_nil, List.length_cons, List.length_nil, List.headD_cons, List.getElem?_cons_succ, List.getElem?_cons_zero, Option.bind_some, implies_true, imp_self, beq_false, decide_eq_true_eq, decide_eq_false_iff_not, Bool.not_eq_true', Bool.cond_true_left, Bool.or_eq_true, Bool.or_eq_false_iff, Int.not_lt, true_and, and_true, and_self, forall_const, false_implies, Bool.true_and, Bool.true_eq_false, Nat.zero_add, eq_self, decide_true, tab_3, za, k2.1, k2.2]
      refine ⟨fun hc => ?_, fun hc => ?_⟩
      · rw [if_pos hc] at hnx
        refine ⟨i + 1, by omega, by omega, ?_⟩
        rw [hnx]
        (simp only [LessC, lessS, lessO, belowS, belowO, AV.below, AC.below, List.length_nil, List.all_cons, List.all_nil, Int.cast_ofNat_Int, Int.natCast_add, AV.c.injEq, AC.int.injEq, true_and, and_true, and_self, reduceCtorEq, Bool.and_true, Nat.le_refl, eq_self, or_true, or_false, false_or] <;> try omega)
        all_goals exact i64_in _ (by omega)
      · rw [if_neg (by omega)] at hnx
        refine ⟨i + 1, by omega, by omega, ?_⟩
        rw [hnx]
        (simp only [LessC, lessS, lessO, belowS, belowO, AV.below, AC.below, List.length_nil, List.all_cons, List.all_nil, Int.cast_ofNat_Int, Int.natCast_add, AV.c.injEq, AC.int.injEq, true_and, and_true, and_self, reduceCtorEq, Bool.and_true, Nat.le_refl, eq_self, or_true, or_false, false_or] <;> try omega)
        all_goals exact i64_in _ (by omega)
    · have za : (al = 0) = False := eq_false ha
      have hst : mstep i (best, p, q) (n, al) = if best < 0 ∨ p * al < n * q then ((i : Int), n, al) else (best, p, q) := by
        unfold mstep
        simp only [if_neg ha]
      rw [hst] at hnx
      simp only [VC_skip, VC_region, VC_seq, VC_cond, aops_nil, aops_cons, put_some, qop, isQuiet, ASt.eval, AV.need, AV.ac, onG, guardOf, qbin, binInt, qpick, qpick0, qextract, AV.map, isScalar, avOf, acOf, AC.ren, giveBack, afterCall, eInt, List.getD_cons_succ, List.getD_cons_zero, List.set_cons_succ, List.set_cons_zero, List.map_cons, List.map_nil, List.append_nil, List.length_cons, List.length_nil, List.headD_cons, List.getElem?_cons_succ, List.getElem?_cons_zero, Option.bind_some, implies_true, imp_self, beq_false, decide_eq_true_eq, decide_eq_false_iff_not, Bool.not_eq_true', Bool.cond_true_left, Bool.or_eq_true, Bool.or_eq_false_iff, Int.not_lt, true_and, and_self, forall_const, false_implies, Bool.true_and, Bool.false_eq_true, Nat.zero_add, eq_self, decide_false, tab_3, za, k1.1, k1.2]
      refine ⟨fun hc => ?_, fun hc => ?_⟩
      · rw [if_pos hc] at hnx
        refine ⟨i + 1, by omega, by omega, ?_⟩
        rw [hnx]
        (simp only [LessC, lessS, lessO, belowS, belowO, AV.below, AC.below, List.length_nil, List.all_cons, List.all_nil, Int.cast_ofNat_Int, Int.natCast_add, AV.c.injEq, AC.int.injEq, true_and, and_true, and_self, reduceCtorEq, Bool.and_true, Nat.le_refl, eq_self, or_true, or_false, false_or] <;> try omega)
        all_goals exact i64_in _ (by omega)
      · rw [if_neg (by omega)] at hnx
        refine ⟨i + 1, by omega, by omega, ?_⟩
        rw [hnx]
        (simp only [LessC, lessS, lessO, belowS, belowO, AV.below, AC.below, List.length_nil, List.all_cons, List.all_nil, Int.cast_ofNat_Int, Int.natCast_add, AV.c.injEq, AC.int.injEq, true_and, and_true, and_self, reduceCtorEq, Bool.and_true, Nat.le_refl, eq_self, or_true, or_false, false_or] <;> try omega)
        all_goals exact i64_in _ (by omega)
  have hin : i = ds.length := by omega
  have hbest := hend hin
  refine CallAt.plain (most_spec text ds ht hl hb) rfl ?_
  rintro r os ⟨rfl, rfl⟩
  rw [← hbest]
  simp only [amakePlain, VC_skip, VC_region, VC_seq, VC_cond, VC_block, VC_loop, VC_ret, aops_nil, aops_cons, put_some, aop, qop, isQuiet, ASt.eval, AV.need, AV.ac, AV.isTup, onG, guardOf, qbin, binInt, qpick, qpick0, qlen, ned, amake, newObj, AV.map, isScalar, avOf, acOf, AC.ren, giveBack, afterCall, eInt, eList, ePair, List.getD_cons_succ, List.getD_cons_zero, List.set_cons_succ, List.set_cons_zero, List.map_nil, List.cons_append, List.nil_append, List.append_nil, List.length_nil, List.getElem?_cons_succ, List.getElem?_cons_zero, Option.bind_some, Int.reduceEq, Int.cast_ofNat_Int, Int.toNat_natCast, implies_true, true_and, and_true, and_self, forall_const, false_implies, not_false_eq_true, Bool.and_true, Bool.false_eq_true, Bool.true_eq_false, Bool.not_true, Bool.not_false, cond_true, beq_self_eq_true, eq_self, Nat.succ_ne_self, decide_true, decide_false, tab_3, tab_23, tab_25, tab_28, tab_39, tab_46]
  (refine RetAt.leaf ?_ ?_ <;> simp only [resOf, tupOf, ASt.eval, AV.strip, AV.need, AV.map, AC.ren, List.getD_cons_succ, List.getD_cons_zero, and_self, eq_self])
set_option maxHeartbeats 16000000 in
theorem groups_big (ds : List (List Int)) (num den : Int) (text : List Int) (hl : ds.length ≤ 1048576) (hb : ∀ d ∈ ds, d.length ≤ 1048576) (ht : text.length ≤ 1048576) (c60 : ¬ 60 < ds.length) (cb : big ds = true) : ACall Try.prog 4 [.c (rBB ds), .c (.int .i64 num), .c (.int .i64 den), .c (rB text)] [] (fun r os => r = .c (.bool true) ∧ os = []) := by
  have hw : chk ds num den = 2 := if_pos (.inr cb)
  have h0 : ¬ chk ds num den = 0 := by omega
  have z0 : ((60 : Int) < (ds.length : Int)) = False := eq_false (by omega)
  have hg := getD_len hb
  (refine ACall.of_body (nt := 243) (rs := [.tmp 8]) tabOK Try.func4 rfl rfl rfl rfl ?_; simp only [startSt, List.length_cons, List.length_nil, Nat.reduceAdd, Nat.reduceSub, List.replicate_succ, List.replicate_zero, List.cons_append, List.nil_append])
  unfold rB encU8
  simp only [VCp, VC_region, VC_seq, aops_nil, aops_cons, put_some, aop, qop, isQuiet, ASt.eval, AV.need, ned, avOf, acOf, List.set_cons_succ, List.set_cons_zero, List.map_nil, Int.reduceNeg, true_and]
  refine CallAt.plain shingled_spec rfl ?_
  rintro r os ⟨rfl, rfl⟩
  simp only [VC_skip, VC_region, VC_seq, VC_cond, VC_ret, aops_nil, aops_cons, put_some, aop, qop, isQuiet, ASt.eval, ASt.ev, AV.strip, AV.need, AV.ac, AV.isTup, qun, ned, AV.map, avOf, acOf, AC.ren, giveBack, afterCall, List.getD_cons_succ, List.getD_cons_zero, List.set_cons_succ, List.set_cons_zero, List.map_cons, List.map_nil, List.append_nil, List.length_nil, Int.reduceNeg, true_and, and_self, forall_const, false_implies, Bool.false_eq_true, Bool.not_true, eq_self]
  refine CallAt.plain (pairs_spec ds num den hl hb) rfl ?_
  intro r os hr
  rcases hr with ⟨-, rfl, rfl⟩ | ⟨h, _⟩
  rotate_left
  · exact absurd h h0
  simp only [VC_region, VC_seq, aops_nil, aops_cons, put_some, aop, qop, isQuiet, ASt.eval, ASt.ev, AV.strip, AV.need, AV.isTup, qextract, ned, AV.map, AC.ren, giveBack, afterCall, List.getD_cons_succ, List.getD_cons_zero, List.set_cons_succ, List.set_cons_zero, List.map_cons, List.map_nil, List.append_nil, List.length_cons, List.length_nil, List.headD_cons, List.getElem?_cons_succ, List.getElem?_cons_zero, Int.reduceNeg, true_and, and_self, Nat.zero_add, eq_self]
  refine CallAt.plain (groups_spec ds num den hl hb) rfl ?_
  intro r os hr
  rcases hr with ⟨-, rfl, rfl⟩ | ⟨h, _⟩
  rotate_left
  · exact absurd h h0
  simp only [VC_region, VC_seq, VC_cond, VC_block, aops_nil, aops_cons, put_some, aop, qop, isQuiet, ASt.eval, ASt.ev, AV.strip, AV.need, AV.ac, AV.isTup, onG, guardOf, qbin, binInt, qpick, qlen, qextract, ned, AV.map, isScalar, avOf, acOf, AC.ren, giveBack, afterCall, eInt, eList, List.getD_cons_succ, List.getD_cons_zero, List.set_cons_succ, List.set_cons_zero, List.map_cons, List.map_nil, List.append_nil, List.length_cons, List.length_nil, List.headD_cons, List.getElem?_cons_succ, List.getElem?_cons_zero, Option.bind_some, Int.reduceNeg, implies_true, imp_self, true_and, and_true, and_self, forall_const, Bool.true_eq_false, beq_self_eq_true, Nat.zero_add, eq_self, decide_false, and_false, tab_3, tab_23, z0, hw]
  refine CallAt.plain (contains_spec ds hl) rfl ?_
  rintro r os ⟨rfl, rfl⟩
  simp only [VC_skip, VC_region, VC_seq, VC_cond, VC_block, VC_loop, VC_ret, aops_nil, aops_cons, put_some, qop, isQuiet, ASt.eval, AV.need, AV.ac, onG, guardOf, qbin, binInt, qpick, qpick0, qlen, AV.map, isScalar, avOf, acOf, AC.ren, giveBack, afterCall, eInt, eList, List.getD_cons_succ, List.getD_cons_zero, List.set_cons_succ, List.set_cons_zero, List.map_nil, List.append_nil, List.length_nil, List.getElem?_cons_succ, List.getElem?_cons_zero, Option.bind_some, Int.reduceEq, Int.reduceNeg, implies_true, imp_self, beq_false, decide_eq_true_eq, decide_eq_false_iff_not, Bool.not_eq_true', Bool.cond_true_left, Bool.or_eq_true, Bool.or_eq_false_iff, Int.not_lt, true_and, and_true, and_self, forall_const, false_implies, Bool.and_true, Bool.true_and, Bool.and_false, Bool.false_eq_true, Bool.true_eq_false, Bool.not_true, Bool.not_false, cond_true, cond_false, beq_self_eq_true, eq_self, decide_true, decide_false, tab_3, tab_23, tab_28, cb]
  refine LoopAt.inv (ι := Nat) (T := tab) (fun i => [(85, .c (.int .i64 i)), (14, .c (.int .i64 (mst (cpr text ds) i).1)), (15, .c (.int .i64 (mst (cpr text ds) i).2.1)), (16, .c (.int .i64 (mst (cpr text ds) i).2.2))]) (fun i => []) (fun i => i ≤ ds.length) (fun i => ds.length - i) tabOK 0 (Nat.zero_le _) ?_ ?_
  · (simp only [LessC, headSt, dsts, opDsts, resetS, putsS, lessS, lessO, belowS, belowO, AV.below, AC.below, List.set_cons_succ, List.set_cons_zero, List.cons_append, List.nil_append, List.append_nil, List.length_nil, List.all_cons, List.all_nil, Int.reduceNeg, Int.cast_ofNat_Int, AV.c.injEq, AC.int.injEq, true_and, and_true, and_self, reduceCtorEq, Bool.and_true, Nat.le_refl, eq_self, or_true, false_or] <;> try omega)
    all_goals trivial
  intro i hi
  have hsb := mst_bounds (c := cpr text ds) (B := 2097154) (by omega) (cpr_bounds ht hg) i
  have hnx : mst (cpr text ds) (i + 1) = mstep i (mst (cpr text ds) i) (cpr text ds i) := rfl
  have hcb := cpr_bounds ht hg i
  have hc1 : (cpr text ds i).1 = ((cmI text (ds.getD i []) : Nat) : Int) := rfl
  have hc2 : (cpr text ds i).2 = ((allI text (ds.getD i []) : Nat) : Int) := rfl
  have hend : i = ds.length → (mst (cpr text ds) i).1 = (mst (cpr text ds) ds.length).1 := fun e => by rw [e]
  generalize hcd : cpr text ds i = c at hnx hcb hc1 hc2
  generalize hsd : mst (cpr text ds) i = s at hsb hnx hend ⊢
  obtain ⟨best, p, q⟩ := s
  obtain ⟨n, al⟩ := c
  simp only at hsb hcb hc1 hc2 hend
  simp only [VCp, headSt, dsts, opDsts, resetS, putsS, VC_skip, VC_region, VC_seq, VC_cond, VC_block, VC_exit, aops_nil, aops_cons, put_some, aop, qop, isQuiet, ASt.eval, ASt.ev, AV.strip, AV.need, AV.ac, AV.isTup, qbin, binInt, qindexAddr, qload, ned, DV.ac, ofCells, TI.isAgg, isScalar, eInt, eList, List.getD_cons_succ, List.getD_cons_zero, List.set_cons_succ, List.set_cons_zero, List.map_cons, List.map_nil, List.cons_append, List.nil_append, List.append_nil, List.length_cons, List.length_nil, List.take_succ_cons, List.take_nil, List.headD_cons, Int.reduceNeg, Int.toNat_natCast, decide_eq_true_eq, decide_eq_false_iff_not, Int.not_lt, true_and, and_self, not_false_eq_true, if_true, Nat.zero_add, Nat.le_refl, eq_self, Nat.succ_ne_self, tab_3, tab_22, tab_23]
  refine ⟨fun h => ?_, fun h => ?_⟩
  · refine ⟨⟨by omega, by omega⟩, ?_⟩
    refine CallAt.plain (commonR_spec text (ds.getD i []) ht (hg i)) rfl ?_
    rintro r os ⟨rfl, rfl⟩
    rw [← hc1, ← hc2]
    have key : ∀ (n al : Int), 0 ≤ n → n ≤ 2097154 → 0 ≤ al → al ≤ 2097154 → IntKind.i64.wrap (n * q) = n * q ∧ IntKind.i64.wrap (p * al) = p * al := fun n al a1 a2 a3 a4 => by
      have m1 := mul_b (a := n) (A := 2097154) (b := q) (B := 2097154) (by omega) (by omega) (by omega) (by omega)
      have m2 := mul_b (a := p) (A := 2097154) (b := al) (B := 2097154) (by omega) (by omega) (by omega) (by omega)
      exact ⟨i64_in _ (by omega), i64_in _ (by omega)⟩
    have k1 := key n al (by omega) (by omega) (by omega) (by omega)
    have k2 := key 1 1 (by omega) (by omega) (by omega) (by omega)
    by_cases ha : al = 0
    · have za : (al = 0) = True := eq_true ha
      have hst : mstep i (best, p, q) (n, al) = if best < 0 ∨ p * 1 < 1 * q then ((i : Int), 1, 1) else (best, p, q) := by
        unfold mstep
        simp only [if_pos ha]
      rw [hst] at hnx
      simp only [VC_skip, VC_region, VC_seq, VC_cond, aops_nil, aops_cons, put_some, qop, isQuiet, ASt.eval, AV.need, AV.ac, onG, guardOf, qbin, binInt, qpick, qpick0, qextract, AV.map, isScalar, avOf, acOf, AC.ren, giveBack, afterCall, eInt, List.getD_cons_succ, List.getD_cons_zero, List.set_cons_succ, List.set_cons_zero, List.map_cons, List.map_nil, List.append_nil, List.length_cons, List.length_nil, List.headD_cons, List.getElem?_cons_succ, List.getElem?_cons_zero, Option.bind_some, implies_true, imp_self, beq_false, decide_eq_true_eq, decide_eq_false_iff_not, Bool.not_eq_true', Bool.cond_true_left, Bool.or_eq_true, Bool.or_eq_false_iff, Int.not_lt, true_and, and_true, and_self, forall_const, false_implies, Bool.true_and, Bool.true_eq_false, Nat.zero_add, eq_self, decide_true, tab_3, za, k2.1, k2.2]
      refine ⟨fun hc => ?_, fun hc => ?_⟩
      · rw [if_pos hc] at hnx
        refine ⟨i + 1, by omega, by omega, ?_⟩
        rw [hnx]
        (simp only [LessC, lessS, lessO, belowS, belowO, AV.below, AC.below, List.length_nil, List.all_cons, List.all_nil, Int.cast_ofNat_Int, Int.natCast_add, AV.c.injEq, AC.int.injEq, true_and, and_true, and_self, reduceCtorEq, Bool.and_true, Nat.le_refl, eq_self, or_true, or_false, false_or] <;> try omega)
        all_goals exact i64_in _ (by omega)
      · rw [if_neg (by omega)] at hnx
        refine ⟨i + 1, by omega, by omega, ?_⟩
        rw [hnx]
        (simp only [LessC, lessS, lessO, belowS, belowO, AV.below, AC.below, List.length_nil, List.all_cons, List.all_nil, Int.cast_ofNat_Int, Int.natCast_add, AV.c.injEq, AC.int.injEq, true_and, and_true, and_self, reduceCtorEq, Bool.and_true, Nat.le_refl, eq_self, or_true, or_false, false_or] <;> try omega)
        all_goals exact i64_in _ (by omega)
    · have za : (al = 0) = False := eq_false ha
      have hst : mstep i (best, p, q) (n, al) = if best < 0 ∨ p * al < n * q then ((i : Int), n, al) else (best, p, q) := by
        unfold mstep
        simp only [if_neg ha]
      rw [hst] at hnx
      simp only [VC_skip, VC_region, VC_seq, VC_cond, aops_nil, aops_cons, put_some, qop, isQuiet, ASt.eval, AV.need, AV.ac, onG, guardOf, qbin, binInt, qpick, qpick0, qextract, AV.map, isScalar, avOf, acOf, AC.ren, giveBack, afterCall, eInt, List.getD_cons_succ, List.getD_cons_zero, List.set_cons_succ, List.set_cons_zero, List.map_cons, List.map_nil, List.append_nil, List.length_cons, List.length_nil, List.headD_cons, List.getElem?_cons_succ, List.getElem?_cons_zero, Option.bind_some, implies_true, imp_self, beq_false, decide_eq_true_eq, decide_eq_false_iff_not, Bool.not_eq_true', Bool.cond_true_left, Bool.or_eq_true, Bool.or_eq_false_iff, Int.not_lt, true_and, and_self, forall_const, false_implies, Bool.true_and, Bool.false_eq_true, Nat.zero_add, eq_self, decide_false, tab_3, za, k1.1, k1.2]
      refine ⟨fun hc => ?_, fun hc => ?_⟩
      · rw [if_pos hc] at hnx
        refine ⟨i + 1, by omega, by omega, ?_⟩
        rw [hnx]
        (simp only [LessC, lessS, lessO, belowS, belowO, AV.below, AC.below, List.length_nil, List.all_cons, List.all_nil, Int.cast_ofNat_Int, Int.natCast_add, AV.c.injEq, AC.int.injEq, true_and, and_true, and_self, reduceCtorEq, Bool.and_true, Nat.le_refl, eq_self, or_true, or_false, false_or] <;> try omega)
        all_goals exact i64_in _ (by omega)
      · rw [if_neg (by omega)] at hnx
        refine ⟨i + 1, by omega, by omega, ?_⟩
        rw [hnx]
        (simp only [LessC, lessS, lessO, belowS, belowO, AV.below, AC.below, List.length_nil, List.all_cons, List.all_nil, Int.cast_ofNat_Int, Int.natCast_add, AV.c.injEq, AC.int.injEq, true_and, and_true, and_self, reduceCtorEq, Bool.and_true, Nat.le_refl, eq_self, or_true, or_false, false_or] <;> try omega)
        all_goals exact i64_in _ (by omega)
  have hin : i = ds.length := by omega
  have hbest := hend hin
  refine CallAt.plain (most_spec text ds ht hl hb) rfl ?_
  rintro r os ⟨rfl, rfl⟩
  rw [← hbest]
  simp only [amakePlain, VC_skip, VC_region, VC_seq, VC_cond, VC_block, VC_loop, VC_ret, aops_nil, aops_cons, put_some, aop, qop, isQuiet, ASt.eval, AV.need, AV.ac, AV.isTup, onG, guardOf, qbin, binInt, qpick, qpick0, qlen, ned, amake, newObj, AV.map, isScalar, avOf, acOf, AC.ren, giveBack, afterCall, eInt, eList, ePair, List.getD_cons_succ, List.getD_cons_zero, List.set_cons_succ, List.set_cons_zero, List.map_nil, List.cons_append, List.nil_append, List.append_nil, List.length_nil, List.getElem?_cons_succ, List.getElem?_cons_zero, Option.bind_some, Int.reduceEq, Int.cast_ofNat_Int, Int.toNat_natCast, implies_true, true_and, and_true, and_self, forall_const, false_implies, not_false_eq_true, Bool.and_true, Bool.false_eq_true, Bool.true_eq_false, Bool.not_true, Bool.not_false, cond_true, beq_self_eq_true, eq_self, Nat.succ_ne_self, decide_true, decide_false, tab_3, tab_23, tab_25, tab_28, tab_39, tab_46]
  (refine RetAt.leaf ?_ ?_ <;> simp only [resOf, tupOf, ASt.eval, AV.strip, AV.need, AV.map, AC.ren, List.getD_cons_succ, List.getD_cons_zero, and_self, eq_self])
set_option maxHeartbeats 16000000 in
theorem groups_arg (ds : List (List Int)) (num den : Int) (text : List Int) (hl : ds.length ≤ 1048576) (hb : ∀ d ∈ ds, d.length ≤ 1048576) (ht : text.length ≤ 1048576) (c60 : ¬ 60 < ds.length) (cb : big ds = false) (ca : den < 1 ∨ 1000 < den ∨ num < 0 ∨ den < num) : ACall Try.prog 4 [.c (rBB ds), .c (.int .i64 num), .c (.int .i64 den), .c (rB text)] [] (fun r os => r = .c (.bool true) ∧ os = []) := by
  have hw : chk ds num den = 1 := by unfold chk; rw [if_neg (by rw [cb]; simp; omega), if_pos ca]
  have h0 : ¬ chk ds num den = 0 := by omega
  have z0 : ((60 : Int) < (ds.length : Int)) = False := eq_false (by omega)
  have hg := getD_len hb
  (refine ACall.of_body (nt := 243) (rs := [.tmp 8]) tabOK Try.func4 rfl rfl rfl rfl ?_; simp only [startSt, List.length_cons, List.length_nil, Nat.reduceAdd, Nat.reduceSub, List.replicate_succ, List.replicate_zero, List.cons_append, List.nil_append])
  unfold rB encU8
  simp only [VCp, VC_region, VC_seq, aops_nil, aops_cons, put_some, aop, qop, isQuiet, ASt.eval, AV.need, ned, avOf, acOf, List.set_cons_succ, List.set_cons_zero, List.map_nil, Int.reduceNeg, true_and]
  refine CallAt.plain shingled_spec rfl ?_
  rintro r os ⟨rfl, rfl⟩
  simp only [VC_skip, VC_region, VC_seq, VC_cond, VC_ret, aops_nil, aops_cons, put_some, aop, qop, isQuiet, ASt.eval, ASt.ev, AV.strip, AV.need, AV.ac, AV.isTup, qun, ned, AV.map, avOf, acOf, AC.ren, giveBack, afterCall, List.getD_cons_succ, List.getD_cons_zero, List.set_cons_succ, List.set_cons_zero, List.map_cons, List.map_nil, List.append_nil, List.length_nil, Int.reduceNeg, true_and, and_self, forall_const, false_implies, Bool.false_eq_true, Bool.not_true, eq_self]
  refine CallAt.plain (pairs_spec ds num den hl hb) rfl ?_
  intro r os hr
  rcases hr with ⟨-, rfl, rfl⟩ | ⟨h, _⟩
  rotate_left
  · exact absurd h h0
  simp only [VC_region, VC_seq, aops_nil, aops_cons, put_some, aop, qop, isQuiet, ASt.eval, ASt.ev, AV.strip, AV.need, AV.isTup, qextract, ned, AV.map, AC.ren, giveBack, afterCall, List.getD_cons_succ, List.getD_cons_zero, List.set_cons_succ, List.set_cons_zero, List.map_cons, List.map_nil, List.append_nil, List.length_cons, List.length_nil, List.headD_cons, List.getElem?_cons_succ, List.getElem?_cons_zero, Int.reduceNeg, true_and, and_self, Nat.zero_add, eq_self]
  refine CallAt.plain (groups_spec ds num den hl hb) rfl ?_
  intro r os hr
  rcases hr with ⟨-, rfl, rfl⟩ | ⟨h, _⟩
  rotate_left
  · exact absurd h h0
  simp only [VC_region, VC_seq, VC_cond, VC_block, aops_nil, aops_cons, put_some, aop, qop, isQuiet, ASt.eval, ASt.ev, AV.strip, AV.need, AV.ac, AV.isTup, onG, guardOf, qbin, binInt, qpick, qlen, qextract, ned, AV.map, isScalar, avOf, acOf, AC.ren, giveBack, afterCall, eInt, eList, List.getD_cons_succ, List.getD_cons_zero, List.set_cons_succ, List.set_cons_zero, List.map_cons, List.map_nil, List.append_nil, List.length_cons, List.length_nil, List.headD_cons, List.getElem?_cons_succ, List.getElem?_cons_zero, Option.bind_some, Int.reduceNeg, implies_true, imp_self, true_and, and_true, and_self, forall_const, Bool.true_eq_false, beq_self_eq_true, Nat.zero_add, eq_self, decide_false, and_false, tab_3, tab_23, z0, hw]
  refine CallAt.plain (contains_spec ds hl) rfl ?_
  rintro r os ⟨rfl, rfl⟩
  simp only [VC_skip, VC_region, VC_seq, VC_cond, VC_block, VC_loop, VC_ret, aops_nil, aops_cons, put_some, qop, isQuiet, ASt.eval, AV.need, AV.ac, onG, guardOf, qbin, binInt, qpick, qpick0, qlen, AV.map, isScalar, avOf, acOf, AC.ren, giveBack, afterCall, eInt, eList, List.getD_cons_succ, List.getD_cons_zero, List.set_cons_succ, List.set_cons_zero, List.map_nil, List.append_nil, List.length_nil, List.getElem?_cons_succ, List.getElem?_cons_zero, Option.bind_some, Int.reduceEq, Int.reduceNeg, implies_true, imp_self, beq_false, decide_eq_true_eq, decide_eq_false_iff_not, Bool.not_eq_true', Bool.cond_true_left, Bool.or_eq_true, Bool.or_eq_false_iff, Int.not_lt, true_and, and_true, and_self, forall_const, false_implies, Bool.and_true, Bool.true_and, Bool.and_false, Bool.false_eq_true, Bool.true_eq_false, Bool.not_true, Bool.not_false, cond_true, cond_false, beq_self_eq_true, eq_self, decide_true, decide_false, tab_3, tab_23, tab_28, cb]
  refine ⟨fun hc => ?_, fun hc => ?_⟩
  rotate_left
  · exfalso; omega
  refine LoopAt.inv (ι := Nat) (T := tab) (fun i => [(85, .c (.int .i64 i)), (14, .c (.int .i64 (mst (cpr text ds) i).1)), (15, .c (.int .i64 (mst (cpr text ds) i).2.1)), (16, .c (.int .i64 (mst (cpr text ds) i).2.2))]) (fun i => []) (fun i => i ≤ ds.length) (fun i => ds.length - i) tabOK 0 (Nat.zero_le _) ?_ ?_
  · (simp only [LessC, headSt, dsts, opDsts, resetS, putsS, lessS, lessO, belowS, belowO, AV.below, AC.below, List.set_cons_succ, List.set_cons_zero, List.cons_append, List.nil_append, List.append_nil, List.length_nil, List.all_cons, List.all_nil, Int.reduceNeg, Int.cast_ofNat_Int, AV.c.injEq, AC.int.injEq, true_and, and_true, and_self, reduceCtorEq, Bool.and_true, Nat.le_refl, eq_self, or_true, false_or] <;> try omega)
    all_goals trivial
  intro i hi
  have hsb := mst_bounds (c := cpr text ds) (B := 2097154) (by omega) (cpr_bounds ht hg) i
  have hnx : mst (cpr text ds) (i + 1) = mstep i (mst (cpr text ds) i) (cpr text ds i) := rfl
  have hcb := cpr_bounds ht hg i
  have hc1 : (cpr text ds i).1 = ((cmI text (ds.getD i []) : Nat) : Int) := rfl
  have hc2 : (cpr text ds i).2 = ((allI text (ds.getD i []) : Nat) : Int) := rfl
  have hend : i = ds.length → (mst (cpr text ds) i).1 = (mst (cpr text ds) ds.length).1 := fun e => by rw [e]
  generalize hcd : cpr text ds i = c at hnx hcb hc1 hc2
  generalize hsd : mst (cpr text ds) i = s at hsb hnx hend ⊢
  obtain ⟨best, p, q⟩ := s
  obtain ⟨n, al⟩ := c
  simp only at hsb hcb hc1 hc2 hend
  simp only [VCp, headSt, dsts, opDsts, resetS, putsS, VC_skip, VC_region, VC_seq, VC_cond, VC_block, VC_exit, aops_nil, aops_cons, put_some, aop, qop, isQuiet, ASt.eval, ASt.ev, AV.strip, AV.need, AV.ac, AV.isTup, qbin, binInt, qindexAddr, qload, ned, DV.ac, ofCells, TI.isAgg, isScalar, eInt, eList, List.getD_cons_succ, List.getD_cons_zero, List.set_cons_succ, List.set_cons_zero, List.map_cons, List.map_nil, List.cons_append, List.nil_append, List.append_nil, List.length_cons, List.length_nil, List.take_succ_cons, List.take_nil, List.headD_cons, Int.reduceNeg, Int.toNat_natCast, decide_eq_true_eq, decide_eq_false_iff_not, Int.not_lt, true_and, and_self, not_false_eq_true, if_true, Nat.zero_add, Nat.le_refl, eq_self, Nat.succ_ne_self, tab_3, tab_22, tab_23]
  refine ⟨fun h => ?_, fun h => ?_⟩
  · refine ⟨⟨by omega, by omega⟩, ?_⟩
    refine CallAt.plain (commonR_spec text (ds.getD i []) ht (hg i)) rfl ?_
    rintro r os ⟨rfl, rfl⟩
    rw [← hc1, ← hc2]
    have key : ∀ (n al : Int), 0 ≤ n → n ≤ 2097154 → 0 ≤ al → al ≤ 2097154 → IntKind.i64.wrap (n * q) = n * q ∧ IntKind.i64.wrap (p * al) = p * al := fun n al a1 a2 a3 a4 => by
      have m1 := mul_b (a := n) (A := 2097154) (b := q) (B := 2097154) (by omega) (by omega) (by omega) (by omega)
      have m2 := mul_b (a := p) (A := 2097154) (b := al) (B := 2097154) (by omega) (by omega) (by omega) (by omega)
      exact ⟨i64_in _ (by omega), i64_in _ (by omega)⟩
    have k1 := key n al (by omega) (by omega) (by omega) (by omega)
    have k2 := key 1 1 (by omega) (by omega) (by omega) (by omega)
    by_cases ha : al = 0
    · have za : (al = 0) = True := eq_true ha
      have hst : mstep i (best, p, q) (n, al) = if best < 0 ∨ p * 1 < 1 * q then ((i : Int), 1, 1) else (best, p, q) := by
        unfold mstep
        simp only [if_pos ha]
      rw [hst] at hnx
      simp only [VC_skip, VC_region, VC_seq, VC_cond, aops_nil, aops_cons, put_some, qop, isQuiet, ASt.eval, AV.need, AV.ac, onG, guardOf, qbin, binInt, qpick, qpick0, qextract, AV.map, isScalar, avOf, acOf, AC.ren, giveBack, afterCall, eInt, List.getD_cons_succ, List.getD_cons_zero, List.set_cons_succ, List.set_cons_zero, List.map_cons, List.map_nil, List.append_nil, List.length_cons, List.length_nil, List.headD_cons, List.getElem?_cons_succ, List.getElem?_cons_zero, Option.bind_some, implies_true, imp_self, beq_false, decide_eq_true_eq, decide_eq_false_iff_not, Bool.not_eq_true', Bool.cond_true_left, Bool.or_eq_true, Bool.or_eq_false_iff, Int.not_lt, true_and, and_true, and_self, forall_const, false_implies, Bool.true_and, Bool.true_eq_false, Nat.zero_add, eq_self, decide_true, tab_3, za, k2.1, k2.2]
      refine ⟨fun hc => ?_, fun hc => ?_⟩
      · rw [if_pos hc] at hnx
        refine ⟨i + 1, by omega, by omega, ?_⟩
        rw [hnx]
        (simp only [LessC, lessS, lessO, belowS, belowO, AV.below, AC.below, List.length_nil, List.all_cons, List.all_nil, Int.cast_ofNat_Int, Int.natCast_add, AV.c.injEq, AC.int.injEq, true_and, and_true, and_self, reduceCtorEq, Bool.and_true, Nat.le_refl, eq_self, or_true, or_false, false_or] <;> try omega)
        all_goals exact i64_in _ (by omega)
      · rw [if_neg (by omega)] at hnx
        refine ⟨i + 1, by omega, by omega, ?_⟩
        rw [hnx]
        (simp only [LessC, lessS, lessO, belowS, belowO, AV.below, AC.below, List.length_nil, List.all_cons, List.all_nil, Int.cast_ofNat_Int, Int.natCast_add, AV.c.injEq, AC.int.injEq, true_and, and_true, and_self, reduceCtorEq, Bool.and_true, Nat.le_refl, eq_self, or_true, or_false, false_or] <;> try omega)
        all_goals exact i64_in _ (by omega)
    · have za : (al = 0) = False := eq_false ha
      have hst : mstep i (best, p, q) (n, al) = if best < 0 ∨ p * al < n * q then ((i : Int), n, al) else (best, p, q) := by
        unfold mstep
        simp only [if_neg ha]
      rw [hst] at hnx
      simp only [VC_skip, VC_region, VC_seq, VC_cond, aops_nil, aops_cons, put_some, qop, isQuiet, ASt.eval, AV.need, AV.ac, onG, guardOf, qbin, binInt, qpick, qpick0, qextract, AV.map, isScalar, avOf, acOf, AC.ren, giveBack, afterCall, eInt, List.getD_cons_succ, List.getD_cons_zero, List.set_cons_succ, List.set_cons_zero, List.map_cons, List.map_nil, List.append_nil, List.length_cons, List.length_nil, List.headD_cons, List.getElem?_cons_succ, List.getElem?_cons_zero, Option.bind_some, implies_true, imp_self, beq_false, decide_eq_true_eq, decide_eq_false_iff_not, Bool.not_eq_true', Bool.cond_true_left, Bool.or_eq_true, Bool.or_eq_false_iff, Int.not_lt, true_and, and_self, forall_const, false_implies, Bool.true_and, Bool.false_eq_true, Nat.zero_add, eq_self, decide_false, tab_3, za, k1.1, k1.2]
      refine ⟨fun hc => ?_, fun hc => ?_⟩
      · rw [if_pos hc] at hnx
        refine ⟨i + 1, by omega, by omega, ?_⟩
        rw [hnx]
        (simp only [LessC, lessS, lessO, belowS, belowO, AV.below, AC.below, List.length_nil, List.all_cons, List.all_nil, Int.cast_ofNat_Int, Int.natCast_add, AV.c.injEq, AC.int.injEq, true_and, and_true, and_self, reduceCtorEq, Bool.and_true, Nat.le_refl, eq_self, or_true, or_false, false_or] <;> try omega)
        all_goals exact i64_in _ (by omega)
      · rw [if_neg (by omega)] at hnx
        refine ⟨i + 1, by omega, by omega, ?_⟩
        rw [hnx]
        (simp only [LessC, lessS, lessO, belowS, belowO, AV.below, AC.below, List.length_nil, List.all_cons, List.all_nil, Int.cast_ofNat_Int, Int.natCast_add, AV.c.injEq, AC.int.injEq, true_and, and_true, and_self, reduceCtorEq, Bool.and_true, Nat.le_refl, eq_self, or_true, or_false, false_or] <;> try omega)
        all_goals exact i64_in _ (by omega)
  have hin : i = ds.length := by omega
  have hbest := hend hin
  refine CallAt.plain (most_spec text ds ht hl hb) rfl ?_
  rintro r os ⟨rfl, rfl⟩
  rw [← hbest]
  simp only [amakePlain, VC_skip, VC_region, VC_seq, VC_cond, VC_block, VC_loop, VC_ret, aops_nil, aops_cons, put_some, aop, qop, isQuiet, ASt.eval, AV.need, AV.ac, AV.isTup, onG, guardOf, qbin, binInt, qpick, qpick0, qlen, ned, amake, newObj, AV.map, isScalar, avOf, acOf, AC.ren, giveBack, afterCall, eInt, eList, ePair, List.getD_cons_succ, List.getD_cons_zero, List.set_cons_succ, List.set_cons_zero, List.map_nil, List.cons_append, List.nil_append, List.append_nil, List.length_nil, List.getElem?_cons_succ, List.getElem?_cons_zero, Option.bind_some, Int.reduceEq, Int.cast_ofNat_Int, Int.toNat_natCast, implies_true, true_and, and_true, and_self, forall_const, false_implies, not_false_eq_true, Bool.and_true, Bool.false_eq_true, Bool.true_eq_false, Bool.not_true, Bool.not_false, cond_true, beq_self_eq_true, eq_self, Nat.succ_ne_self, decide_true, decide_false, tab_3, tab_23, tab_25, tab_28, tab_39, tab_46]
  (refine RetAt.leaf ?_ ?_ <;> simp only [resOf, tupOf, ASt.eval, AV.strip, AV.need, AV.map, AC.ren, List.getD_cons_succ, List.getD_cons_zero, and_self, eq_self])
end Go.Vc.Ng
