/- A bound is checked: the law's own way. -/
import Derived.Test.YtmikejeohdleeaaCB
set_option linter.unusedVariables false
set_option linter.unusedSimpArgs false
namespace Go.Vc.Pc
open Go.Proofs Go.IntWalk
open Classical
set_option maxRecDepth 100000
set_option maxHeartbeats 16000000 in
theorem holdsLaw_spec (f l : List Int) (nx : Mat) (ou inn : List Int) (h0 : tchk f l nx = 0) (h4 : ou.length < 9223372036854775807) (h5 : inn.length < 9223372036854775807) :
    ACall Try.prog 43 [tbl f l nx, bnd ou inn] [] (fun r os => r = hRes f l nx ou inn ∧ os = []) := by
  obtain ⟨hn, ht, hf⟩ := tchk_ok h0
  have hll := ht.ll
  have hnl := ht.nl
  have wn : IntKind.i64.wrap ((f.length : Int) + 1) = ((f.length + 1 : Nat) : Int) := by rw [i64_in _ (by omega)]; omega
  (refine ACall.of_body (nt := 122) (rs := [.tmp 4, .tmp 5]) tabOK Try.func43 rfl rfl rfl rfl ?_; simp only [startSt, List.length_cons, List.length_nil, Nat.reduceAdd, Nat.reduceSub, List.replicate_succ, List.replicate_zero, List.cons_append, List.nil_append])
  simp only [VCp, VC_skip, VC_region, VC_seq, VC_cond, VC_block, VC_loop, VC_ret, aops_nil, aops_cons, put_some, aop, qop, isQuiet, ASt.eval, AV.need, AV.ac, AV.cells, AV.isTup, onG, guardOf, qbin, binInt, qpick, qpick0, qlen, qfieldAddr, qload, ned, AC.fits, newObj, ASt.obj, ofCells, TI.isAgg, isScalar, avOf, acOf, eInt, eList, ePair, List.getD_cons_succ, List.getD_cons_zero, List.set_cons_succ, List.set_cons_zero, List.cons_append, List.nil_append, List.length_cons, List.length_nil, List.drop_succ_cons, List.drop_zero, List.take_succ_cons, List.take_zero, List.take_nil, List.headD_cons, List.all_cons, List.all_nil, List.getElem?_cons_succ, List.getElem?_cons_zero, Option.bind_some, Int.cast_ofNat_Int, Int.natCast_add, implies_true, imp_self, beq_false, decide_eq_false_iff_not, Bool.not_eq_true', Bool.cond_true_left, Bool.or_eq_true, Bool.or_eq_false_iff, true_and, and_self, not_false_eq_true, Bool.and_true, Bool.true_and, Nat.add_zero, Nat.zero_add, Nat.reduceAdd, Nat.reduceLeDiff, Nat.le_refl, eq_self, Nat.succ_ne_self, tab_3, tab_26, tab_53, tab_74, wn]
  refine ⟨fun h => ?_, fun h => ?_⟩
  · (refine RetAt.leaf ?_ ?_ <;> simp only [resOf, tupOf, compOf, ASt.eval, AV.strip, AV.need, AV.map, findIx, AC.ren, List.getD_cons_succ, List.getD_cons_zero, List.map_cons, List.map_nil, and_true, and_self, eq_self])
    rw [hRes_bad (hE_form (by omega)) (by decide)]
    all_goals trivial
  have l1 : ou.length = f.length + 1 := by have := nd h.1; omega
  have l2 : inn.length = f.length + 1 := by have := nd h.2; omega
  refine LoopAt.fix 0 (LoopAt.fix 1 (renumL [] ⟨rfl, Nat.zero_le _, by decide⟩ ?_))
  simp only [ASt.renum, keepObjs, ASt.fix, AC.fixp, XObj.amap, ASt.setObj, ASt.obj, ASt.map, AV.map, AObj.map, dvs, AC.dv, findIx, AC.ren, List.getD_cons_succ, List.getD_cons_zero, List.set_cons_succ, List.set_cons_zero, List.map_cons, List.map_nil, List.drop_succ_cons, List.drop_zero, cond_true, cond_false, beq_self_eq_true, Nat.reduceBEq]
  refine LoopAt.inv (ι := Nat) (T := tab) (fun i => [(33, .c (.int .i64 i)), (7, .c (.int .i64 (sm ou inn i)))]) (fun i => [])
    (fun i => i ≤ f.length + 1 ∧ ∀ j, j < i → ¬ bad4 (ou.getD j 0) ∧ ¬ bad4 (inn.getD j 0)) (fun i => f.length + 1 - i) tabOK 0 ⟨Nat.zero_le _, fun j hj => by omega⟩ ?_ ?_
  · (simp only [LessC, headSt, dsts, opDsts, resetS, putsS, lessS, lessO, belowS, belowO, AV.below, AC.below, List.set_cons_succ, List.set_cons_zero, List.cons_append, List.nil_append, List.append_nil, List.length_nil, List.all_cons, List.all_nil, Int.cast_ofNat_Int, AV.c.injEq, AC.int.injEq, true_and, and_true, and_self, reduceCtorEq, Bool.and_true, Nat.le_refl, eq_self, or_true, or_false, false_or] <;> try omega)
    rfl
  rintro i ⟨hi, hgood⟩
  have hsm := sm_bounds hgood
  have wm : IntKind.i64.wrap (-4000000) = -4000000 := by decide
  by_cases hi' : i < f.length + 1
  · have zi : ((i : Int) < (f.length : Int) + 1) = True := eq_true (by omega)
    by_cases b1 : ou.getD i 0 < -4000000
    · have z1 : (ou.getD i 0 < -4000000) = True := eq_true b1
      simp only [VCp, headSt, dsts, opDsts, resetS, putsS, VC_skip, VC_region, VC_draw, VC_seq, VC_cond, VC_block, VC_loop, VC_exit, VC_ret, aops_nil, aops_cons, put_some, qop, isQuiet, ASt.eval, AV.need, AV.ac, onG, guardOf, qbin, binInt, qpick, qpick0, qun, qindexAddr, qfieldAddr, qload, DV.ac, ofCells, TI.isAgg, isScalar, avOf, acOf, eInt, eList, ePair, List.getD_cons_succ, List.getD_cons_zero, List.set_cons_succ, List.set_cons_zero, List.map_cons, List.map_nil, List.cons_append, List.nil_append, List.append_nil, List.length_cons, List.length_nil, List.drop_succ_cons, List.drop_zero, List.take_succ_cons, List.take_zero, List.take_nil, List.headD_cons, List.getElem?_cons_succ, List.getElem?_cons_zero, Option.bind_some, Int.reduceSub, Int.reduceNeg, Int.toNat_natCast, implies_true, imp_self, beq_false, true_and, and_true, and_self, forall_const, false_implies, not_false_eq_true, Bool.and_false, Bool.false_eq_true, Bool.true_eq_false, Bool.not_true, cond_true, if_true, Nat.zero_add, Nat.reduceAdd, Nat.reduceLeDiff, Nat.le_refl, eq_self, Nat.succ_ne_self, decide_true, tab_3, tab_26, tab_74, wm, zi, z1]
      refine ⟨⟨by omega, by omega⟩, ?_⟩
      (refine RetAt.leaf ?_ ?_ <;> simp only [resOf, tupOf, compOf, ASt.eval, AV.strip, AV.need, AV.map, findIx, AC.ren, List.getD_cons_succ, List.getD_cons_zero, List.map_cons, List.map_nil, Int.reduceNeg, and_true, and_self, eq_self])
      rw [hRes_bad (hE_big l1 l2 ⟨i, by omega, .inl (.inl b1)⟩) (by decide)]
      all_goals trivial
    have z1 : (ou.getD i 0 < -4000000) = False := eq_false b1
    by_cases b2 : 4000000 < ou.getD i 0
    · have z2 : (4000000 < ou.getD i 0) = True := eq_true b2
      simp only [VCp, headSt, dsts, opDsts, resetS, putsS, VC_skip, VC_region, VC_draw, VC_seq, VC_cond, VC_block, VC_loop, VC_exit, VC_ret, aops_nil, aops_cons, put_some, qop, isQuiet, ASt.eval, AV.need, AV.ac, onG, guardOf, qbin, binInt, qpick, qpick0, qun, qindexAddr, qfieldAddr, qload, DV.ac, ofCells, TI.isAgg, isScalar, avOf, acOf, eInt, eList, ePair, List.getD_cons_succ, List.getD_cons_zero, List.set_cons_succ, List.set_cons_zero, List.map_cons, List.map_nil, List.cons_append, List.nil_append, List.append_nil, List.length_cons, List.length_nil, List.drop_succ_cons, List.drop_zero, List.take_succ_cons, List.take_zero, List.take_nil, List.headD_cons, List.getElem?_cons_succ, List.getElem?_cons_zero, Option.bind_some, Int.reduceSub, Int.reduceNeg, Int.toNat_natCast, implies_true, imp_self, beq_false, true_and, and_true, and_self, forall_const, false_implies, not_false_eq_true, Bool.and_true, Bool.and_false, Bool.false_eq_true, Bool.true_eq_false, Bool.not_true, Bool.not_false, cond_true, cond_false, beq_self_eq_true, if_true, Nat.zero_add, Nat.reduceAdd, Nat.reduceLeDiff, Nat.le_refl, eq_self, Nat.succ_ne_self, decide_true, decide_false, tab_3, tab_26, tab_74, wm, zi, z1, z2]
      refine ⟨⟨by omega, by omega⟩, ⟨by omega, by omega⟩, ?_⟩
      (refine RetAt.leaf ?_ ?_ <;> simp only [resOf, tupOf, compOf, ASt.eval, AV.strip, AV.need, AV.map, findIx, AC.ren, List.getD_cons_succ, List.getD_cons_zero, List.map_cons, List.map_nil, Int.reduceNeg, and_true, and_self, eq_self])
      rw [hRes_bad (hE_big l1 l2 ⟨i, by omega, .inl (.inr b2)⟩) (by decide)]
      all_goals trivial
    have z2 : (4000000 < ou.getD i 0) = False := eq_false b2
    by_cases b3 : inn.getD i 0 < -4000000
    · have z3 : (inn.getD i 0 < -4000000) = True := eq_true b3
      simp only [VCp, headSt, dsts, opDsts, resetS, putsS, VC_skip, VC_region, VC_draw, VC_seq, VC_cond, VC_block, VC_loop, VC_exit, VC_ret, aops_nil, aops_cons, put_some, qop, isQuiet, ASt.eval, AV.need, AV.ac, onG, guardOf, qbin, binInt, qpick, qpick0, qun, qindexAddr, qfieldAddr, qload, DV.ac, ofCells, TI.isAgg, isScalar, avOf, acOf, eInt, eList, ePair, List.getD_cons_succ, List.getD_cons_zero, List.set_cons_succ, List.set_cons_zero, List.map_cons, List.map_nil, List.cons_append, List.nil_append, List.append_nil, List.length_cons, List.length_nil, List.drop_succ_cons, List.drop_zero, List.take_succ_cons, List.take_zero, List.take_nil, List.headD_cons, List.getElem?_cons_succ, List.getElem?_cons_zero, Option.bind_some, Int.reduceSub, Int.reduceNeg, Int.toNat_natCast, implies_true, imp_self, beq_false, true_and, and_true, and_self, forall_const, false_implies, not_false_eq_true, Bool.and_true, Bool.and_false, Bool.false_eq_true, Bool.true_eq_false, Bool.not_true, Bool.not_false, cond_true, cond_false, beq_self_eq_true, if_true, Nat.zero_add, Nat.reduceAdd, Nat.reduceLeDiff, Nat.le_refl, eq_self, Nat.succ_ne_self, decide_true, decide_false, tab_3, tab_26, tab_74, wm, zi, z1, z2, z3]
      refine ⟨⟨by omega, by omega⟩, ⟨by omega, by omega⟩, ⟨by omega, by omega⟩, ?_⟩
      (refine RetAt.leaf ?_ ?_ <;> simp only [resOf, tupOf, compOf, ASt.eval, AV.strip, AV.need, AV.map, findIx, AC.ren, List.getD_cons_succ, List.getD_cons_zero, List.map_cons, List.map_nil, Int.reduceNeg, and_true, and_self, eq_self])
      rw [hRes_bad (hE_big l1 l2 ⟨i, by omega, .inr (.inl b3)⟩) (by decide)]
      all_goals trivial
    have z3 : (inn.getD i 0 < -4000000) = False := eq_false b3
    by_cases b4 : 4000000 < inn.getD i 0
    · have z4 : (4000000 < inn.getD i 0) = True := eq_true b4
      simp only [VCp, headSt, dsts, opDsts, resetS, putsS, VC_skip, VC_region, VC_draw, VC_seq, VC_cond, VC_block, VC_loop, VC_exit, VC_ret, aops_nil, aops_cons, put_some, qop, isQuiet, ASt.eval, AV.need, AV.ac, onG, guardOf, qbin, binInt, qpick, qpick0, qun, qindexAddr, qfieldAddr, qload, DV.ac, ofCells, TI.isAgg, isScalar, avOf, acOf, eInt, eList, ePair, List.getD_cons_succ, List.getD_cons_zero, List.set_cons_succ, List.set_cons_zero, List.map_cons, List.map_nil, List.cons_append, List.nil_append, List.append_nil, List.length_cons, List.length_nil, List.drop_succ_cons, List.drop_zero, List.take_succ_cons, List.take_zero, List.take_nil, List.headD_cons, List.getElem?_cons_succ, List.getElem?_cons_zero, Option.bind_some, Int.reduceSub, Int.reduceNeg, Int.toNat_natCast, implies_true, true_and, and_true, and_self, forall_const, false_implies, not_false_eq_true, Bool.and_true, Bool.true_eq_false, Bool.not_false, cond_false, beq_self_eq_true, if_true, Nat.zero_add, Nat.reduceAdd, Nat.reduceLeDiff, Nat.le_refl, eq_self, Nat.succ_ne_self, decide_true, decide_false, tab_3, tab_26, tab_74, wm, zi, z1, z2, z3, z4]
      refine ⟨⟨by omega, by omega⟩, ⟨by omega, by omega⟩, ⟨by omega, by omega⟩, ⟨by omega, by omega⟩, ?_⟩
      (refine RetAt.leaf ?_ ?_ <;> simp only [resOf, tupOf, compOf, ASt.eval, AV.strip, AV.need, AV.map, findIx, AC.ren, List.getD_cons_succ, List.getD_cons_zero, List.map_cons, List.map_nil, Int.reduceNeg, and_true, and_self, eq_self])
      rw [hRes_bad (hE_big l1 l2 ⟨i, by omega, .inr (.inr b4)⟩) (by decide)]
      all_goals trivial
    have z4 : (4000000 < inn.getD i 0) = False := eq_false b4
    simp only [VCp, headSt, dsts, opDsts, resetS, putsS, VC_skip, VC_region, VC_draw, VC_seq, VC_cond, VC_block, VC_loop, VC_exit, VC_ret, aops_nil, aops_cons, put_some, qop, isQuiet, ASt.eval, AV.need, AV.ac, onG, guardOf, qbin, binInt, qpick, qpick0, qun, qindexAddr, qfieldAddr, qload, DV.ac, ofCells, TI.isAgg, isScalar, avOf, acOf, eInt, eList, ePair, List.getD_cons_succ, List.getD_cons_zero, List.set_cons_succ, List.set_cons_zero, List.map_cons, List.map_nil, List.cons_append, List.nil_append, List.append_nil, List.length_cons, List.length_nil, List.drop_succ_cons, List.drop_zero, List.take_succ_cons, List.take_zero, List.take_nil, List.headD_cons, List.getElem?_cons_succ, List.getElem?_cons_zero, Option.bind_some, Int.reduceSub, Int.reduceNeg, Int.toNat_natCast, implies_true, true_and, and_true, and_self, forall_const, false_implies, not_false_eq_true, Bool.and_true, Bool.false_eq_true, Bool.true_eq_false, Bool.not_false, cond_false, beq_self_eq_true, if_true, Nat.zero_add, Nat.reduceAdd, Nat.reduceLeDiff, Nat.le_refl, eq_self, Nat.succ_ne_self, decide_true, decide_false, tab_3, tab_26, tab_74, wm, zi, z1, z2, z3, z4]
    refine ⟨⟨by omega, by omega⟩, ⟨by omega, by omega⟩, ⟨by omega, by omega⟩, ⟨by omega, by omega⟩, ?_⟩
    have w1 : IntKind.i64.wrap (ou.getD i 0 + inn.getD i 0) = ou.getD i 0 + inn.getD i 0 := i64_in _ (by omega)
    have w2 : IntKind.i64.wrap (sm ou inn i + (ou.getD i 0 + inn.getD i 0)) = sm ou inn (i + 1) := by
      rw [i64_in _ (by omega)]
      rfl
    refine DrawAt.plan tabOK mixed (.take 0 true (.take 1 true (.take 2 true (.take 3 true (.take 4 true (.take 5 true (.take 6 true (.take 7 true (.take 8 true (.take 9 true (.take 10 true (.take 11 true (.take 12 true (.take 13 true .done)))))))))))))) (by decide +kernel) ?_
    simp only [avc_done, avc_take, qstep, ownLoad, VC_region, aops_nil, aops_cons, put_some, qop, isQuiet, ASt.eval, AV.need, AV.ac, qbin, binInt, qindexAddr, qfieldAddr, qload, DV.ac, ofCells, TI.isAgg, isScalar, avOf, acOf, eInt, eList, ePair, List.getD_cons_succ, List.getD_cons_zero, List.set_cons_succ, List.set_cons_zero, List.map_cons, List.map_nil, List.cons_append, List.nil_append, List.length_cons, List.length_nil, List.drop_succ_cons, List.drop_zero, List.take_succ_cons, List.take_zero, List.take_nil, List.headD_cons, List.getElem?_cons_succ, List.getElem?_cons_zero, Int.reduceNeg, Int.toNat_natCast, true_and, and_self, not_false_eq_true, Nat.zero_add, Nat.reduceAdd, Nat.reduceLeDiff, Nat.le_refl, eq_self, Nat.succ_ne_self, or_true, tab_3, tab_26, tab_74, w1, w2]
    refine ⟨⟨by omega, by omega⟩, ⟨by omega, by omega⟩, i + 1, ⟨by omega, fun j hj => ?_⟩, by omega, ?_⟩
    · by_cases e : j = i
      · subst e
        exact ⟨fun h => by unfold bad4 at h; omega, fun h => by unfold bad4 at h; omega⟩
      · exact hgood j (by omega)
    · (simp only [LessC, lessS, lessO, belowS, belowO, AV.below, AC.below, List.length_nil, List.all_cons, List.all_nil, Int.reduceNeg, Int.cast_ofNat_Int, Int.natCast_add, AV.c.injEq, AC.int.injEq, true_and, and_true, and_self, reduceCtorEq, Bool.and_true, Nat.le_refl, eq_self, or_true, or_false, false_or] <;> try omega)
      all_goals exact i64_in _ (by omega)
  · have zi : ((i : Int) < (f.length : Int) + 1) = False := eq_false (by omega)
    have hb : ¬ big f ou inn := fun ⟨j, hj, hb⟩ => by
      have := hgood j (by omega)
      rcases hb with hb | hb
      · exact this.1 hb
      · exact this.2 hb
    have hin : i = f.length + 1 := by omega
    rw [hin] at hgood
    simp only [VCp, headSt, dsts, opDsts, resetS, putsS, VC_skip, VC_region, VC_draw, VC_seq, VC_cond, VC_block, VC_loop, VC_exit, VC_ret, aops_nil, aops_cons, put_some, qop, isQuiet, ASt.eval, AV.need, AV.ac, onG, guardOf, qbin, binInt, qpick, qpick0, qun, qindexAddr, qfieldAddr, qload, DV.ac, ofCells, TI.isAgg, isScalar, avOf, acOf, eInt, eList, ePair, List.getD_cons_succ, List.getD_cons_zero, List.set_cons_succ, List.set_cons_zero, List.map_cons, List.map_nil, List.cons_append, List.nil_append, List.append_nil, List.length_cons, List.length_nil, List.drop_succ_cons, List.drop_zero, List.take_succ_cons, List.take_zero, List.take_nil, List.headD_cons, List.getElem?_cons_succ, List.getElem?_cons_zero, Option.bind_some, Int.reduceSub, Int.reduceNeg, Int.toNat_natCast, implies_true, imp_self, beq_false, decide_eq_true_eq, decide_eq_false_iff_not, Bool.not_eq_true', Bool.cond_true_left, Bool.or_eq_true, Bool.or_eq_false_iff, Int.not_lt, true_and, and_self, forall_const, false_implies, not_false_eq_true, Bool.true_and, Bool.false_eq_true, if_true, Nat.zero_add, Nat.reduceAdd, Nat.reduceLeDiff, Nat.le_refl, eq_self, Nat.succ_ne_self, decide_false, tab_3, tab_26, tab_74, zi]
    rw [hin]
    refine LoopAt.inv (ι := Nat) (T := tab) (fun i => [(88, .c (.int .i64 i))]) (fun i => [])
      (fun i => i ≤ f.length + 1 ∧ ∀ j, j < i → ∀ k, k ≤ f.length → ¬ over f l nx ou inn j k) (fun i => f.length + 1 - i) tabOK 0 ⟨Nat.zero_le _, fun j hj => by omega⟩ ?_ ?_
    · (simp only [LessC, headSt, dsts, opDsts, resetS, putsS, lessS, lessO, belowS, belowO, AV.below, AC.below, List.set_cons_succ, List.set_cons_zero, List.cons_append, List.nil_append, List.append_nil, List.length_nil, List.all_cons, List.all_nil, Int.cast_ofNat_Int, Int.natCast_add, AV.c.injEq, and_self, reduceCtorEq, Bool.and_true, Nat.le_refl, eq_self, or_true] <;> try omega)
    rintro i ⟨hi, hno⟩
    simp only [VCp, headSt, dsts, opDsts, resetS, putsS, VC_skip, VC_region, VC_seq, VC_cond, VC_block, VC_loop, VC_exit, VC_ret, aops_nil, aops_cons, put_some, qop, isQuiet, ASt.eval, AV.need, AV.ac, qbin, binInt, isScalar, avOf, acOf, eInt, List.getD_cons_succ, List.getD_cons_zero, List.set_cons_succ, List.set_cons_zero, List.cons_append, List.nil_append, List.append_nil, Int.cast_ofNat_Int, Int.natCast_add, decide_eq_true_eq, decide_eq_false_iff_not, Int.not_lt, true_and, and_self, if_true, eq_self, tab_3, wn]
    refine ⟨fun h => ?_, fun h => ?_⟩
    · have hi' : i < f.length + 1 := by omega
      have g1 := hgood i hi'
      unfold bad4 at g1
      refine LoopAt.inv (ι := Nat) (T := tab) (fun k => [(93, .c (.int .i64 k))]) (fun k => [])
        (fun k => k ≤ f.length + 1 ∧ ∀ k', k' < k → ¬ over f l nx ou inn i k') (fun k => f.length + 1 - k) tabOK 0 ⟨Nat.zero_le _, fun j hj => by omega⟩ ?_ ?_
      · (simp only [LessC, headSt, dsts, opDsts, resetS, putsS, lessS, lessO, belowS, belowO, AV.below, AC.below, List.set_cons_succ, List.set_cons_zero, List.cons_append, List.nil_append, List.append_nil, List.length_nil, List.all_cons, List.all_nil, Int.cast_ofNat_Int, AV.c.injEq, and_self, reduceCtorEq, Bool.and_true, Nat.le_refl, eq_self, or_true] <;> try omega)
      rintro k ⟨hk, hnk⟩
      simp only [VCp, headSt, dsts, opDsts, resetS, putsS, VC_skip, VC_region, VC_seq, VC_cond, VC_block, VC_exit, VC_ret, aops_nil, aops_cons, put_some, aop, qop, isQuiet, ASt.eval, ASt.ev, AV.strip, AV.need, AV.ac, AV.isTup, qbin, binInt, qload, ned, DV.ac, ofCells, TI.isAgg, isScalar, avOf, acOf, eInt, eList, ePair, List.getD_cons_succ, List.getD_cons_zero, List.set_cons_succ, List.set_cons_zero, List.map_cons, List.map_nil, List.cons_append, List.nil_append, List.append_nil, List.length_cons, List.length_nil, List.take_succ_cons, List.take_nil, decide_eq_true_eq, decide_eq_false_iff_not, Int.not_lt, true_and, and_self, reduceCtorEq, not_false_eq_true, if_true, if_false, Nat.zero_add, Nat.reduceAdd, Nat.reduceEqDiff, Nat.le_refl, eq_self, Nat.succ_ne_self, tab_3, tab_53]
      refine ⟨fun h => ?_, fun h => ?_⟩
      · have hk' : k < f.length + 1 := by omega
        have g3 := hgood k hk'
        unfold bad4 at g3
        have w3 : IntKind.i64.wrap (ou.getD i 0 + inn.getD k 0) = ou.getD i 0 + inn.getD k 0 := i64_in _ (by omega)
        refine CallAt.plain (cell_spec f l nx ht hn i k (by omega) (by omega)) rfl ?_
        rintro r os ⟨rfl, rfl⟩
        by_cases eik : i = k
        · rw [if_pos eik]
          have z2 : (i = k) = True := eq_true eik
          simp only [VC_draw, VC_seq, aops_nil, aops_cons, put_some, qop, isQuiet, ASt.eval, AV.need, qextract, AV.map, AC.ren, giveBack, afterCall, List.getD_cons_succ, List.getD_cons_zero, List.set_cons_succ, List.set_cons_zero, List.map_cons, List.map_nil, List.append_nil, List.length_cons, List.length_nil, List.headD_cons, List.getElem?_cons_succ, List.getElem?_cons_zero, true_and, Bool.not_true, Nat.zero_add, eq_self, decide_true, z2]
          refine DrawAt.plan tabOK mixed (.take 0 true (.take 1 true (.take 2 true (.take 3 true (.take 4 true (.take 5 true (.take 6 true (.take 7 true (.take 8 true (.take 9 true (.take 10 true (.take 11 true (.take 12 true (.take 13 true (.take 14 true (.take 15 true .done)))))))))))))))) (by decide +kernel) ?_
          simp only [avc_done, avc_take, qstep, ownLoad, VC_skip, VC_region, VC_seq, VC_cond, VC_ret, aops_nil, aops_cons, put_some, qop, isQuiet, ASt.eval, AV.need, AV.ac, onG, guardOf, qbin, binInt, qpick, qpick0, qindexAddr, qfieldAddr, qload, DV.ac, ofCells, TI.isAgg, isScalar, avOf, acOf, eInt, eList, ePair, List.getD_cons_succ, List.getD_cons_zero, List.set_cons_succ, List.set_cons_zero, List.map_cons, List.map_nil, List.cons_append, List.nil_append, List.length_cons, List.length_nil, List.drop_succ_cons, List.drop_zero, List.take_succ_cons, List.take_zero, List.take_nil, List.headD_cons, List.getElem?_cons_succ, List.getElem?_cons_zero, Option.bind_some, Int.toNat_natCast, implies_true, imp_self, beq_true, true_and, and_self, forall_const, false_implies, not_false_eq_true, Bool.and_false, Bool.false_eq_true, cond_false, Nat.zero_add, Nat.reduceAdd, Nat.reduceLeDiff, Nat.le_refl, eq_self, Nat.succ_ne_self, or_true, tab_3, tab_26, tab_74]
          refine ⟨k + 1, ⟨by omega, fun k' hk' => ?_⟩, by omega, ?_⟩
          · by_cases e : k' = k
            · subst e; exact fun ho => ho.1 eik
            · exact hnk k' (by omega)
          · (simp only [LessC, lessS, lessO, belowS, belowO, AV.below, AC.below, List.length_nil, List.all_cons, List.all_nil, Int.cast_ofNat_Int, Int.natCast_add, AV.c.injEq, AC.int.injEq, true_and, and_true, and_self, reduceCtorEq, Bool.and_true, Nat.le_refl, eq_self, or_true, or_false, false_or] <;> try omega)
            all_goals exact i64_in _ (by omega)
        · rw [if_neg eik]
          have z2 : (i = k) = False := eq_false eik
          simp only [VC_draw, VC_seq, aops_nil, aops_cons, put_some, qop, isQuiet, ASt.eval, AV.need, qextract, AV.map, AC.ren, giveBack, afterCall, List.getD_cons_succ, List.getD_cons_zero, List.set_cons_succ, List.set_cons_zero, List.map_cons, List.map_nil, List.append_nil, List.length_cons, List.length_nil, List.headD_cons, List.getElem?_cons_succ, List.getElem?_cons_zero, true_and, Bool.not_false, Nat.zero_add, eq_self, decide_false, z2]
          refine DrawAt.plan tabOK mixed (.take 0 true (.take 1 true (.take 2 true (.take 3 true (.take 4 true (.take 5 true (.take 6 true (.take 7 true (.take 8 true (.take 9 true (.take 10 true (.take 11 true (.take 12 true (.take 13 true (.take 14 true (.take 15 true .done)))))))))))))))) (by decide +kernel) ?_
          simp only [avc_done, avc_take, qstep, ownLoad, VC_skip, VC_region, VC_seq, VC_cond, VC_ret, aops_nil, aops_cons, put_some, qop, isQuiet, ASt.eval, AV.need, AV.ac, onG, guardOf, qbin, binInt, qpick, qpick0, qindexAddr, qfieldAddr, qload, DV.ac, ofCells, TI.isAgg, isScalar, avOf, acOf, eInt, eList, ePair, List.getD_cons_succ, List.getD_cons_zero, List.set_cons_succ, List.set_cons_zero, List.map_cons, List.map_nil, List.cons_append, List.nil_append, List.length_cons, List.length_nil, List.drop_succ_cons, List.drop_zero, List.take_succ_cons, List.take_zero, List.take_nil, List.headD_cons, List.getElem?_cons_succ, List.getElem?_cons_zero, Option.bind_some, Int.toNat_natCast, implies_true, decide_eq_true_eq, decide_eq_false_iff_not, Int.not_lt, true_and, and_self, forall_const, not_false_eq_true, Bool.and_true, cond_true, beq_self_eq_true, Nat.zero_add, Nat.reduceAdd, Nat.reduceLeDiff, Nat.le_refl, eq_self, Nat.succ_ne_self, or_true, tab_3, tab_26, tab_74, w3]
          refine ⟨⟨by omega, by omega⟩, ⟨by omega, by omega⟩, fun o3 => ?_, fun o3 => ?_⟩
          · (refine RetAt.leaf ?_ ?_ <;> simp only [resOf, tupOf, compOf, ASt.eval, AV.strip, AV.need, AV.map, findIx, AC.ren, List.getD_cons_succ, List.getD_cons_zero, List.map_cons, List.map_nil, and_true, and_self, eq_self])
            rw [hRes_bad (hE_clash l1 l2 hb ⟨i, k, by omega, by omega, eik, o3⟩) (by decide)]
            all_goals trivial
          · refine ⟨k + 1, ⟨by omega, fun k' hk' => ?_⟩, by omega, ?_⟩
            · by_cases e : k' = k
              · subst e; exact fun ho => by have := ho.2; omega
              · exact hnk k' (by omega)
            · (simp only [LessC, lessS, lessO, belowS, belowO, AV.below, AC.below, List.length_nil, List.all_cons, List.all_nil, Int.cast_ofNat_Int, Int.natCast_add, AV.c.injEq, AC.int.injEq, true_and, and_true, and_self, reduceCtorEq, Bool.and_true, Nat.le_refl, eq_self, or_true, or_false, false_or] <;> try omega)
              all_goals exact i64_in _ (by omega)
      · refine ⟨i + 1, ⟨by omega, fun j hj => ?_⟩, by omega, ?_⟩
        · by_cases e : j = i
          · subst e
            exact fun k hk => hnk k (by omega)
          · exact hno j (by omega)
        · (simp only [LessC, lessS, lessO, belowS, belowO, AV.below, AC.below, List.length_nil, List.all_cons, List.all_nil, Int.cast_ofNat_Int, Int.natCast_add, AV.c.injEq, AC.int.injEq, true_and, and_true, and_self, reduceCtorEq, Bool.and_true, Nat.le_refl, eq_self, or_true, or_false, false_or] <;> try omega)
          all_goals exact i64_in _ (by omega)
    · have hc : ¬ clash f l nx ou inn := fun ⟨a, b, ha, hb, ho⟩ => hno a (by omega) b hb ho
      (refine RetAt.leaf ?_ ?_ <;> simp only [resOf, tupOf, compOf, ASt.eval, AV.strip, AV.need, AV.map, findIx, AC.ren, List.getD_cons_succ, List.getD_cons_zero, List.map_cons, List.map_nil, and_true, and_self, eq_self])
      rw [hRes_ok (hE_ok l1 l2 hb hc)]
      all_goals trivial
end Go.Vc.Pc
