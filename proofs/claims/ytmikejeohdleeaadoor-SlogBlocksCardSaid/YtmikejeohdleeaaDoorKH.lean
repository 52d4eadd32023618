/- Checkpoints. -/
import Derived.Test.YtmikejeohdleeaaDoorKG
set_option linter.unusedVariables false
set_option linter.unusedSimpArgs false
namespace Go.Vc.Sb
open Go.Proofs Go.IntWalk
set_option maxRecDepth 100000
def pP (b : List Int) (l : List Int) : Nat → List Int
  | 0 => b
  | i + 1 => (pP b l i).set (4 + i) (IntKind.u8.wrap (l.getD i 0))
theorem pP_len {b l : List Int} : ∀ i, (pP b l i).length = b.length
  | 0 => rfl
  | i + 1 => by
    show (List.set _ _ _).length = _
    rw [List.length_set, pP_len i]
def pm1 (seq : Int) : List Int := putF ((zeros 64 (0 : Int)).set 0 67) 2 seq 2
theorem pm1_len {seq : Int} : (pm1 seq).length = 64 := by simp [pm1, putF_len, zeros]
def packPF (seq : Int) (ps : List Int) : List Int := closedF (pP (pm1 seq) (ps.take 40) (ps.take 40).length)
set_option maxHeartbeats 16000000 in
theorem packP_spec (seq : Int) (ps : List Int) (hl : ps.length ≤ 1048576) : ACall Tryd.prog 11 [.agg [.int .i64 seq, rI ps]] [] (fun r os => r = .c (.sl 0) ∧ os = [rowB (packPF seq ps)]) := by
  have hz : (zeros 64 (0 : Int)).length = 64 := by simp [zeros]
  have hmin : (if (40 : Int) < (ps.length : Int) then (40 : Int) else (ps.length : Int)) = ((min 40 ps.length : Nat) : Int) := by split <;> omega
  have ht : ps.take (min 40 ps.length - 0) = ps.take 40 := by simp [List.take_eq_take_iff]
  have htl : (ps.take 40).length ≤ 40 := by rw [List.length_take]; omega
  (refine ACall.of_body (nt := 35) (rs := [.tmp 2]) tabOK Tryd.func11 rfl rfl rfl rfl ?_; simp only [startSt, List.length_cons, List.length_nil, Nat.reduceAdd, Nat.reduceSub, List.replicate_succ, List.replicate_zero, List.cons_append, List.nil_append])
  simp only [VCp, amakePlain, VC_region, VC_seq, aops_nil, aops_cons, put_some, put_none, aop, qop, isQuiet, ASt.eval, ASt.ev, AV.strip, AV.need, AV.ac, AV.cells, AV.isTup, qindexAddr, qfieldAddr, qload, splice, ned, AC.fits, astore, amake, newObj, ASt.setObj, ASt.obj, frzRefs, dvs, AC.dv, leD, leD1, ofCells, TI.isAgg, avOf, acOf, eInt, eList, ePair, List.getD_cons_succ, List.getD_cons_zero, List.set_cons_succ, List.set_cons_zero, List.map_cons, List.map_nil, List.cons_append, List.nil_append, List.append_nil, List.length_cons, List.length_nil, List.drop_succ_cons, List.drop_zero, List.drop_nil, List.take_succ_cons, List.take_zero, List.headD_cons, List.all_cons, List.all_nil, List.getElem?_cons_zero, Int.reduceLT, Int.reduceLE, Int.reduceMul, Nat.reduceLT, Int.cast_ofNat_Int, DV.int.injEq, exists_eq_left', Int.reduceToNat, true_and, and_true, and_self, not_false_eq_true, Bool.and_true, cond_true, beq_self_eq_true, Nat.add_zero, Nat.zero_add, Nat.reduceAdd, Nat.reduceLeDiff, Nat.le_refl, eq_self, Nat.succ_ne_self, tab_3, tab_5, tab_22, tab_40, hz]
  unfold packPF
  generalize ps.take 40 = l at *
  refine CallAt.call [1] [] (put_spec _ 2 2 seq (by simp [zeros]) (by simp [zeros]) (by omega)) (by decide) (fun i hi => by simp at hi; show i < _; simp; omega) (fun _ h => by cases h) rfl rfl (.inl rfl) ?_
  rintro r os ⟨rfl, rfl⟩
  simp only [VC_region, VC_seq, VC_block, VC_loop, aops_nil, aops_cons, put_some, qop, isQuiet, ASt.eval, AV.need, AV.ac, AV.isTup, qmin, qlen, qfieldAddr, qload, qslice, cutLo, cutHi, needAll, ASt.obj, AV.map, AObj.map, ofCells, TI.isAgg, avOf, acOf, giveBack, afterCall, eInt, eList, ePair, List.getD_cons_succ, List.getD_cons_zero, List.set_cons_succ, List.set_cons_zero, List.map_cons, List.map_nil, List.cons_append, List.nil_append, List.append_nil, List.length_cons, List.length_nil, List.drop_succ_cons, List.drop_zero, List.take_succ_cons, List.take_nil, List.headD_cons, List.getElem?_cons_succ, List.getElem?_cons_zero, Option.map_some, Option.map_none, Option.toList_some, Option.toList_none, Int.reduceLE, Int.toNat_natCast, Int.reduceToNat, true_and, and_self, not_false_eq_true, Nat.zero_add, Nat.reduceAdd, Nat.le_refl, eq_self, Nat.succ_ne_self, tab_3, tab_26, tab_40, hmin, ht]
  refine ⟨⟨by omega, by omega⟩, ?_⟩
  have hsl := pm1_len (seq := seq)
  have hpl := fun i => pP_len (b := pm1 seq) (l := l) i
  refine LoopAt.fix 0 ?_
  simp only [ASt.fix, AC.fixp, ASt.setObj, ASt.obj, ASt.map, AV.map, AObj.map, dvs, AC.dv, List.getD_cons_zero, List.set_cons_zero, List.map_cons, List.map_nil, List.drop_succ_cons, List.drop_zero, cond_true, beq_self_eq_true]
  refine LoopAt.inv (ι := Nat) (T := tab) (fun i => [(21, .c (.int .i64 i))]) (fun i => [.gone, rowB (pP (pm1 seq) l i)]) (fun i => i ≤ l.length) (fun i => l.length - i) tabOK 0 (Nat.zero_le _) ?_ ?_
  · (simp only [LessC, headSt, dsts, opDsts, resetS, putsS, lessS, lessO, belowS, belowO, AV.below, AObj.below, AC.below, List.set_cons_succ, List.set_cons_zero, List.cons_append, List.nil_append, List.append_nil, List.length_cons, List.length_nil, List.all_cons, List.all_nil, Nat.reduceLT, Int.cast_ofNat_Int, AV.c.injEq, AObj.row.injEq, heq_eq_eq, true_and, and_true, and_self, reduceCtorEq, Bool.and_true, Nat.zero_add, Nat.reduceAdd, Nat.reduceLeDiff, eq_self, decide_true, or_true] <;> try omega)
    all_goals rfl
  intro i hi
  have hpi := hpl i
  have hnx : pP (pm1 seq) l (i + 1) = (pP (pm1 seq) l i).set (4 + i) (IntKind.u8.wrap (l.getD i 0)) := rfl
  have w2 : IntKind.i64.wrap (4 + (i : Int)) = 4 + (i : Int) := i64_in _ (by omega)
  have e2 : (4 + (i : Int)).toNat = 4 + i := by omega
  simp only [VCp, headSt, dsts, opDsts, resetS, putsS, VC_skip, VC_region, VC_seq, VC_cond, VC_block, VC_exit, aops_nil, aops_cons, put_some, put_none, aop, qop, isQuiet, ASt.eval, ASt.ev, AV.strip, AV.need, AV.ac, AV.cells, AV.isTup, qbin, binInt, qindexAddr, qload, qconvert, splice, ned, astore, ASt.setObj, ASt.obj, frzRefs, dvs, AC.dv, DV.ac, leD, leD1, ofCells, TI.isAgg, isScalar, avOf, acOf, eInt, eList, List.getD_cons_succ, List.getD_cons_zero, List.set_cons_succ, List.set_cons_zero, List.map_cons, List.map_nil, List.cons_append, List.nil_append, List.append_nil, List.length_cons, List.length_nil, List.drop_succ_cons, List.drop_nil, List.take_succ_cons, List.take_zero, List.take_nil, List.headD_cons, Int.cast_ofNat_Int, DV.int.injEq, exists_eq_left', Int.toNat_natCast, decide_eq_true_eq, decide_eq_false_iff_not, Int.not_lt, true_and, and_true, and_self, not_false_eq_true, Bool.and_true, if_true, Nat.zero_add, Nat.le_refl, eq_self, Nat.succ_ne_self, tab_3, tab_5, tab_22, tab_26, w2, e2, hpi, hsl]
  refine ⟨fun h => ?_, fun h => ?_⟩
  · refine ⟨⟨by omega, by omega⟩, ⟨by omega, by omega⟩, by omega, i + 1, by omega, by omega, ?_⟩
    rw [hnx]
    (simp only [LessC, lessS, lessO, belowS, belowO, AV.below, AObj.below, AC.below, List.length_cons, List.length_nil, List.all_cons, List.all_nil, Nat.reduceLT, Int.cast_ofNat_Int, Int.natCast_add, AV.c.injEq, AC.int.injEq, true_and, and_true, and_self, reduceCtorEq, Bool.and_true, Nat.zero_add, Nat.reduceAdd, Nat.reduceLeDiff, eq_self, decide_true, or_true, or_false, false_or] <;> try omega)
    all_goals exact i64_in _ (by omega)
  · have hin : i = l.length := by omega
    rw [hin]
    refine CallAt.call [1] [] (closed_spec _ (by rw [hpl, hsl])) (by decide) (fun i hi => by simp at hi; show i < _; simp; omega) (fun _ h => by cases h) rfl rfl (.inl rfl) ?_
    rintro r os ⟨rfl, rfl⟩
    simp only [VC_ret, aops_nil, aops_cons, put_some, qop, isQuiet, ASt.eval, AV.need, AV.map, AObj.map, AC.ren, backIx, giveBack, afterCall, List.getD_cons_succ, List.getD_cons_zero, List.set_cons_succ, List.set_cons_zero, List.map_nil, List.append_nil, List.length_cons, List.length_nil, List.getElem?_cons_zero, true_and, Nat.zero_add, Nat.reduceAdd]
    refine RetAt.keeping [1] (by decide) ?_ ?_ <;> simp only [resOf, tupOf, keepObjs, keepObjs, XObj.amap, ASt.eval, AV.strip, AV.need, AV.map, AObj.map, findIx, AC.ren, List.getD_cons_succ, List.getD_cons_zero, List.map_cons, List.map_nil, and_self, cond_true, beq_self_eq_true, eq_self]
set_option maxHeartbeats 16000000 in
theorem unpackP_ok (b : List Int) (c1 : wholeF b 67 = true) : ACall Tryd.prog 10 [.c (rB b)] [] (fun r os =>
    r = .tup [(true, [.int .i64 (numF b 2 2), rI (ptF b 4 40)]), (false, [.bool (eqF (packPF (numF b 2 2) (ptF b 4 40)) b)])] ∧ os = []) := by
  have hl := whole_len c1
  (refine ACall.of_body (nt := 33) (rs := [.cell 2 40, .tmp 3]) tabOK Tryd.func10 rfl rfl rfl rfl ?_; simp only [startSt, List.length_cons, List.length_nil, Nat.reduceAdd, Nat.reduceSub, List.replicate_succ, List.replicate_zero, List.cons_append, List.nil_append])
  simp only [VCp, VC_region, VC_seq, aops_nil, aops_cons, put_some, aop, qop, isQuiet, ASt.eval, ASt.ev, AV.strip, AV.need, AV.isTup, ned, newObj, avOf, acOf, eInt, eList, ePair, List.getD_cons_succ, List.getD_cons_zero, List.set_cons_succ, List.set_cons_zero, List.map_cons, List.map_nil, List.cons_append, List.nil_append, List.length_nil, true_and, and_self, reduceCtorEq, not_false_eq_true, eq_self, tab_40]
  refine CallAt.plain (whole_spec b 67 (by omega)) rfl ?_
  rintro r os ⟨rfl, rfl⟩
  simp only [VC_skip, VC_region, VC_seq, VC_cond, VC_ret, aops_nil, aops_cons, put_some, put_none, aop, qop, isQuiet, ASt.eval, ASt.ev, AV.strip, AV.need, AV.ac, AV.cells, AV.isTup, qun, qbuild, fillParts, splice, needAll, ned, partsOf, fitAll, AC.fits, astore, ASt.setObj, ASt.obj, AV.map, avOf, acOf, AC.ren, giveBack, afterCall, eInt, eList, ePair, List.getD_cons_succ, List.getD_cons_zero, List.set_cons_succ, List.set_cons_zero, List.map_cons, List.map_nil, List.cons_append, List.nil_append, List.append_nil, List.length_cons, List.length_nil, List.drop_succ_cons, List.drop_nil, List.take_zero, List.all_cons, List.all_nil, true_and, and_self, forall_const, reduceCtorEq, false_implies, not_false_eq_true, Bool.and_true, Bool.false_eq_true, Bool.not_true, Nat.zero_add, Nat.reduceAdd, Nat.le_refl, eq_self, tab_40, c1]
  refine CallAt.plain (number_spec b 2 2 (by omega) (by omega) (by omega)) rfl ?_
  rintro r os ⟨rfl, rfl⟩
  simp only [VC_region, VC_seq, VC_block, VC_loop, aops_nil, aops_cons, put_some, put_none, aop, qop, isQuiet, ASt.eval, ASt.ev, AV.strip, AV.need, AV.ac, AV.cells, AV.isTup, qbuild, fillParts, structPlace, splice, needAll, ned, partsOf, fitAll, AC.fits, astore, newObj, ASt.setObj, ASt.obj, AV.map, avOf, acOf, AC.ren, giveBack, afterCall, eInt, eList, ePair, List.getD_cons_succ, List.getD_cons_zero, List.set_cons_succ, List.set_cons_zero, List.map_cons, List.map_nil, List.cons_append, List.nil_append, List.append_nil, List.length_cons, List.length_nil, List.drop_succ_cons, List.drop_zero, List.drop_nil, List.take_zero, List.all_cons, List.all_nil, List.getElem?_cons_zero, true_and, and_self, reduceCtorEq, not_false_eq_true, Bool.and_true, Nat.zero_add, Nat.reduceAdd, Nat.reduceLeDiff, Nat.le_refl, eq_self, tab_3, tab_40]
  refine LoopAt.adoptC 1 1 3 1 Int 0 (fun n => [.int .i64 n]) (by simp only [isNilAt, isNilAt, ASt.obj, List.getD_cons_succ, List.getD_cons_zero, List.getElem?_cons_succ, List.getElem?_cons_zero]) (fun _ => rfl) ?_
  simp only [adoptC, newObj, ASt.setObj, ASt.obj, List.getD_cons_succ, List.getD_cons_zero, List.set_cons_succ, List.set_cons_zero, List.cons_append, List.nil_append, List.length_cons, List.length_nil, Nat.zero_add, Nat.reduceAdd]
  refine LoopAt.thenFreeze 2 ?_
  refine LoopAt.inv (ι := Nat) (T := tab) (fun i => [(13, .c (.int .i64 i))]) (fun i => [.cells 40 [.int .i64 0, .nil], .cells 40 [.int .i64 (numF b 2 2), .sl 2], rowI (ptF b 4 i)]) (fun i => i ≤ 40) (fun i => 40 - i) tabOK 0 (Nat.zero_le _) ?_ ?_
  · (simp only [LessC, headSt, dsts, opDsts, resetS, putsS, lessS, lessO, belowS, belowO, AV.below, AObj.below, AC.below, List.set_cons_succ, List.set_cons_zero, List.cons_append, List.nil_append, List.append_nil, List.length_cons, List.length_nil, List.all_cons, List.all_nil, Nat.reduceLT, Int.cast_ofNat_Int, AV.c.injEq, AObj.row.injEq, heq_eq_eq, true_and, and_true, and_self, reduceCtorEq, Bool.and_true, Nat.zero_add, Nat.reduceAdd, Nat.reduceLeDiff, eq_self, decide_true, or_true] <;> try omega)
    all_goals rfl
  intro i hi
  have hpl := ptF_len (b := b) (off := 4) (i := i)
  have w2 : IntKind.i64.wrap (4 + (i : Int)) = 4 + (i : Int) := i64_in _ (by omega)
  have e2 : (4 + (i : Int)).toNat = 4 + i := by omega
  simp only [VCp, headSt, dsts, opDsts, resetS, putsS, VC_skip, VC_region, VC_draw, VC_seq, VC_cond, VC_block, VC_exit, aops_nil, aops_cons, put_some, qop, isQuiet, ASt.eval, AV.need, AV.ac, qbin, binInt, ASt.setObj, ASt.obj, ASt.map, ASt.freeze, AV.map, AObj.map, AC.frz, isScalar, avOf, acOf, eInt, List.getD_cons_succ, List.getD_cons_zero, List.set_cons_succ, List.set_cons_zero, List.map_cons, List.map_nil, List.cons_append, List.nil_append, List.append_nil, decide_eq_true_eq, decide_eq_false_iff_not, Int.not_lt, true_and, and_self, cond_true, beq_self_eq_true, if_true, eq_self, tab_3]
  refine ⟨fun h => ?_, fun h => ?_⟩
  · apply DrawAt.to
    · refine DrawAt.plan tabOK mixed (.take 0 false (.take 2 false (.take 3 false (.take 4 false (.take 5 false (.take 6 false (.take 7 false (.alt 1 (.alt 8 (.alt 9 (.take 10 true (.alt 11 .done .stop)) .stop) .stop) (.alt 8 (.take 1 true (.alt 9 (.take 10 true (.alt 11 .done .stop)) .stop)) .stop))))))))) (by decide +kernel) ?_
      simp only [ownSl, ownPart, appRows, avc_done, avc_stop, avc_take, avc_alt, qstep, lstep, ownLoad, put_some, put_none, aop, qop, isQuiet, ASt.eval, ASt.ev, AV.strip, AV.need, AV.ac, AV.cells, AV.isTup, qbin, binInt, qindexAddr, qfieldAddr, qload, qconvert, splice, needAll, ned, partsOf, fitAll, AC.fits, astore, abuildSlice, elems, setPart, appSrc, aappend, newObj, ASt.setObj, ASt.obj, ASt.map, frzRefs, AV.map, AObj.map, AC.kill, dvs, AC.dv, DV.ac, leD, leD1, ofCells, TI.isAgg, isScalar, avOf, acOf, eInt, eList, ePair, List.getD_cons_succ, List.getD_cons_zero, List.set_cons_succ, List.set_cons_zero, List.map_cons, List.map_nil, List.replicate_succ, List.replicate_zero, List.cons_append, List.nil_append, List.append_nil, List.length_cons, List.length_nil, List.drop_succ_cons, List.drop_zero, List.drop_nil, List.take_succ_cons, List.take_zero, List.take_nil, List.headD_cons, List.all_cons, List.all_nil, List.flatMap_cons, List.flatMap_nil, List.getElem?_cons_succ, List.getElem?_cons_zero, Nat.reduceLT, Int.cast_ofNat_Int, ↓ex_rfl, cast_eq, heq_eq_eq, DV.int.injEq, exists_eq_left', true_and, and_true, and_self, not_false_eq_true, Bool.and_true, Bool.false_eq_true, Bool.true_eq_false, cond_true, cond_false, beq_self_eq_true, Nat.zero_add, Nat.reduceAdd, Nat.reduceMul, Nat.reduceBEq, Nat.reduceLeDiff, Nat.le_refl, eq_self, Nat.succ_ne_self, or_true, or_false, tab_3, tab_5, tab_22, tab_26, tab_40, hl, hpl, w2, e2]
      repeat' (first | with_reducible exact rfl | with_reducible trivial | apply And.intro | omega)
    simp only [VC_region, aops_nil, aops_cons, put_some, qop, isQuiet, ASt.eval, AV.need, AV.ac, qbin, binInt, isScalar, avOf, acOf, eInt, List.getD_cons_succ, List.getD_cons_zero, List.set_cons_succ, List.set_cons_zero, true_and, and_self, eq_self, tab_3]
    refine ⟨i + 1, by omega, by omega, ?_⟩
    rw [ptF_next]
    (simp only [LessC, lessS, lessO, belowS, belowO, AV.below, AObj.below, AC.below, List.length_cons, List.length_nil, List.all_cons, List.all_nil, Nat.reduceLT, Int.cast_ofNat_Int, Int.natCast_add, AV.c.injEq, AC.int.injEq, true_and, and_true, and_self, reduceCtorEq, Bool.and_true, Nat.zero_add, Nat.reduceAdd, Nat.reduceLeDiff, eq_self, decide_true, or_true, or_false, false_or] <;> try omega)
    all_goals exact i64_in _ (by omega)
  · refine DrawAt.fix 1 ?_
    simp only [ASt.fix, AC.fixp, ASt.setObj, ASt.obj, ASt.map, AV.map, AObj.map, dvs, AC.dv, List.getD_cons_succ, List.getD_cons_zero, List.set_cons_succ, List.set_cons_zero, List.map_cons, List.map_nil, List.drop_zero, cond_true, cond_false, beq_self_eq_true, Nat.reduceBEq]
    have hin : i = 40 := by omega
    subst hin
    refine DrawAt.plan tabOK mixed (.take 0 false (.take 1 false (.take 3 false (.alt 2 (.alt 4 (.alt 5 (.take 6 true .done) .stop) .stop) .stop)))) (by decide +kernel) ?_
    simp only [avc_stop, avc_take, avc_alt, qstep, lstep, ownLoad, put_n0, put_some, aop, qop, isQuiet, ASt.eval, ASt.ev, AV.strip, AV.need, AV.ac, AV.isTup, qload, ned, DV.ac, ofCells, TI.isAgg, eInt, eList, ePair, List.getD_cons_succ, List.getD_cons_zero, List.set_cons_succ, List.set_cons_zero, List.map_cons, List.map_nil, List.cons_append, List.nil_append, List.length_cons, List.length_nil, List.take_succ_cons, List.take_nil, List.getElem?_cons_succ, List.getElem?_cons_zero, Int.reduceLT, Int.cast_ofNat_Int, true_and, and_true, and_self, reduceCtorEq, not_false_eq_true, Bool.false_eq_true, Nat.zero_add, Nat.reduceAdd, Nat.le_refl, eq_self, decide_false, or_true, tab_40]
    refine CallAt.plain (packP_spec (numF b 2 2) (ptF b 4 40) (by omega)) rfl ?_
    rintro r os ⟨rfl, rfl⟩
    simp only [avc_stop, avc_alt, lstep, put_n0, put_some, aop, isQuiet, ASt.eval, ASt.ev, AV.strip, AV.need, AV.isTup, ned, AV.map, AObj.map, AC.ren, backIx, giveBack, afterCall, List.getD_cons_succ, List.getD_cons_zero, List.set_cons_succ, List.set_cons_zero, List.map_cons, List.map_nil, List.cons_append, List.nil_append, List.length_cons, List.length_nil, List.getElem?_cons_succ, List.getElem?_cons_zero, List.getElem?_nil, true_and, and_true, and_self, Nat.add_zero, Nat.zero_add, Nat.reduceAdd, Nat.reduceSub, eq_self]
    refine CallAt.view [3] (equal_spec (packPF (numF b 2 2) (ptF b 4 40)) b) rfl (fun r os h => by obtain ⟨rfl, rfl⟩ := h; exact ⟨trivial, fun _ h => by cases h⟩) ?_
    rintro r os ⟨rfl, rfl⟩
    simp only [avc_done, avc_stop, avc_take, avc_alt, qstep, lstep, ownLoad, VC_ret, put_some, put_none, aop, qop, isQuiet, ASt.eval, ASt.ev, AV.strip, AV.need, AV.ac, AV.cells, AV.isTup, splice, ned, AC.fits, astore, ASt.setObj, ASt.obj, AV.map, AC.ren, giveBack, afterCall, eInt, eList, ePair, List.getD_cons_succ, List.getD_cons_zero, List.set_cons_succ, List.set_cons_zero, List.map_nil, List.cons_append, List.nil_append, List.append_nil, List.length_cons, List.length_nil, List.drop_succ_cons, List.drop_nil, List.take_zero, List.all_cons, List.all_nil, List.getElem?_cons_succ, List.getElem?_cons_zero, true_and, and_true, and_self, reduceCtorEq, not_false_eq_true, Bool.and_true, Nat.zero_add, Nat.reduceAdd, Nat.le_refl, eq_self, or_true, tab_40]
    (refine RetAt.leaf ?_ ?_ <;> simp only [resOf, tupOf, compOf, ASt.eval, AV.strip, AV.need, AV.ac, qload, ASt.obj, AV.map, ofCells, TI.isAgg, findIx, AC.ren, eInt, eList, ePair, List.getD_cons_succ, List.getD_cons_zero, List.map_cons, List.map_nil, List.cons_append, List.nil_append, List.length_cons, List.length_nil, List.drop_zero, List.take_succ_cons, List.take_nil, and_self, reduceCtorEq, not_false_eq_true, Nat.zero_add, Nat.reduceAdd, Nat.le_refl, eq_self, tab_40])
set_option maxHeartbeats 16000000 in
theorem unpackP_no (b : List Int) (h0 : b.length ≤ 281474976710656) (c1 : wholeF b 67 = false) : ACall Tryd.prog 10 [.c (rB b)] [] (fun r os =>
    r = .tup [(true, [.int .i64 0, .nil]), (false, [.bool false])] ∧ os = []) := by
  (refine ACall.of_body (nt := 33) (rs := [.cell 2 40, .tmp 3]) tabOK Tryd.func10 rfl rfl rfl rfl ?_; simp only [startSt, List.length_cons, List.length_nil, Nat.reduceAdd, Nat.reduceSub, List.replicate_succ, List.replicate_zero, List.cons_append, List.nil_append])
  simp only [VCp, VC_region, VC_seq, aops_nil, aops_cons, put_some, aop, qop, isQuiet, ASt.eval, ASt.ev, AV.strip, AV.need, AV.isTup, ned, newObj, avOf, acOf, eInt, eList, ePair, List.getD_cons_succ, List.getD_cons_zero, List.set_cons_succ, List.set_cons_zero, List.map_cons, List.map_nil, List.cons_append, List.nil_append, List.length_nil, true_and, and_self, reduceCtorEq, not_false_eq_true, eq_self, tab_40]
  refine CallAt.plain (whole_spec b 67 h0) rfl ?_
  rintro r os ⟨rfl, rfl⟩
  simp only [VC_skip, VC_region, VC_seq, VC_cond, VC_ret, aops_nil, aops_cons, put_some, put_none, aop, qop, isQuiet, ASt.eval, ASt.ev, AV.strip, AV.need, AV.ac, AV.cells, AV.isTup, qun, qbuild, fillParts, splice, needAll, ned, partsOf, fitAll, AC.fits, astore, ASt.setObj, ASt.obj, AV.map, avOf, acOf, AC.ren, giveBack, afterCall, eInt, eList, ePair, List.getD_cons_succ, List.getD_cons_zero, List.set_cons_succ, List.set_cons_zero, List.map_cons, List.map_nil, List.cons_append, List.nil_append, List.append_nil, List.length_cons, List.length_nil, List.drop_succ_cons, List.drop_nil, List.take_zero, List.all_cons, List.all_nil, true_and, and_true, and_self, forall_const, reduceCtorEq, false_implies, not_false_eq_true, Bool.and_true, Bool.true_eq_false, Bool.not_false, Nat.zero_add, Nat.reduceAdd, Nat.le_refl, eq_self, tab_40, c1]
  (refine RetAt.leaf ?_ ?_ <;> simp only [resOf, tupOf, compOf, ASt.eval, AV.strip, AV.need, AV.ac, qload, ASt.obj, AV.map, ofCells, TI.isAgg, findIx, AC.ren, eInt, eList, ePair, List.getD_cons_succ, List.getD_cons_zero, List.map_cons, List.map_nil, List.cons_append, List.nil_append, List.length_cons, List.length_nil, List.drop_zero, List.take_succ_cons, List.take_nil, and_self, reduceCtorEq, not_false_eq_true, Nat.zero_add, Nat.reduceAdd, Nat.le_refl, eq_self, tab_40])
end Go.Vc.Sb
