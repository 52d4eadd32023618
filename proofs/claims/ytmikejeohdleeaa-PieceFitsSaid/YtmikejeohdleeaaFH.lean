/- Where the number is not right. -/
import Derived.Test.YtmikejeohdleeaaFD
set_option linter.unusedVariables false
set_option linter.unusedSimpArgs false
namespace Go.Vc.Pc
open Go.Proofs Go.IntWalk
set_option maxRecDepth 100000
set_option maxHeartbeats 16000000 in
theorem fits_d (ls : List (List Int)) (o : List Int) (most : Int) (h1 : ls.length < 9223372036854775807) (h2 : ∀ r ∈ ls, r.length ≤ 140737488351232) (h3 : o.length < 9223372036854775807) (h8 : ∀ r ∈ ls, U8s r) (c1' : ¬ (12 : Int) < (ls.length : Int)) (c2 : most < 1 ∨ 64 < most) (hE : ovErr ls most = 1) (z : ¬ (0 : Int) = (ls.length : Int)) :
    ACall Try.prog 7 [.c (rBB ls), .c (rI o), .c (.int .i64 most)] [] (fun r os => r = .c (.bool true) ∧ os = []) := by
  (refine ACall.of_body (nt := 198) (rs := [.tmp 6]) tabOK Try.func7 rfl rfl rfl rfl ?_; simp only [startSt, List.length_cons, List.length_nil, Nat.reduceAdd, Nat.reduceSub, List.replicate_succ, List.replicate_zero, List.cons_append, List.nil_append])
  simp only [VCp, VC_region, VC_seq, aops_nil, aops_cons, put_some, aop, qop, isQuiet, ASt.eval, AV.need, ned, avOf, acOf, List.set_cons_succ, List.set_cons_zero, List.map_nil, true_and]
  refine CallAt.plain ordered_spec rfl ?_
  rintro r os ⟨rfl, rfl⟩
  simp only [ownPart, VC_cond, aops_nil, aops_cons, put_some, aop, qop, isQuiet, ASt.eval, ASt.ev, AV.strip, AV.need, AV.ac, AV.cells, AV.isTup, onG, guardOf, qbin, qpick, qun, needAll, ned, partsOf, fitAll, AC.fits, abuildSlice, elems, setPart, aconv, newObj, ASt.setObj, ASt.obj, ASt.map, ASt.freeze, frzRefs, AV.map, AObj.map, AC.frz, dvs, AC.dv, leD, leD1, isScalar, avOf, acOf, AC.ren, giveBack, afterCall, eInt, eList, List.getD_cons_succ, List.getD_cons_zero, List.set_cons_succ, List.set_cons_zero, List.map_cons, List.map_nil, List.replicate_succ, List.replicate_zero, List.cons_append, List.nil_append, List.append_nil, List.length_cons, List.length_nil, List.all_cons, List.all_nil, List.flatMap_cons, List.flatMap_nil, List.getElem?_cons_succ, List.getElem?_cons_zero, Option.bind_some, Nat.reduceLT, DV.int.injEq, exists_eq_left', implies_true, imp_self, true_and, and_true, and_self, forall_const, false_implies, not_false_eq_true, Bool.and_true, Bool.and_false, Bool.true_eq_false, Bool.not_true, Bool.not_false, cond_true, cond_false, beq_self_eq_true, Nat.zero_add, Nat.reduceAdd, Nat.reduceMul, Nat.reduceBEq, Nat.reduceLeDiff, eq_self, Nat.succ_ne_self, and_false, tab_3, tab_5, tab_29]
  refine CallAt.plain (fit_spec [97, 98] [98, 99] 3 (by decide) (by decide)) rfl ?_
  rintro r os ⟨rfl, rfl⟩
  rw [fit0]
  simp only [VC_skip, VC_region, VC_seq, VC_cond, VC_ret, aops_nil, aops_cons, put_some, aop, qop, isQuiet, ASt.eval, ASt.ev, AV.strip, AV.need, AV.ac, AV.isTup, onG, guardOf, qbin, binInt, qpick, qpick0, ned, AV.map, isScalar, avOf, acOf, AC.ren, giveBack, afterCall, eInt, List.getD_cons_succ, List.getD_cons_zero, List.set_cons_succ, List.set_cons_zero, List.map_cons, List.map_nil, List.append_nil, List.length_cons, List.length_nil, List.getElem?_cons_succ, List.getElem?_cons_zero, Option.bind_some, implies_true, true_and, and_self, forall_const, false_implies, Bool.and_true, Bool.false_eq_true, Bool.not_true, Bool.not_false, cond_false, beq_self_eq_true, Nat.zero_add, Nat.reduceAdd, eq_self, decide_true, tab_3]
  refine CallAt.plain (overlaps_spec ls most h1 (fun r hr => by have := h2 r hr; omega)) rfl ?_
  intro r os h
  rw [if_pos (by rw [hE]; decide)] at h
  obtain ⟨rfl, rfl⟩ := h
  rw [hE]
  have z0 : ((0 : Int) = (ls.length : Int)) = False := eq_false z
  simp only [VC_skip, VC_region, VC_seq, VC_cond, VC_block, VC_loop, VC_ret, aops_nil, aops_cons, put_some, put_none, aop, qop, isQuiet, ASt.eval, ASt.ev, AV.strip, AV.need, AV.ac, AV.cells, AV.isTup, onG, guardOf, qbin, binInt, qpick, qpick0, qlen, qfieldAddr, qload, qextract, splice, ned, AC.fits, astore, newObj, ASt.setObj, ASt.obj, AV.map, ofCells, TI.isAgg, isScalar, avOf, acOf, AC.ren, giveBack, afterCall, eInt, eList, ePair, List.getD_cons_succ, List.getD_cons_zero, List.set_cons_succ, List.set_cons_zero, List.map_cons, List.map_nil, List.cons_append, List.nil_append, List.append_nil, List.length_cons, List.length_nil, List.drop_succ_cons, List.drop_zero, List.drop_nil, List.take_succ_cons, List.take_zero, List.take_nil, List.headD_cons, List.all_cons, List.all_nil, List.getElem?_cons_succ, List.getElem?_cons_zero, Option.bind_some, Int.reduceEq, implies_true, imp_self, beq_false, beq_true, decide_eq_true_eq, decide_eq_false_iff_not, Bool.not_eq_true', Bool.cond_true_left, Bool.or_eq_true, Bool.or_eq_false_iff, Int.not_lt, true_and, and_true, and_self, forall_const, reduceCtorEq, false_implies, not_false_eq_true, Bool.and_true, Bool.true_and, Bool.and_false, Bool.false_eq_true, Bool.true_eq_false, Bool.not_true, Bool.not_false, cond_true, cond_false, beq_self_eq_true, Nat.add_zero, Nat.zero_add, Nat.reduceAdd, Nat.reduceLeDiff, Nat.le_refl, eq_self, Nat.succ_ne_self, decide_true, decide_false, and_false, tab_3, tab_26, tab_34, tab_51, tab_53, tab_59, z0]
  refine ⟨fun h => absurd h c1', fun _ => ⟨fun _ => ?_, fun h => by omega⟩⟩
  refine LoopAt.fix 2 (LoopAt.renum [] ⟨rfl, Nat.zero_le _, by decide⟩ ?_)
  simp only [ASt.renum, keepObjs, ASt.fix, AC.fixp, XObj.amap, ASt.setObj, ASt.obj, ASt.map, AV.map, AObj.map, dvs, AC.dv, findIx, AC.ren, List.getD_cons_succ, List.getD_cons_zero, List.set_cons_succ, List.set_cons_zero, List.map_cons, List.map_nil, List.drop_succ_cons, List.drop_zero, cond_true, beq_self_eq_true]
  refine LoopAt.inv (ι := Unit) (T := tab) (fun _ => [(67, .c (.int .i64 0))]) (fun _ => []) (fun _ => True) (fun _ => 0) tabOK () trivial ?_ ?_
  · (simp only [LessC, headSt, dsts, opDsts, resetS, putsS, lessS, lessO, belowS, belowO, AV.below, AC.below, List.set_cons_succ, List.set_cons_zero, List.cons_append, List.nil_append, List.append_nil, List.length_nil, List.all_cons, List.all_nil, AV.c.injEq, and_self, reduceCtorEq, Bool.and_true, Nat.le_refl, eq_self, or_true, or_false] <;> try omega)
  intro _ _
  simp only [VCp, headSt, dsts, opDsts, resetS, putsS, VC_skip, VC_region, VC_seq, VC_cond, VC_block, VC_loop, VC_exit, aops_nil, aops_cons, put_some, aop, qop, isQuiet, ASt.eval, ASt.ev, AV.strip, AV.need, AV.ac, AV.isTup, qbin, binInt, qlen, qindexAddr, qload, ned, isScalar, avOf, acOf, eInt, eList, List.getD_cons_succ, List.getD_cons_zero, List.set_cons_succ, List.set_cons_zero, List.map_cons, List.map_nil, List.cons_append, List.nil_append, List.append_nil, Int.reduceLT, Nat.reduceLT, imp_self, true_and, and_self, forall_const, Bool.false_eq_true, if_true, eq_self, decide_false, and_false, false_and, tab_3, tab_26, tab_51]
  refine CallAt.plain (join_spec ls o most h1 h2 h3) rfl ?_
  intro r os hj
  by_cases j0 : joinErr ls o most = 0
  · rw [if_neg (by omega)] at hj
    obtain ⟨rfl, rfl⟩ := hj
    have hm : ¬ (most < 0 ∨ 64 < most) := fun hm => by
      unfold joinErr at j0
      rw [if_pos hm] at j0
      cases j0
    have he : firstJ ls o most o.length = 0 := by
      unfold joinErr at j0
      rw [if_neg hm] at j0
      exact j0
    simp only [VC_skip, VC_region, VC_seq, VC_cond, VC_block, VC_loop, aops_nil, aops_cons, put_some, qop, isQuiet, ASt.eval, AV.need, AV.ac, onG, guardOf, qbin, binInt, qpick, qpick0, qlen, qextract, AV.map, AObj.map, isScalar, avOf, acOf, AC.ren, backIx, giveBack, afterCall, eInt, eList, List.getD_cons_succ, List.getD_cons_zero, List.set_cons_succ, List.set_cons_zero, List.map_cons, List.map_nil, List.nil_append, List.length_cons, List.length_nil, List.headD_cons, List.getElem?_cons_succ, List.getElem?_cons_zero, List.getElem?_nil, Option.bind_some, implies_true, imp_self, beq_false, decide_eq_true_eq, decide_eq_false_iff_not, Bool.not_eq_true', Bool.cond_true_left, Bool.or_eq_true, Bool.or_eq_false_iff, Int.not_lt, true_and, and_self, Bool.and_true, Bool.true_and, cond_true, beq_self_eq_true, Nat.add_zero, Nat.zero_add, Nat.reduceSub, eq_self, tab_3, tab_26]
    refine ⟨fun h => absurd h hm, fun _ => ?_⟩
    refine LoopAt.freeze 0 (LoopAt.adopt 15 5 1 Int 0 (fun n => [.int .u8 n]) rfl (fun _ => rfl) ?_)
    simp only [newObj, ASt.setObj, ASt.obj, ASt.map, ASt.freeze, AV.map, AObj.map, AC.frz, adopt, List.getD_cons_zero, List.set_cons_succ, List.set_cons_zero, List.map_cons, List.map_nil, List.cons_append, List.nil_append, List.length_cons, List.length_nil, cond_true, beq_self_eq_true, Nat.zero_add]
    refine LoopAt.inv (ι := Nat) (T := tab) (fun i => [(138, .c (.int .i64 i)), (15, .c (.sl 1)), (9, .c (.int .i64 0))]) (fun i => [.gone, .row 5 1 Int 0 (fun n => [.int .u8 n]) (outTo ls o most i)])
      (fun i => i ≤ o.length) (fun i => o.length - i) tabOK 0 (Nat.zero_le _) ?_ ?_
    · (simp only [LessC, headSt, dsts, opDsts, resetS, putsS, lessS, lessO, belowS, belowO, AV.below, AObj.below, AC.below, List.set_cons_succ, List.set_cons_zero, List.cons_append, List.nil_append, List.append_nil, List.length_cons, List.length_nil, List.all_cons, List.all_nil, Nat.reduceLT, Int.cast_ofNat_Int, AV.c.injEq, AObj.row.injEq, heq_eq_eq, true_and, and_true, and_self, reduceCtorEq, Bool.and_true, Nat.zero_add, Nat.reduceAdd, Nat.reduceLeDiff, eq_self, decide_true, or_true] <;> try omega)
      rfl
    intro i hi
    have hol := outTo_le (firstJ_le he hi)
    simp only [VCp, headSt, dsts, opDsts, resetS, putsS, appRows, VC_skip, VC_region, VC_draw, VC_seq, VC_cond, VC_block, VC_exit, VC_ret, aops_nil, aops_cons, put_some, aop, qop, isQuiet, ASt.eval, ASt.ev, AV.strip, AV.need, AV.ac, AV.isTup, onG, guardOf, qbin, binInt, qpick, qpick0, qlen, qindexAddr, qload, qslice, cutLo, cutHi, needAll, ned, appSrc, aappend, ASt.setObj, ASt.obj, ASt.map, AV.map, AObj.map, AC.kill, DV.ac, ofCells, TI.isAgg, isScalar, avOf, acOf, eInt, eList, List.getD_cons_succ, List.getD_cons_zero, List.set_cons_succ, List.set_cons_zero, List.map_cons, List.map_nil, List.cons_append, List.nil_append, List.append_nil, List.length_cons, List.length_nil, List.length_append, List.drop_zero, List.take_succ_cons, List.take_nil, List.headD_cons, List.getElem?_cons_succ, List.getElem?_cons_zero, Option.bind_some, Option.map_some, Option.map_none, Option.toList_some, Option.toList_none, Int.reduceLE, Int.reduceEq, Int.natCast_add, ↓ex_rfl, cast_eq, heq_eq_eq, Int.toNat_natCast, Int.reduceToNat, implies_true, imp_self, beq_false, beq_true, decide_eq_true_eq, decide_eq_false_iff_not, Bool.not_eq_true', Bool.cond_true_left, Bool.or_eq_true, Bool.or_eq_false_iff, Int.not_lt, Int.not_le, true_and, and_true, and_self, forall_const, false_implies, not_false_eq_true, Bool.and_true, Bool.true_and, Bool.and_false, Bool.false_eq_true, Bool.true_eq_false, Bool.not_true, Bool.not_false, cond_true, cond_false, beq_self_eq_true, if_true, if_false, Nat.zero_add, Nat.reduceEqDiff, Nat.reduceLeDiff, Nat.le_refl, eq_self, Nat.succ_ne_self, decide_true, decide_false, tab_3, tab_5, tab_26, tab_29, tab_34, tab_59]
    refine ⟨fun h => ?_, fun h => ?_⟩
    · have hi' : i < o.length := by omega
      obtain ⟨x1, x2, x3⟩ := firstJ_in he hi'
      refine ⟨⟨by omega, by omega⟩, fun hx => by omega, fun _ => ?_⟩
      have hjb := jn_bounds (ls := ls) (o := o) (most := most) (i := i)
      have mi : ls.getD (o.getD i 0).toNat [] ∈ ls := by
        have : (o.getD i 0).toNat < ls.length := by omega
        generalize (o.getD i 0).toNat = t at *
        simp [List.getD, this]
      have hli := h2 _ mi
      have u1 := h8 _ mi
      have hou : outTo ls o most (i + 1) = outTo ls o most i ++ (ls.getD (o.getD i 0).toNat []).drop (jn ls o most i).toNat := rfl
      have hT : ((ls.getD (o.getD i 0).toNat []).drop (jn ls o most i).toNat).take ((ls.getD (o.getD i 0).toNat []).length - (jn ls o most i).toNat) = (ls.getD (o.getD i 0).toNat []).drop (jn ls o most i).toNat := List.take_of_length_le (by simp)
      have hdl : ((ls.getD (o.getD i 0).toNat []).drop (jn ls o most i).toNat).length ≤ (ls.getD (o.getD i 0).toNat []).length := by rw [List.length_drop]; omega
      have houl : (outTo ls o most (i + 1)).length = (outTo ls o most i).length + ((ls.getD (o.getD i 0).toNat []).drop (jn ls o most i).toNat).length := by rw [hou, List.length_append]
      refine ⟨fun hp => ?_, fun hp => ?_⟩
      · have hjn : jn ls o most i = fitF (ls.getD (o.getD (i - 1) 0).toNat []) (ls.getD (o.getD i 0).toNat []) most := if_pos (by omega)
        obtain ⟨p1, p2, -⟩ := firstJ_in he (i := i - 1) (by omega)
        have mp : ls.getD (o.getD (i - 1) 0).toNat [] ∈ ls := by
          have : (o.getD (i - 1) 0).toNat < ls.length := by omega
          generalize (o.getD (i - 1) 0).toNat = t at *
          simp [List.getD, this]
        have hlp := h2 _ mp
        have u2 := h8 _ mp
        have w3 : IntKind.i64.wrap ((i : Int) - 1) = ((i - 1 : Nat) : Int) := by rw [i64_in _ (by omega)]; omega
        refine DrawAt.plan tabOK mixed (.take 0 false (.take 1 false (.take 2 false (.take 3 false (.take 4 false (.take 5 false (.take 6 false (.take 7 true (.take 8 false (.take 9 false (.take 10 false (.take 11 true (.take 12 true (.alt 13 (.take 14 true .done) .stop)))))))))))))) (by decide +kernel) ?_
        simp only [avc_stop, avc_take, avc_alt, qstep, lstep, ownLoad, put_n0, put_some, aop, qop, isQuiet, ASt.eval, ASt.ev, AV.strip, AV.need, AV.ac, AV.isTup, qbin, binInt, qindexAddr, qload, ned, DV.ac, ofCells, TI.isAgg, isScalar, avOf, acOf, eInt, eList, List.getD_cons_succ, List.getD_cons_zero, List.set_cons_succ, List.set_cons_zero, List.map_cons, List.map_nil, List.length_cons, List.length_nil, List.take_succ_cons, List.take_nil, List.headD_cons, List.getElem?_cons_succ, List.getElem?_cons_zero, Int.toNat_natCast, true_and, and_true, and_self, not_false_eq_true, Bool.false_eq_true, Nat.zero_add, Nat.le_refl, eq_self, Nat.succ_ne_self, or_true, tab_3, tab_26, tab_29, tab_59, w3, Int.toNat_natCast]
        refine ⟨⟨by omega, by omega⟩, ⟨by omega, by omega⟩, ⟨by omega, by omega⟩, ?_⟩
        refine CallAt.plain (refFit_spec (ls.getD (o.getD (i - 1) 0).toNat []) (ls.getD (o.getD i 0).toNat []) most (by omega) (by omega) u2 u1) rfl ?_
        rintro r os ⟨rfl, rfl⟩
        rw [← hjn]
        simp only [appRows, avc_done, avc_take, qstep, ownLoad, VC_skip, VC_region, VC_seq, VC_cond, aops_nil, aops_cons, put_some, aop, qop, isQuiet, ASt.eval, AV.need, AV.ac, AV.isTup, qbin, binInt, qlen, qindexAddr, qload, qslice, cutLo, cutHi, needAll, ned, appSrc, aappend, ASt.setObj, ASt.obj, ASt.map, AV.map, AObj.map, AC.kill, DV.ac, ofCells, TI.isAgg, isScalar, avOf, acOf, AC.ren, giveBack, afterCall, eInt, eList, List.getD_cons_succ, List.getD_cons_zero, List.set_cons_succ, List.set_cons_zero, List.map_cons, List.map_nil, List.append_nil, List.length_cons, List.length_nil, List.length_append, List.take_succ_cons, List.take_nil, List.headD_cons, List.getElem?_cons_succ, List.getElem?_cons_zero, Option.map_some, Option.map_none, Option.toList_some, Option.toList_none, Int.natCast_add, ↓ex_rfl, cast_eq, heq_eq_eq, Int.toNat_natCast, decide_eq_true_eq, decide_eq_false_iff_not, Int.not_lt, true_and, and_self, not_false_eq_true, cond_true, beq_self_eq_true, Nat.zero_add, Nat.reduceAdd, Nat.reduceLeDiff, Nat.le_refl, eq_self, Nat.succ_ne_self, or_true, tab_3, tab_5, tab_29, tab_59, hT]
        generalize hdd : (ls.getD (o.getD i 0).toNat []).drop (jn ls o most i).toNat = dd at *
        refine ⟨⟨by omega, by omega⟩, by omega, by omega, by omega, fun hbig => by omega, fun hsm => ⟨i + 1, by omega, by omega, ?_⟩⟩
        rw [hou]
        (simp only [LessC, lessS, lessO, belowS, belowO, AV.below, AObj.below, AC.below, List.length_cons, List.length_nil, List.all_cons, List.all_nil, Nat.reduceLT, Int.cast_ofNat_Int, Int.natCast_add, AV.c.injEq, AC.int.injEq, true_and, and_true, and_self, reduceCtorEq, Bool.and_true, Nat.zero_add, Nat.reduceAdd, Nat.reduceLeDiff, eq_self, decide_true, or_true, or_false, false_or] <;> try omega)
        all_goals exact i64_in _ (by omega)
      · have hjn : jn ls o most i = 0 := if_neg (by omega)
        have hT0 : (ls.getD (o.getD i 0).toNat []).take ((ls.getD (o.getD i 0).toNat []).length - 0) = (ls.getD (o.getD i 0).toNat []).drop (jn ls o most i).toNat := by
          rw [hjn]
          exact List.take_of_length_le (by simp)
        simp only [hT0]
        generalize hdd : (ls.getD (o.getD i 0).toNat []).drop (jn ls o most i).toNat = dd at *
        refine ⟨⟨by omega, by omega⟩, by omega, by omega, by omega, fun hbig => by omega, fun hsm => ⟨i + 1, by omega, by omega, ?_⟩⟩
        rw [hou]
        (simp only [LessC, lessS, lessO, belowS, belowO, AV.below, AObj.below, AC.below, List.length_cons, List.length_nil, List.all_cons, List.all_nil, Nat.reduceLT, Int.cast_ofNat_Int, Int.natCast_add, AV.c.injEq, AC.int.injEq, true_and, and_true, and_self, reduceCtorEq, Bool.and_true, Nat.zero_add, Nat.reduceAdd, Nat.reduceLeDiff, eq_self, decide_true, or_true, or_false, false_or] <;> try omega)
        all_goals exact i64_in _ (by omega)
    · have hin : i = o.length := by omega
      subst hin
      refine CallAt.view [1] (bytesEqual_spec (outTo ls o most o.length) (outTo ls o most o.length) (outTo_u8 h8 _) (outTo_u8 h8 _)) rfl (fun r os h => by obtain ⟨rfl, rfl⟩ := h; exact ⟨trivial, fun _ h => by cases h⟩) ?_
      rintro r os ⟨rfl, rfl⟩
      simp only [VC_ret, aops_nil, aops_cons, put_some, qop, isQuiet, ASt.eval, AV.need, AV.ac, qpick, qpick0, AV.map, avOf, acOf, AC.ren, giveBack, afterCall, List.getD_cons_succ, List.getD_cons_zero, List.set_cons_succ, List.set_cons_zero, List.map_nil, List.append_nil, List.length_cons, List.length_nil, true_and, and_self, cond_true, Nat.zero_add, Nat.reduceAdd, eq_self, decide_true]
      (refine RetAt.leaf ?_ ?_ <;> simp only [resOf, tupOf, ASt.eval, AV.strip, AV.need, AV.map, AC.ren, List.getD_cons_succ, List.getD_cons_zero, and_self, eq_self])
  · rw [if_pos j0] at hj
    obtain ⟨rfl, rfl⟩ := hj
    simp only [VC_skip, VC_region, VC_seq, VC_cond, VC_block, VC_loop, aops_nil, aops_cons, put_some, qop, isQuiet, ASt.eval, AV.need, AV.ac, onG, guardOf, qbin, binInt, qpick, qpick0, qlen, qextract, AV.map, isScalar, avOf, acOf, AC.ren, giveBack, afterCall, eInt, eList, List.getD_cons_succ, List.getD_cons_zero, List.set_cons_succ, List.set_cons_zero, List.map_cons, List.map_nil, List.append_nil, List.length_cons, List.length_nil, List.headD_cons, List.getElem?_cons_succ, List.getElem?_cons_zero, Option.bind_some, implies_true, imp_self, beq_false, decide_eq_true_eq, decide_eq_false_iff_not, Bool.not_eq_true', Bool.cond_true_left, Bool.or_eq_true, Bool.or_eq_false_iff, Int.not_lt, true_and, and_self, Bool.and_true, Bool.true_and, cond_true, beq_self_eq_true, Nat.zero_add, eq_self, tab_3, tab_26]
    refine ⟨fun h => ?_, fun h => ?_⟩
    · have e1 : joinErr ls o most = 1 := if_pos (by omega)
      rw [e1]
      refine LoopAt.inv (ι := Unit) (T := tab) (fun _ => [(138, .c (.int .i64 0)), (9, .c (.int .i64 1))]) (fun _ => []) (fun _ => True) (fun _ => 0) tabOK () trivial ?_ ?_
      · (simp only [LessC, headSt, dsts, opDsts, resetS, putsS, lessS, lessO, belowS, belowO, AV.below, AC.below, List.set_cons_succ, List.set_cons_zero, List.cons_append, List.nil_append, List.append_nil, List.length_nil, List.all_cons, List.all_nil, AV.c.injEq, and_self, reduceCtorEq, Bool.and_true, Nat.le_refl, eq_self, or_true, or_false] <;> try omega)
      intro i hi
      simp only [VCp, headSt, dsts, opDsts, resetS, putsS, appRows, VC_skip, VC_region, VC_draw, VC_seq, VC_cond, VC_block, VC_exit, VC_ret, aops_nil, aops_cons, put_some, aop, qop, isQuiet, ASt.eval, ASt.ev, AV.strip, AV.need, AV.ac, AV.isTup, onG, guardOf, qbin, binInt, qpick, qpick0, qlen, qindexAddr, qload, qslice, cutLo, cutHi, needAll, ned, aappend, DV.ac, ofCells, TI.isAgg, isScalar, avOf, acOf, eInt, eList, List.getD_cons_succ, List.getD_cons_zero, List.set_cons_succ, List.set_cons_zero, List.map_cons, List.map_nil, List.cons_append, List.nil_append, List.append_nil, List.length_cons, List.length_nil, List.drop_zero, List.take_succ_cons, List.take_nil, List.headD_cons, List.getElem?_cons_succ, List.getElem?_cons_zero, Option.bind_some, Option.map_some, Option.map_none, Option.toList_some, Option.toList_none, Int.reduceLT, Int.reduceLE, Int.reduceEq, Int.reduceAdd, Nat.reduceLT, Int.toNat_natCast, Int.reduceToNat, implies_true, imp_self, beq_false, beq_true, decide_eq_true_eq, decide_eq_false_iff_not, Bool.not_eq_true', Bool.cond_true_left, Bool.or_eq_true, Bool.or_eq_false_iff, Int.not_lt, Int.not_le, true_and, and_true, and_self, forall_const, false_implies, not_false_eq_true, Bool.and_true, Bool.true_and, Bool.and_false, Bool.false_eq_true, Bool.true_eq_false, Bool.not_false, cond_true, cond_false, beq_self_eq_true, if_true, if_false, Nat.zero_add, Nat.reduceEqDiff, Nat.le_refl, eq_self, Nat.succ_ne_self, decide_true, decide_false, and_false, false_and, tab_3, tab_5, tab_26, tab_29, tab_34, tab_59]
      refine ⟨fun h => ⟨by omega, ?_⟩, fun h => ?_⟩
      all_goals (refine RetAt.leaf ?_ ?_ <;> simp only [resOf, tupOf, ASt.eval, AV.strip, AV.need, AV.map, AC.ren, List.getD_cons_succ, List.getD_cons_zero, and_self, eq_self])
    · have hm : ¬ (most < 0 ∨ 64 < most) := by omega
      have he : joinErr ls o most = firstJ ls o most o.length := if_neg hm
      rw [he] at j0 ⊢
      refine LoopAt.adopt 15 5 1 Int 0 (fun n => [.int .u8 n]) rfl (fun _ => rfl) ?_
      simp only [newObj, adopt, List.set_cons_succ, List.set_cons_zero, List.nil_append, List.length_nil]
      refine LoopAt.inv (ι := Nat) (T := tab) (fun i => [(138, .c (.int .i64 i)), (15, .c (.sl 0)), (9, .c (.int .i64 (firstJ ls o most i)))]) (fun i => [.row 5 1 Int 0 (fun n => [.int .u8 n]) (outTo ls o most i)])
        (fun i => i ≤ o.length ∧ (i = 0 ∨ firstJ ls o most (i - 1) = 0)) (fun i => o.length - i) tabOK 0 ⟨Nat.zero_le _, .inl rfl⟩ ?_ ?_
      · (simp only [LessC, headSt, dsts, opDsts, resetS, putsS, lessS, lessO, belowS, belowO, AV.below, AObj.below, AC.below, List.set_cons_succ, List.set_cons_zero, List.cons_append, List.nil_append, List.append_nil, List.length_cons, List.length_nil, List.all_cons, List.all_nil, Nat.reduceLT, Int.cast_ofNat_Int, AV.c.injEq, AC.int.injEq, AObj.row.injEq, heq_eq_eq, true_and, and_true, and_self, reduceCtorEq, Bool.and_true, Nat.zero_add, Nat.reduceLeDiff, eq_self, decide_true, or_true, false_or] <;> try omega)
        exact ⟨rfl, rfl⟩
      rintro i ⟨hi, hpre⟩
      by_cases hf : firstJ ls o most i = 0
      · rw [hf]
        have hol := outTo_le hf
        simp only [VCp, headSt, dsts, opDsts, resetS, putsS, appRows, VC_skip, VC_region, VC_draw, VC_seq, VC_cond, VC_block, VC_exit, VC_ret, aops_nil, aops_cons, put_some, aop, qop, isQuiet, ASt.eval, ASt.ev, AV.strip, AV.need, AV.ac, AV.isTup, onG, guardOf, qbin, binInt, qpick, qpick0, qlen, qindexAddr, qload, qslice, cutLo, cutHi, needAll, ned, appSrc, aappend, ASt.setObj, ASt.obj, ASt.map, AV.map, AObj.map, AC.kill, DV.ac, ofCells, TI.isAgg, isScalar, avOf, acOf, eInt, eList, List.getD_cons_succ, List.getD_cons_zero, List.set_cons_succ, List.set_cons_zero, List.map_cons, List.map_nil, List.cons_append, List.nil_append, List.append_nil, List.length_cons, List.length_nil, List.length_append, List.drop_zero, List.take_succ_cons, List.take_nil, List.headD_cons, List.getElem?_cons_succ, List.getElem?_cons_zero, Option.bind_some, Option.map_some, Option.map_none, Option.toList_some, Option.toList_none, Int.reduceLE, Int.reduceEq, Int.natCast_add, ↓ex_rfl, cast_eq, heq_eq_eq, Int.toNat_natCast, Int.reduceToNat, implies_true, imp_self, beq_false, beq_true, decide_eq_true_eq, decide_eq_false_iff_not, Bool.not_eq_true', Bool.cond_true_left, Bool.cond_false_right, Bool.or_eq_true, Bool.or_eq_false_iff, Int.not_lt, Int.not_le, true_and, and_true, and_self, forall_const, false_implies, not_false_eq_true, Bool.and_true, Bool.true_and, Bool.false_eq_true, Bool.true_eq_false, Bool.not_true, Bool.not_false, cond_true, beq_self_eq_true, if_true, if_false, Nat.zero_add, Nat.reduceEqDiff, Nat.le_refl, eq_self, Nat.succ_ne_self, decide_true, decide_false, tab_3, tab_5, tab_26, tab_29, tab_34, tab_59]
        refine ⟨fun h => ?_, fun h => ?_⟩
        · have hi' : i < o.length := by omega
          have hat := fun hr => firstJ_at (n := o.length) hf hr hi'
          have hnx := firstJ_next hf
          refine ⟨⟨by omega, by omega⟩, fun hx => ?_, fun hx => ?_⟩
          · have e : jE ls o most i = 4 := if_pos (by omega)
            rw [hat (by rw [e]; decide), e]
            (refine RetAt.leaf ?_ ?_ <;> simp only [resOf, tupOf, ASt.eval, AV.strip, AV.need, AV.map, AC.ren, List.getD_cons_succ, List.getD_cons_zero, and_self, eq_self, decide_true])
          have hx1 : ¬ (o.getD i 0 < 0 ∨ (ls.length : Int) ≤ o.getD i 0) := by omega
          have hje : jE ls o most i = if 65536 < (outTo ls o most (i + 1)).length then 2 else 0 := if_neg hx1
          have hjb := jn_bounds (ls := ls) (o := o) (most := most) (i := i)
          have mi : ls.getD (o.getD i 0).toNat [] ∈ ls := by
            have : (o.getD i 0).toNat < ls.length := by omega
            generalize (o.getD i 0).toNat = t at *
            simp [List.getD, this]
          have hli := h2 _ mi
          have u1 := h8 _ mi
          have hou : outTo ls o most (i + 1) = outTo ls o most i ++ (ls.getD (o.getD i 0).toNat []).drop (jn ls o most i).toNat := rfl
          have hT : ((ls.getD (o.getD i 0).toNat []).drop (jn ls o most i).toNat).take ((ls.getD (o.getD i 0).toNat []).length - (jn ls o most i).toNat) = (ls.getD (o.getD i 0).toNat []).drop (jn ls o most i).toNat := List.take_of_length_le (by simp)
          have hdl : ((ls.getD (o.getD i 0).toNat []).drop (jn ls o most i).toNat).length ≤ (ls.getD (o.getD i 0).toNat []).length := by rw [List.length_drop]; omega
          have houl : (outTo ls o most (i + 1)).length = (outTo ls o most i).length + ((ls.getD (o.getD i 0).toNat []).drop (jn ls o most i).toNat).length := by rw [hou, List.length_append]
          refine ⟨fun hp => ?_, fun hp => ?_⟩
          · have hjn : jn ls o most i = fitF (ls.getD (o.getD (i - 1) 0).toNat []) (ls.getD (o.getD i 0).toNat []) most := if_pos (by omega)
            obtain ⟨p1, p2, -⟩ := firstJ_in hf (i := i - 1) (by omega)
            have mp : ls.getD (o.getD (i - 1) 0).toNat [] ∈ ls := by
              have : (o.getD (i - 1) 0).toNat < ls.length := by omega
              generalize (o.getD (i - 1) 0).toNat = t at *
              simp [List.getD, this]
            have hlp := h2 _ mp
            have u2 := h8 _ mp
            have w3 : IntKind.i64.wrap ((i : Int) - 1) = ((i - 1 : Nat) : Int) := by rw [i64_in _ (by omega)]; omega
            refine DrawAt.plan tabOK mixed (.take 0 false (.take 1 false (.take 2 false (.take 3 false (.take 4 false (.take 5 false (.take 6 false (.take 7 true (.take 8 false (.take 9 false (.take 10 false (.take 11 true (.take 12 true (.alt 13 (.take 14 true .done) .stop)))))))))))))) (by decide +kernel) ?_
            simp only [avc_stop, avc_take, avc_alt, qstep, lstep, ownLoad, put_n0, put_some, aop, qop, isQuiet, ASt.eval, ASt.ev, AV.strip, AV.need, AV.ac, AV.isTup, qbin, binInt, qindexAddr, qload, ned, DV.ac, ofCells, TI.isAgg, isScalar, avOf, acOf, eInt, eList, List.getD_cons_succ, List.getD_cons_zero, List.set_cons_succ, List.set_cons_zero, List.map_cons, List.map_nil, List.length_cons, List.length_nil, List.take_succ_cons, List.take_nil, List.headD_cons, List.getElem?_cons_succ, List.getElem?_cons_zero, Int.toNat_natCast, true_and, and_true, and_self, not_false_eq_true, Bool.false_eq_true, Nat.zero_add, Nat.le_refl, eq_self, Nat.succ_ne_self, or_true, tab_3, tab_26, tab_29, tab_59, w3, Int.toNat_natCast]
            refine ⟨⟨by omega, by omega⟩, ⟨by omega, by omega⟩, ⟨by omega, by omega⟩, ?_⟩
            refine CallAt.plain (refFit_spec (ls.getD (o.getD (i - 1) 0).toNat []) (ls.getD (o.getD i 0).toNat []) most (by omega) (by omega) u2 u1) rfl ?_
            rintro r os ⟨rfl, rfl⟩
            rw [← hjn]
            simp only [appRows, avc_done, avc_take, qstep, ownLoad, VC_skip, VC_region, VC_seq, VC_cond, aops_nil, aops_cons, put_some, aop, qop, isQuiet, ASt.eval, AV.need, AV.ac, AV.isTup, qbin, binInt, qlen, qindexAddr, qload, qslice, cutLo, cutHi, needAll, ned, appSrc, aappend, ASt.setObj, ASt.obj, ASt.map, AV.map, AObj.map, AC.kill, DV.ac, ofCells, TI.isAgg, isScalar, avOf, acOf, AC.ren, giveBack, afterCall, eInt, eList, List.getD_cons_succ, List.getD_cons_zero, List.set_cons_succ, List.set_cons_zero, List.map_cons, List.map_nil, List.append_nil, List.length_cons, List.length_nil, List.length_append, List.take_succ_cons, List.take_nil, List.headD_cons, List.getElem?_cons_succ, List.getElem?_cons_zero, Option.map_some, Option.map_none, Option.toList_some, Option.toList_none, Int.natCast_add, ↓ex_rfl, cast_eq, heq_eq_eq, Int.toNat_natCast, decide_eq_true_eq, decide_eq_false_iff_not, Int.not_lt, true_and, and_self, not_false_eq_true, cond_true, beq_self_eq_true, Nat.zero_add, Nat.le_refl, eq_self, Nat.succ_ne_self, or_true, tab_3, tab_5, tab_29, tab_59, hT]
            generalize hdd : (ls.getD (o.getD i 0).toNat []).drop (jn ls o most i).toNat = dd at *
            refine ⟨⟨by omega, by omega⟩, by omega, by omega, by omega, fun hbig => ⟨i + 1, ⟨by omega, .inr (by simpa using hf)⟩, by omega, ?_⟩, fun hsm => ⟨i + 1, ⟨by omega, .inr (by simpa using hf)⟩, by omega, ?_⟩⟩
            · rw [hnx, hje, if_pos (by omega), hou]
              (simp only [LessC, lessS, lessO, belowS, belowO, AV.below, AObj.below, AC.below, List.length_cons, List.length_nil, List.all_cons, List.all_nil, Nat.reduceLT, Int.cast_ofNat_Int, Int.natCast_add, AV.c.injEq, AC.int.injEq, true_and, and_true, and_self, reduceCtorEq, Bool.and_true, Nat.zero_add, Nat.reduceLeDiff, eq_self, decide_true, or_true, or_false, false_or] <;> try omega)
              all_goals exact i64_in _ (by omega)
            · rw [hnx, hje, if_neg (by omega), hou]
              (simp only [LessC, lessS, lessO, belowS, belowO, AV.below, AObj.below, AC.below, List.length_cons, List.length_nil, List.all_cons, List.all_nil, Nat.reduceLT, Int.cast_ofNat_Int, Int.natCast_add, AV.c.injEq, AC.int.injEq, true_and, and_true, and_self, reduceCtorEq, Bool.and_true, Nat.zero_add, Nat.reduceLeDiff, eq_self, decide_true, or_true, or_false, false_or] <;> try omega)
              all_goals exact i64_in _ (by omega)
          · have hjn : jn ls o most i = 0 := if_neg (by omega)
            have hT0 : (ls.getD (o.getD i 0).toNat []).take ((ls.getD (o.getD i 0).toNat []).length - 0) = (ls.getD (o.getD i 0).toNat []).drop (jn ls o most i).toNat := by
              rw [hjn]
              exact List.take_of_length_le (by simp)
            simp only [hT0]
            generalize hdd : (ls.getD (o.getD i 0).toNat []).drop (jn ls o most i).toNat = dd at *
            refine ⟨⟨by omega, by omega⟩, by omega, by omega, by omega, fun hbig => ⟨i + 1, ⟨by omega, .inr (by simpa using hf)⟩, by omega, ?_⟩, fun hsm => ⟨i + 1, ⟨by omega, .inr (by simpa using hf)⟩, by omega, ?_⟩⟩
            · rw [hnx, hje, if_pos (by omega), hou]
              (simp only [LessC, lessS, lessO, belowS, belowO, AV.below, AObj.below, AC.below, List.length_cons, List.length_nil, List.all_cons, List.all_nil, Nat.reduceLT, Int.cast_ofNat_Int, Int.natCast_add, AV.c.injEq, AC.int.injEq, true_and, and_true, and_self, reduceCtorEq, Bool.and_true, Nat.zero_add, Nat.reduceLeDiff, eq_self, decide_true, or_true, or_false, false_or] <;> try omega)
              all_goals exact i64_in _ (by omega)
            · rw [hnx, hje, if_neg (by omega), hou]
              (simp only [LessC, lessS, lessO, belowS, belowO, AV.below, AObj.below, AC.below, List.length_cons, List.length_nil, List.all_cons, List.all_nil, Nat.reduceLT, Int.cast_ofNat_Int, Int.natCast_add, AV.c.injEq, AC.int.injEq, true_and, and_true, and_self, reduceCtorEq, Bool.and_true, Nat.zero_add, Nat.reduceLeDiff, eq_self, decide_true, or_true, or_false, false_or] <;> try omega)
              all_goals exact i64_in _ (by omega)
        · have hin : i = o.length := by omega
          rw [hin] at hf
          exact absurd hf j0
      · have hst : firstJ ls o most o.length = firstJ ls o most i := by
          have := firstJ_stick hf (o.length - i)
          rw [show i + (o.length - i) = o.length by omega] at this
          exact this
        rw [hst]
        simp only [VCp, headSt, dsts, opDsts, resetS, putsS, appRows, VC_skip, VC_region, VC_draw, VC_seq, VC_cond, VC_block, VC_exit, VC_ret, aops_nil, aops_cons, put_some, aop, qop, isQuiet, ASt.eval, ASt.ev, AV.strip, AV.need, AV.ac, AV.isTup, onG, guardOf, qbin, binInt, qpick, qpick0, qlen, qindexAddr, qload, qslice, cutLo, cutHi, needAll, ned, appSrc, aappend, ASt.setObj, ASt.obj, ASt.map, AV.map, AObj.map, AC.kill, DV.ac, ofCells, TI.isAgg, isScalar, avOf, acOf, eInt, eList, List.getD_cons_succ, List.getD_cons_zero, List.set_cons_succ, List.set_cons_zero, List.map_cons, List.map_nil, List.cons_append, List.nil_append, List.append_nil, List.length_cons, List.length_nil, List.length_append, List.drop_zero, List.take_succ_cons, List.take_nil, List.headD_cons, List.getElem?_cons_succ, List.getElem?_cons_zero, Option.bind_some, Option.map_some, Option.map_none, Option.toList_some, Option.toList_none, Int.reduceLE, Int.reduceEq, Int.natCast_add, ↓ex_rfl, cast_eq, heq_eq_eq, Int.toNat_natCast, Int.reduceToNat, implies_true, imp_self, beq_false, beq_true, decide_eq_true_eq, decide_eq_false_iff_not, Bool.not_eq_true', Bool.cond_true_left, Bool.cond_false_right, Bool.or_eq_true, Bool.or_eq_false_iff, Int.not_lt, Int.not_le, true_and, and_true, and_self, forall_const, false_implies, not_false_eq_true, Bool.and_true, Bool.true_and, Bool.false_eq_true, Bool.true_eq_false, Bool.not_false, cond_true, beq_self_eq_true, if_true, if_false, Nat.zero_add, Nat.reduceEqDiff, Nat.le_refl, eq_self, Nat.succ_ne_self, decide_true, decide_false, and_false, false_and, tab_3, tab_5, tab_26, tab_29, tab_34, tab_59, hf]
        refine ⟨fun h => ⟨⟨by omega, by omega⟩, ?_⟩, fun h => ?_⟩
        all_goals (refine RetAt.leaf ?_ ?_ <;> simp only [resOf, tupOf, ASt.eval, AV.strip, AV.need, AV.map, AC.ren, List.getD_cons_succ, List.getD_cons_zero, and_self, eq_self])
end Go.Vc.Pc
