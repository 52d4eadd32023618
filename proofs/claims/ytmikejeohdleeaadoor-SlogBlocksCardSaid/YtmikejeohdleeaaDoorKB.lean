/- Blocks closed and whole; small functions. -/
import Derived.Test.YtmikejeohdleeaaDoorKA
import Derived.Test.YtmikejeohdleeaaDoorV28
set_option linter.unusedVariables false
set_option linter.unusedSimpArgs false
namespace Go.Vc.Sb
open Go.Proofs Go.IntWalk
set_option maxRecDepth 100000
theorem crc_at {xs xs' : List Int} (h : xs' = xs) (h2 : xs.length ≤ 1048576) : ACall Tryd.prog 23 [.c (rB xs')] [] (fun r os => r = .c (.int .i64 (crcF xs)) ∧ os = []) := by
  subst h
  exact crc_spec _ h2
def closedF (xs : List Int) : List Int := putF xs 60 (crcF (xs.take 60)) 4
theorem closedF_len {xs : List Int} : (closedF xs).length = xs.length := putF_len 4
set_option maxHeartbeats 8000000 in
theorem closed_spec (xs : List Int) (h1 : xs.length = 64) : ACall Tryd.prog 21 [.c (.sl 0)] [rowB xs] (fun r os => r = .c (.sl 0) ∧ os = [rowB (closedF xs)]) := by
  (refine ACall.of_body (nt := 9) (rs := [.tmp 2]) tabOK Tryd.func21 rfl rfl rfl rfl ?_; simp only [startSt, List.length_cons, List.length_nil, Nat.reduceAdd, Nat.reduceSub, List.replicate_succ, List.replicate_zero, List.cons_append, List.nil_append])
  simp only [VCp, VC_region, VC_seq, aops_nil, aops_cons, put_some, aop, qop, isQuiet, ASt.eval, ASt.ev, AV.strip, AV.need, AV.ac, AV.isTup, qslice, cutLo, cutHi, needAll, ned, ASt.obj, avOf, acOf, eInt, eList, List.getD_cons_succ, List.getD_cons_zero, List.set_cons_succ, List.set_cons_zero, List.map_cons, List.map_nil, Option.map_some, Option.map_none, Option.toList_some, Option.toList_none, Int.reduceLE, Int.cast_ofNat_Int, Int.reduceToNat, true_and, and_self, Bool.and_true, cond_true, beq_self_eq_true, Nat.reduceSub, eq_self, tab_5, tab_22, h1]
  refine CallAt.view [0] (crc_at (xs := xs.take 60) (xs' := (xs.drop 0).take 60) rfl (by simp; omega)) rfl (fun r os h => by obtain ⟨rfl, rfl⟩ := h; exact ⟨trivial, fun _ h => by cases h⟩) ?_
  rintro r os ⟨rfl, rfl⟩
  simp only [aops_cons, put_some, aop, isQuiet, ASt.eval, ASt.ev, AV.strip, AV.need, AV.isTup, ned, AV.map, avOf, acOf, AC.ren, giveBack, afterCall, List.getD_cons_succ, List.getD_cons_zero, List.set_cons_succ, List.set_cons_zero, List.map_cons, List.map_nil, List.append_nil, List.length_cons, List.length_nil, true_and, and_self, Nat.zero_add, eq_self]
  refine CallAt.call [0] [] (put_spec xs 60 4 (crcF (xs.take 60)) (by omega) (by omega) (by omega)) (by decide) (fun i hi => by simp at hi; show i < _; simp; omega) (fun _ h => by cases h) rfl rfl (.inl rfl) ?_
  rintro r os ⟨rfl, rfl⟩
  simp only [VC_region, VC_seq, VC_ret, aops_nil, aops_cons, put_some, qop, isQuiet, ASt.eval, AV.need, AV.map, AObj.map, giveBack, afterCall, List.getD_cons_succ, List.getD_cons_zero, List.set_cons_succ, List.set_cons_zero, List.map_nil, List.append_nil, List.length_cons, List.length_nil, true_and, Nat.zero_add]
  refine RetAt.of [0] rfl ?_ rfl (by decide) (by simp) ?_ <;> simp only [resOf, tupOf, keepObjs, keepObjs, XObj.amap, ASt.eval, AV.strip, AV.need, AV.map, AObj.map, findIx, AC.ren, List.getD_cons_succ, List.getD_cons_zero, List.map_cons, List.map_nil, true_and, and_self, cond_true, beq_self_eq_true, eq_self]
  rfl
def wholeF (xs : List Int) (mark : Int) : Bool := decide (xs.length = 64) && decide (xs.getD 0 0 = mark) && decide (numF xs 60 4 = crcF (xs.take 60))
set_option maxHeartbeats 8000000 in
theorem whole_spec (xs : List Int) (mark : Int) (h2 : xs.length ≤ 281474976710656) : ACall Tryd.prog 17 [.c (rB xs), .c (.int .u8 mark)] [] (fun r os => r = .c (.bool (wholeF xs mark)) ∧ os = []) := by
  (refine ACall.of_body (nt := 23) (rs := [.tmp 4]) tabOK Tryd.func17 rfl rfl rfl rfl ?_; simp only [startSt, List.length_cons, List.length_nil, Nat.reduceAdd, Nat.reduceSub, List.replicate_succ, List.replicate_zero, List.cons_append, List.nil_append])
  simp only [VCp, VC_region, VC_draw, VC_seq, aops_nil, aops_cons, put_some, qop, isQuiet, ASt.eval, AV.need, avOf, acOf, List.set_cons_succ, List.set_cons_zero, true_and]
  by_cases c1 : xs.length = 64
  · have z1 : ((xs.length : Int) = 64) = True := eq_true (by omega)
    by_cases c2 : xs.getD 0 0 = mark
    · have z2 : (xs.getD 0 0 = mark) = True := eq_true c2
      refine DrawAt.plan tabOK mixed (.take 0 false (.take 1 false (.take 2 false (.take 3 false (.take 4 false (.take 5 false (.take 6 false (.take 7 false (.take 8 false (.take 9 false (.take 10 true (.take 11 false (.take 13 false (.take 14 false (.alt 12 (.alt 15 (.take 16 true (.take 17 true (.take 18 true .done))) .stop) .stop))))))))))))))) (by decide +kernel) ?_
      simp only [avc_done, avc_stop, avc_take, avc_alt, qstep, lstep, ownLoad, put_n0, VC_ret, put_some, aop, qop, isQuiet, ASt.eval, ASt.ev, AV.strip, AV.need, AV.ac, AV.isTup, onG, guardOf, qbin, binInt, qpick, qpick0, qlen, qindexAddr, qload, qslice, cutLo, cutHi, needAll, ned, DV.ac, ofCells, TI.isAgg, isScalar, avOf, acOf, eInt, eList, List.getD_cons_succ, List.getD_cons_zero, List.set_cons_succ, List.set_cons_zero, List.map_cons, List.map_nil, List.length_cons, List.length_nil, List.drop_zero, List.take_succ_cons, List.take_nil, List.headD_cons, List.getElem?_cons_succ, List.getElem?_cons_zero, Option.bind_some, Option.map_some, Option.map_none, Option.toList_some, Option.toList_none, Int.reduceLT, Int.reduceLE, Int.cast_ofNat_Int, Int.reduceToNat, implies_true, imp_self, true_and, and_true, and_self, forall_const, false_implies, not_false_eq_true, Bool.and_true, Bool.false_eq_true, Bool.true_eq_false, cond_true, beq_self_eq_true, Nat.zero_add, Nat.reduceSub, Nat.le_refl, eq_self, Nat.succ_ne_self, decide_true, and_false, false_and, or_true, tab_3, tab_5, tab_22, c1, z2]
      refine CallAt.plain (number_spec xs 60 4 (by omega) (by omega) (by omega)) rfl ?_
      rintro r os ⟨rfl, rfl⟩
      simp only [avc_done, avc_stop, avc_take, avc_alt, qstep, lstep, ownLoad, put_n0, VC_ret, put_some, aop, qop, isQuiet, ASt.eval, ASt.ev, AV.strip, AV.need, AV.ac, AV.isTup, onG, guardOf, qbin, qpick, ned, AV.map, isScalar, avOf, acOf, AC.ren, giveBack, afterCall, eInt, List.getD_cons_succ, List.getD_cons_zero, List.set_cons_succ, List.set_cons_zero, List.map_cons, List.map_nil, List.append_nil, List.length_nil, List.getElem?_cons_succ, List.getElem?_cons_zero, Option.bind_some, implies_true, imp_self, true_and, and_true, and_self, forall_const, Bool.and_true, Bool.true_eq_false, beq_self_eq_true, eq_self, and_false, false_and, or_true, tab_3]
      refine CallAt.plain (crc_at (xs := xs.take 60) (xs' := (xs.drop 0).take 60) rfl (by simp; omega)) rfl ?_
      rintro r os ⟨rfl, rfl⟩
      simp only [avc_done, avc_take, qstep, ownLoad, VC_ret, put_some, qop, isQuiet, ASt.eval, AV.need, AV.ac, onG, guardOf, qbin, binInt, qpick, qpick0, AV.map, isScalar, avOf, acOf, AC.ren, giveBack, afterCall, eInt, List.getD_cons_succ, List.getD_cons_zero, List.set_cons_succ, List.set_cons_zero, List.map_nil, List.append_nil, List.length_nil, List.getElem?_cons_succ, List.getElem?_cons_zero, Option.bind_some, implies_true, true_and, and_self, Bool.and_true, cond_true, beq_self_eq_true, eq_self, or_true, tab_3]
      (refine RetAt.leaf ?_ ?_ <;> simp only [resOf, tupOf, ASt.eval, AV.strip, AV.need, AV.map, AC.ren, List.getD_cons_succ, List.getD_cons_zero, AV.c.injEq, AC.bool.injEq, and_true, and_self, eq_self])
      simp only [wholeF, c1, c2, decide_true, Bool.true_and]
    · have z2 : (xs.getD 0 0 = mark) = False := eq_false c2
      refine DrawAt.plan tabOK mixed (.take 0 false (.take 1 false (.take 2 false (.take 3 false (.take 4 false (.take 5 false (.take 6 false (.take 7 false (.take 8 false (.take 9 false (.take 10 true (.take 11 false (.take 13 false (.take 14 false (.alt 12 (.alt 15 (.take 16 true (.take 17 true (.take 18 true .done))) .stop) .stop))))))))))))))) (by decide +kernel) ?_
      simp only [avc_done, avc_stop, avc_take, avc_alt, qstep, lstep, ownLoad, put_n0, VC_ret, put_some, aop, qop, isQuiet, ASt.eval, ASt.ev, AV.strip, AV.need, AV.ac, AV.isTup, onG, guardOf, qbin, binInt, qpick, qpick0, qlen, qindexAddr, qload, qslice, cutLo, cutHi, needAll, ned, DV.ac, ofCells, TI.isAgg, isScalar, avOf, acOf, eInt, eList, List.getD_cons_succ, List.getD_cons_zero, List.set_cons_succ, List.set_cons_zero, List.map_cons, List.map_nil, List.length_cons, List.length_nil, List.drop_zero, List.take_succ_cons, List.take_nil, List.headD_cons, List.getElem?_cons_succ, List.getElem?_cons_zero, Option.bind_some, Option.map_some, Option.map_none, Option.toList_some, Option.toList_none, Int.reduceLT, Int.reduceLE, Int.cast_ofNat_Int, Int.reduceToNat, implies_true, imp_self, beq_true, true_and, and_true, and_self, forall_const, not_false_eq_true, Bool.and_true, Bool.and_false, Bool.false_eq_true, cond_true, beq_self_eq_true, Nat.zero_add, Nat.reduceSub, Nat.le_refl, eq_self, Nat.succ_ne_self, decide_true, decide_false, and_false, false_and, or_true, tab_3, tab_5, tab_22, c1, z2]
      (refine RetAt.leaf ?_ ?_ <;> simp only [resOf, tupOf, ASt.eval, AV.strip, AV.need, AV.map, AC.ren, List.getD_cons_succ, List.getD_cons_zero, AV.c.injEq, AC.bool.injEq, and_true, and_self, eq_self])
      simp only [wholeF, c1, c2, decide_true, decide_false, Bool.false_and, Bool.and_false]
  · refine DrawAt.plan tabOK mixed (.take 0 false (.take 1 false (.take 2 false (.take 3 false (.take 4 false (.take 5 false (.take 6 false (.take 7 false (.take 8 false (.take 9 false (.take 10 true (.take 11 false (.take 13 false (.take 14 false (.alt 12 (.alt 15 (.take 16 true (.take 17 true (.take 18 true .done))) .stop) .stop))))))))))))))) (by decide +kernel) ?_
    have z1 : ((xs.length : Int) = 64) = False := eq_false (by omega)
    simp only [avc_done, avc_stop, avc_take, avc_alt, qstep, lstep, ownLoad, put_n0, VC_ret, put_some, aop, qop, isQuiet, ASt.eval, ASt.ev, AV.strip, AV.need, AV.ac, AV.isTup, onG, guardOf, qbin, binInt, qpick, qpick0, qlen, qindexAddr, qload, qslice, cutLo, cutHi, needAll, ned, DV.ac, ofCells, TI.isAgg, isScalar, avOf, acOf, eInt, eList, List.getD_cons_succ, List.getD_cons_zero, List.set_cons_succ, List.set_cons_zero, List.map_cons, List.map_nil, List.length_cons, List.length_nil, List.drop_zero, List.take_succ_cons, List.take_nil, List.headD_cons, List.getElem?_cons_succ, List.getElem?_cons_zero, Option.bind_some, Option.map_some, Option.map_none, Option.toList_some, Option.toList_none, Int.reduceLE, Int.reduceToNat, implies_true, imp_self, beq_true, true_and, and_true, and_self, forall_const, false_implies, not_false_eq_true, Bool.and_false, Bool.false_eq_true, cond_false, Nat.zero_add, Nat.reduceSub, Nat.le_refl, eq_self, Nat.succ_ne_self, decide_false, and_false, false_and, or_true, tab_3, tab_5, tab_22, z1]
    (refine RetAt.leaf ?_ ?_ <;> simp only [resOf, tupOf, ASt.eval, AV.strip, AV.need, AV.map, AC.ren, List.getD_cons_succ, List.getD_cons_zero, AV.c.injEq, AC.bool.injEq, and_true, and_self, eq_self])
    simp only [wholeF, c1, decide_false, Bool.false_and]
def eqF (xs ys : List Int) : Bool := (strOf xs).toList == (strOf ys).toList
set_option maxHeartbeats 8000000 in
theorem equal_spec (xs ys : List Int) : ACall Tryd.prog 6 [.c (rB xs), .c (rB ys)] [] (fun r os => r = .c (.bool (eqF xs ys)) ∧ os = []) := by
  (refine ACall.of_body (nt := 10) (rs := [.tmp 4]) tabOK Tryd.func6 rfl rfl rfl rfl ?_; simp only [startSt, List.length_cons, List.length_nil, Nat.reduceAdd, Nat.reduceSub, List.replicate_succ, List.replicate_zero, List.cons_append, List.nil_append])
  simp only [VCp, VC_region, VC_seq, VC_ret, aops_nil, aops_cons, put_some, aop, qop, isQuiet, ASt.eval, AV.need, AV.ac, AV.isTup, qbin, binStr, ned, appSrc, aconv, isScalar, avOf, acOf, eInt, eStr, eList, List.getD_cons_succ, List.getD_cons_zero, List.set_cons_succ, List.set_cons_zero, ↓ex_rfl, cast_eq, heq_eq_eq, true_and, and_self, Bool.and_true, eq_self, tab_5, tab_9, tab_22]
  refine ⟨rfl, rfl, ?_⟩
  (refine RetAt.leaf ?_ ?_ <;> simp only [resOf, tupOf, ASt.eval, AV.strip, AV.need, AV.map, AC.ren, List.getD_cons_succ, List.getD_cons_zero, AV.c.injEq, AC.bool.injEq, and_true, and_self, eq_self])
  rfl
def pagesF (n k : Int) : Int := if n < 1 ∨ k < 1 then 0 else (n - 1).tdiv k + 1
theorem pages_spec (n k : Int) (h1 : -9223372036854775808 ≤ n) (h2 : n ≤ 9223372036854775807) (h3 : k ≤ 9223372036854775807) : ACall Tryd.prog 14 [.c (.int .i64 n), .c (.int .i64 k)] [] (fun r os => r = .c (.int .i64 (pagesF n k)) ∧ os = []) := by
  (refine ACall.of_body (nt := 16) (rs := [.tmp 4]) tabOK Tryd.func14 rfl rfl rfl rfl ?_; simp only [startSt, List.length_cons, List.length_nil, Nat.reduceAdd, Nat.reduceSub, List.replicate_succ, List.replicate_zero, List.cons_append, List.nil_append])
  simp only [VCp, VC_skip, VC_region, VC_seq, VC_cond, VC_ret, aops_nil, aops_cons, put_some, qop, isQuiet, ASt.eval, AV.need, AV.ac, onG, guardOf, qbin, binInt, qpick, qpick0, isScalar, avOf, acOf, eInt, List.getD_cons_succ, List.getD_cons_zero, List.set_cons_succ, List.set_cons_zero, List.getElem?_cons_succ, List.getElem?_cons_zero, Option.bind_some, implies_true, imp_self, beq_false, decide_eq_true_eq, decide_eq_false_iff_not, Bool.not_eq_true', Bool.cond_true_left, Bool.or_eq_true, Bool.or_eq_false_iff, Int.not_lt, true_and, and_self, Bool.true_and, eq_self, tab_3]
  refine ⟨fun hc => ?_, fun hc => ⟨by omega, ?_⟩⟩
  · (refine RetAt.leaf ?_ ?_ <;> simp only [resOf, tupOf, ASt.eval, AV.strip, AV.need, AV.map, AC.ren, List.getD_cons_succ, List.getD_cons_zero, AV.c.injEq, AC.int.injEq, true_and, and_true, and_self, eq_self])
    rw [pagesF, if_pos hc]
  · have w1 : IntKind.i64.wrap (n - 1) = n - 1 := i64_in _ (by omega)
    have d1 : 0 ≤ (n - 1).tdiv k := Int.tdiv_nonneg (by omega) (by omega)
    have d2 : (n - 1).tdiv k ≤ n - 1 := Int.tdiv_le_self _ (by omega)
    have w2 : IntKind.i64.wrap ((n - 1).tdiv k) = (n - 1).tdiv k := i64_in _ (by omega)
    have w3 : IntKind.i64.wrap ((n - 1).tdiv k + 1) = (n - 1).tdiv k + 1 := i64_in _ (by omega)
    simp only [w1, w2, w3]
    (refine RetAt.leaf ?_ ?_ <;> simp only [resOf, tupOf, ASt.eval, AV.strip, AV.need, AV.map, AC.ren, List.getD_cons_succ, List.getD_cons_zero, AV.c.injEq, AC.int.injEq, true_and, and_true, and_self, eq_self])
    rw [pagesF, if_neg (by omega)]
theorem at_spec (g k : Int) (h1 : 0 ≤ g) (h2 : g ≤ 1000) (h3 : 0 ≤ k) (h4 : k ≤ 1000) : ACall Tryd.prog 13 [.c (.int .i64 g), .c (.int .i64 k)] [] (fun r os => r = .c (.int .i64 (2 + g * 8 + 1 + k)) ∧ os = []) := by
  (refine ACall.of_body (nt := 11) (rs := [.tmp 4]) tabOK Tryd.func13 rfl rfl rfl rfl ?_; simp only [startSt, List.length_cons, List.length_nil, Nat.reduceAdd, Nat.reduceSub, List.replicate_succ, List.replicate_zero, List.cons_append, List.nil_append])
  have w1 : IntKind.i64.wrap (g * 8) = g * 8 := i64_in _ (by omega)
  have w2 : IntKind.i64.wrap (2 + g * 8) = 2 + g * 8 := i64_in _ (by omega)
  have w3 : IntKind.i64.wrap (2 + g * 8 + 1) = 2 + g * 8 + 1 := i64_in _ (by omega)
  have w4 : IntKind.i64.wrap (2 + g * 8 + 1 + k) = 2 + g * 8 + 1 + k := i64_in _ (by omega)
  simp only [VCp, VC_region, VC_seq, VC_ret, aops_nil, aops_cons, put_some, qop, isQuiet, ASt.eval, AV.need, AV.ac, qbin, binInt, isScalar, avOf, acOf, eInt, List.getD_cons_succ, List.getD_cons_zero, List.set_cons_succ, List.set_cons_zero, true_and, and_self, eq_self, tab_3, w1, w2, w3, w4]
  (refine RetAt.leaf ?_ ?_ <;> simp only [resOf, tupOf, ASt.eval, AV.strip, AV.need, AV.map, AC.ren, List.getD_cons_succ, List.getD_cons_zero, and_self, eq_self])
end Go.Vc.Sb
