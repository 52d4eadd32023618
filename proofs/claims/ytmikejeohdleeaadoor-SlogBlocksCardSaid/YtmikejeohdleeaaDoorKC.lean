/- Trailing zeros, places of blocks. -/
import Derived.Test.YtmikejeohdleeaaDoorKB
set_option linter.unusedVariables false
set_option linter.unusedSimpArgs false
namespace Go.Vc.Sb
open Go.Proofs Go.IntWalk
set_option maxRecDepth 100000
def trimN (xs : List Int) : Nat → Nat
  | 0 => 0
  | m + 1 => if xs.getD m 0 = 0 then trimN xs m else m + 1
theorem trimN_le (xs : List Int) : ∀ m, trimN xs m ≤ m
  | 0 => Nat.le_refl _
  | m + 1 => by unfold trimN; have := trimN_le xs m; split <;> omega
def trimF (xs : List Int) : List Int := xs.take (trimN xs xs.length)
set_option maxHeartbeats 8000000 in
theorem trimByte_spec (xs : List Int) (h2 : xs.length ≤ 1048576) : ACall Tryd.prog 27 [.c (rB xs), .c (.int .u8 0)] [] (fun r os => r = .c (rB (trimF xs)) ∧ os = []) := by
  (refine ACall.of_body (nt := 24) (rs := [.tmp 4]) tabOK Tryd.func27 rfl rfl rfl rfl ?_; simp only [startSt, List.length_cons, List.length_nil, Nat.reduceAdd, Nat.reduceSub, List.replicate_succ, List.replicate_zero, List.cons_append, List.nil_append])
  simp only [VCp, VC_region, VC_seq, VC_block, VC_loop, aops_nil, aops_cons, put_some, qop, isQuiet, ASt.eval, AV.need, avOf, acOf, List.set_cons_succ, List.set_cons_zero, true_and, Bool.and_true, cond_true, beq_self_eq_true]
  refine LoopAt.inv (ι := Nat) (T := tab) (fun m => [(0, .c (rB (xs.take m)))]) (fun m => []) (fun m => m ≤ xs.length ∧ trimN xs m = trimN xs xs.length) (fun m => m) tabOK xs.length ⟨Nat.le_refl _, rfl⟩ ?_ ?_
  · (simp only [LessC, headSt, dsts, opDsts, resetS, putsS, lessS, lessO, belowS, belowO, AV.below, AC.below, List.set_cons_succ, List.set_cons_zero, List.cons_append, List.nil_append, List.append_nil, List.length_nil, AV.c.injEq, AC.rd.injEq, heq_eq_eq, true_and, and_true, and_self, reduceCtorEq, Bool.and_true, Nat.le_refl, eq_self, or_true, false_or] <;> try omega)
    all_goals simp only [List.take_length]
  rintro m ⟨hm, ht⟩
  have hl : (xs.take m).length = m := by rw [List.length_take]; omega
  by_cases c1 : 0 < m
  · have z1 : ((0 : Int) < (m : Int)) = True := eq_true (by omega)
    have w1 : IntKind.i64.wrap ((m : Int) - 1) = (m : Int) - 1 := i64_in _ (by omega)
    have e1 : ((m : Int) - 1).toNat = m - 1 := by omega
    have e2 : (xs.take m).getD (m - 1) 0 = xs.getD (m - 1) 0 := by simp [List.getD, show m - 1 < m by omega]
    by_cases c2 : xs.getD (m - 1) 0 = 0
    · have z2 : (xs.getD (m - 1) 0 = 0) = True := eq_true c2
      simp only [VCp, headSt, dsts, opDsts, resetS, putsS, VC_skip, VC_region, VC_seq, VC_cond, VC_block, VC_exit, VC_ret, aops_nil, aops_cons, put_some, qop, isQuiet, ASt.eval, AV.need, AV.ac, AV.isTup, onG, guardOf, qbin, binInt, qpick, qpick0, qlen, qindexAddr, qload, qslice, cutLo, cutHi, needAll, DV.ac, ofCells, TI.isAgg, isScalar, avOf, acOf, eInt, eList, List.getD_cons_succ, List.getD_cons_zero, List.set_cons_succ, List.set_cons_zero, List.map_cons, List.map_nil, List.cons_append, List.nil_append, List.append_nil, List.length_cons, List.length_nil, List.drop_zero, List.take_succ_cons, List.take_nil, List.headD_cons, List.getElem?_cons_succ, List.getElem?_cons_zero, Option.bind_some, Option.map_some, Option.map_none, Option.toList_some, Option.toList_none, Int.reduceLE, Int.reduceToNat, implies_true, true_and, and_true, and_self, forall_const, false_implies, not_false_eq_true, Bool.and_true, Bool.true_eq_false, cond_true, beq_self_eq_true, if_true, Nat.zero_add, Nat.le_refl, eq_self, Nat.succ_ne_self, decide_true, tab_3, tab_5, tab_22, hl, z1, w1, e1, e2, z2]
      have et : (xs.take m).take (m - 1 - 0) = xs.take (m - 1) := by rw [List.take_take]; congr 1; omega
      have hs : trimN xs (m - 1) = trimN xs m := by
        obtain ⟨j, rfl⟩ : ∃ j, m = j + 1 := ⟨m - 1, by omega⟩
        show _ = (if xs.getD j 0 = 0 then trimN xs j else j + 1)
        have c2' : xs.getD j 0 = 0 := c2
        rw [if_pos c2']
        rfl
      refine ⟨⟨by omega, by omega⟩, ⟨by omega, by omega⟩, m - 1, ⟨by omega, by rw [hs, ht]⟩, by omega, ?_⟩
      rw [et]
      (simp only [LessC, lessS, lessO, belowS, belowO, AV.below, AC.below, List.length_nil, AV.c.injEq, and_self, reduceCtorEq, Bool.and_true, Nat.le_refl, eq_self, or_true, or_false] <;> try omega)
    · have z2 : (xs.getD (m - 1) 0 = 0) = False := eq_false c2
      simp only [VCp, headSt, dsts, opDsts, resetS, putsS, VC_skip, VC_region, VC_seq, VC_cond, VC_block, VC_exit, VC_ret, aops_nil, aops_cons, put_some, qop, isQuiet, ASt.eval, AV.need, AV.ac, AV.isTup, onG, guardOf, qbin, binInt, qpick, qpick0, qlen, qindexAddr, qload, qslice, cutLo, cutHi, needAll, DV.ac, ofCells, TI.isAgg, isScalar, avOf, acOf, eInt, eList, List.getD_cons_succ, List.getD_cons_zero, List.set_cons_succ, List.set_cons_zero, List.map_cons, List.map_nil, List.cons_append, List.nil_append, List.append_nil, List.length_cons, List.length_nil, List.drop_zero, List.take_succ_cons, List.take_nil, List.headD_cons, List.getElem?_cons_succ, List.getElem?_cons_zero, Option.bind_some, Option.map_some, Option.map_none, Option.toList_some, Option.toList_none, Int.reduceLE, Int.reduceToNat, implies_true, true_and, and_self, forall_const, false_implies, not_false_eq_true, Bool.and_true, Bool.false_eq_true, cond_true, beq_self_eq_true, if_true, Nat.zero_add, Nat.le_refl, eq_self, Nat.succ_ne_self, decide_true, decide_false, tab_3, tab_5, tab_22, hl, z1, w1, e1, e2, z2]
      have hs : trimN xs xs.length = m := by
        rw [← ht]
        obtain ⟨j, rfl⟩ : ∃ j, m = j + 1 := ⟨m - 1, by omega⟩
        show (if xs.getD j 0 = 0 then trimN xs j else j + 1) = _
        have c2' : ¬ xs.getD j 0 = 0 := c2
        rw [if_neg c2']
      refine ⟨⟨by omega, by omega⟩, ?_⟩
      (refine RetAt.leaf ?_ ?_ <;> simp only [resOf, tupOf, ASt.eval, AV.strip, AV.need, AV.map, AC.ren, List.getD_cons_succ, List.getD_cons_zero, AV.c.injEq, AC.rd.injEq, heq_eq_eq, true_and, and_true, and_self, eq_self])
      rw [trimF, hs]
  · have z1 : ((0 : Int) < (m : Int)) = False := eq_false (by omega)
    simp only [VCp, headSt, dsts, opDsts, resetS, putsS, VC_skip, VC_region, VC_seq, VC_cond, VC_block, VC_exit, VC_ret, aops_nil, aops_cons, put_some, qop, isQuiet, ASt.eval, AV.need, AV.ac, AV.isTup, onG, guardOf, qbin, binInt, qpick, qpick0, qlen, qindexAddr, qload, qslice, cutLo, cutHi, needAll, DV.ac, ofCells, TI.isAgg, isScalar, avOf, acOf, eInt, eList, List.getD_cons_succ, List.getD_cons_zero, List.set_cons_succ, List.set_cons_zero, List.map_cons, List.map_nil, List.cons_append, List.nil_append, List.append_nil, List.length_cons, List.length_nil, List.drop_zero, List.take_succ_cons, List.take_nil, List.headD_cons, List.getElem?_cons_succ, List.getElem?_cons_zero, Option.bind_some, Option.map_some, Option.map_none, Option.toList_some, Option.toList_none, Int.reduceLE, Int.reduceToNat, implies_true, imp_self, beq_true, true_and, and_self, forall_const, false_implies, not_false_eq_true, Bool.and_false, Bool.false_eq_true, cond_false, if_true, Nat.zero_add, Nat.le_refl, eq_self, Nat.succ_ne_self, decide_false, tab_3, tab_5, tab_22, hl, z1]
    have hs : trimN xs xs.length = m := by
      rw [← ht]
      obtain rfl : m = 0 := by omega
      rfl
    (refine RetAt.leaf ?_ ?_ <;> simp only [resOf, tupOf, ASt.eval, AV.strip, AV.need, AV.map, AC.ren, List.getD_cons_succ, List.getD_cons_zero, AV.c.injEq, AC.rd.injEq, heq_eq_eq, true_and, and_true, and_self, eq_self])
    rw [trimF, hs]
set_option maxHeartbeats 8000000 in
theorem trim_spec (xs : List Int) (h2 : xs.length ≤ 1048576) : ACall Tryd.prog 19 [.c (rB xs), .c (.str ⟨#[0]⟩)] [] (fun r os => r = .c (rB (trimF xs)) ∧ os = []) := by
  (refine ACall.of_body (nt := 38) (rs := [.tmp 4]) tabOK Tryd.func19 rfl rfl rfl rfl ?_; simp only [startSt, List.length_cons, List.length_nil, Nat.reduceAdd, Nat.reduceSub, List.replicate_succ, List.replicate_zero, List.cons_append, List.nil_append])
  by_cases c1 : xs.length = 0
  · have z1 : ((xs.length : Int) = 0) = True := eq_true (by omega)
    simp only [VCp, VC_skip, VC_region, VC_seq, VC_cond, VC_ret, aops_nil, aops_cons, put_some, aop, qop, isQuiet, ASt.eval, ASt.ev, AV.strip, AV.need, AV.ac, AV.isTup, onG, guardOf, qbin, binInt, binStr, qpick, qpick0, qlen, qindex, ned, isScalar, avOf, acOf, eInt, eStr, eList, List.getD_cons_succ, List.getD_cons_zero, List.set_cons_succ, List.set_cons_zero, List.map_cons, List.map_nil, List.getElem?_cons_succ, List.getElem?_cons_zero, Option.bind_some, Int.reduceLE, implies_true, imp_self, beq_false, beq_true, decide_eq_true_eq, decide_eq_false_iff_not, Bool.cond_false_right, Bool.and_eq_true, Bool.and_eq_false_iff, Int.not_lt, true_and, and_true, and_self, forall_const, false_implies, Bool.and_true, Bool.true_and, Bool.and_false, Bool.false_eq_true, Bool.true_eq_false, Bool.not_true, cond_true, beq_self_eq_true, eq_self, decide_true, tab_3, tab_5, tab_9, tab_22, z1]
    (refine RetAt.leaf ?_ ?_ <;> simp only [resOf, tupOf, ASt.eval, AV.strip, AV.need, AV.map, AC.ren, List.getD_cons_succ, List.getD_cons_zero, AV.c.injEq, AC.rd.injEq, heq_eq_eq, true_and, and_true, and_self, eq_self])
    have e : xs = [] := List.eq_nil_of_length_eq_zero c1
    subst e
    rfl
  · have z1 : ((xs.length : Int) = 0) = False := eq_false (by omega)
    have z2 : ((⟨#[0]⟩ : ByteArray).toList == (⟨#[]⟩ : ByteArray).toList) = false := by
      rw [ByteArray.toList_eq, ByteArray.toList_eq]
      rfl
    have z3 : (⟨#[0]⟩ : ByteArray).size = 1 := rfl
    have z4 : bt ⟨#[0]⟩ 0 = 0 := rfl
    simp only [VCp, VC_skip, VC_region, VC_seq, VC_cond, VC_ret, aops_nil, aops_cons, put_some, aop, qop, isQuiet, ASt.eval, ASt.ev, AV.strip, AV.need, AV.ac, AV.isTup, onG, guardOf, qbin, binInt, binStr, qpick, qpick0, qlen, qindex, ned, isScalar, avOf, acOf, eInt, eStr, eList, List.getD_cons_succ, List.getD_cons_zero, List.set_cons_succ, List.set_cons_zero, List.map_cons, List.map_nil, List.getElem?_cons_succ, List.getElem?_cons_zero, Option.bind_some, Int.reduceLT, Int.reduceLE, Int.cast_ofNat_Int, implies_true, true_and, and_true, and_self, forall_const, false_implies, Bool.and_true, Bool.false_eq_true, Bool.true_eq_false, Bool.not_false, cond_true, cond_false, beq_self_eq_true, eq_self, decide_true, decide_false, tab_3, tab_5, tab_9, tab_22, z1, z2, z3, z4]
    refine CallAt.plain (trimByte_spec xs h2) rfl ?_
    rintro r os ⟨rfl, rfl⟩
    simp only [VC_ret, aops_nil, aops_cons, put_some, qop, isQuiet, ASt.eval, AV.need, AV.map, AC.ren, giveBack, afterCall, List.getD_cons_succ, List.getD_cons_zero, List.set_cons_succ, List.set_cons_zero, List.map_nil, List.append_nil, List.length_nil, true_and]
    (refine RetAt.leaf ?_ ?_ <;> simp only [resOf, tupOf, ASt.eval, AV.strip, AV.need, AV.map, AC.ren, List.getD_cons_succ, List.getD_cons_zero, and_self, eq_self])
def whereR (n : Int) (r : AV) (os : List AObj) : Prop := ∃ g k : Int, r = .tup [(false, [.int .i64 g]), (false, [.int .i64 k]), (false, [.bool (decide (2 ≤ n ∧ n < 130 ∧ ¬ (n - 2) % 8 = 0))])] ∧ os = [] ∧
  (2 ≤ n ∧ n < 130 ∧ ¬ (n - 2) % 8 = 0 → 0 ≤ g ∧ g ≤ 1000 ∧ 0 ≤ k ∧ k ≤ 1000 ∧ 2 + g * 8 + 1 + k = n)
set_option maxHeartbeats 8000000 in
theorem where_spec (n : Int) : ACall Tryd.prog 12 [.c (.int .i64 n)] [] (whereR n) := by
  (refine ACall.of_body (nt := 24) (rs := [.tmp 2, .tmp 3, .tmp 4]) tabOK Tryd.func12 rfl rfl rfl rfl ?_; simp only [startSt, List.length_cons, List.length_nil, Nat.reduceAdd, Nat.reduceSub, List.replicate_succ, List.replicate_zero, List.cons_append, List.nil_append])
  by_cases c1 : n < 3 ∨ 130 ≤ n
  · simp only [VCp, VC_skip, VC_region, VC_seq, VC_cond, VC_ret, aops_nil, aops_cons, put_some, qop, isQuiet, ASt.eval, AV.need, AV.ac, onG, guardOf, qbin, binInt, qpick, qpick0, isScalar, avOf, acOf, eInt, List.getD_cons_succ, List.getD_cons_zero, List.set_cons_succ, List.set_cons_zero, List.getElem?_cons_succ, List.getElem?_cons_zero, Option.bind_some, Int.reduceEq, implies_true, imp_self, beq_false, decide_eq_true_eq, decide_eq_false_iff_not, Bool.not_eq_true', Bool.cond_true_left, Bool.or_eq_true, Bool.or_eq_false_iff, Int.not_lt, Int.not_le, true_and, and_self, not_false_eq_true, Bool.true_and, eq_self, tab_3]
    refine ⟨fun hc => ?_, fun hc => ?_⟩
    · (refine RetAt.leaf ?_ ?_ <;> simp only [resOf, tupOf, compOf, ASt.eval, AV.strip, AV.need, AV.map, findIx, AC.ren, List.getD_cons_succ, List.getD_cons_zero, List.map_cons, List.map_nil, and_self])
      refine ⟨0, 0, ?_, rfl, fun h => ?_⟩
      · rw [decide_eq_false (by omega)]
      · omega
    · exfalso; omega
  · have w1 : IntKind.i64.wrap (n - 2) = n - 2 := i64_in _ (by omega)
    have d1 : (n - 2).tdiv 8 = (n - 2) / 8 := Int.tdiv_eq_ediv_of_nonneg (by omega)
    have d2 : (n - 2).tmod 8 = (n - 2) % 8 := Int.tmod_eq_emod_of_nonneg (by omega)
    have w2 : IntKind.i64.wrap ((n - 2) / 8) = (n - 2) / 8 := i64_in _ (by omega)
    have w3 : IntKind.i64.wrap ((n - 2) % 8 - 1) = (n - 2) % 8 - 1 := i64_in _ (by omega)
    simp only [VCp, VC_skip, VC_region, VC_seq, VC_cond, VC_ret, aops_nil, aops_cons, put_some, qop, isQuiet, ASt.eval, AV.need, AV.ac, onG, guardOf, qbin, binInt, qpick, qpick0, isScalar, avOf, acOf, eInt, List.getD_cons_succ, List.getD_cons_zero, List.set_cons_succ, List.set_cons_zero, List.getElem?_cons_succ, List.getElem?_cons_zero, Option.bind_some, Int.reduceEq, implies_true, imp_self, beq_false, decide_eq_true_eq, decide_eq_false_iff_not, Bool.not_eq_true', Bool.cond_true_left, Bool.or_eq_true, Bool.or_eq_false_iff, Int.not_lt, Int.not_le, true_and, and_self, not_false_eq_true, Bool.true_and, eq_self, tab_3, w1, d1, d2, w2, w3]
    refine ⟨fun hc => absurd hc c1, fun hc => ⟨fun h => ?_, fun h => ?_⟩⟩
    · (refine RetAt.leaf ?_ ?_ <;> simp only [resOf, tupOf, compOf, ASt.eval, AV.strip, AV.need, AV.map, findIx, AC.ren, List.getD_cons_succ, List.getD_cons_zero, List.map_cons, List.map_nil, and_self])
      refine ⟨0, 0, ?_, rfl, fun h => ?_⟩
      · rw [decide_eq_false (by omega)]
      · omega
    · (refine RetAt.leaf ?_ ?_ <;> simp only [resOf, tupOf, compOf, ASt.eval, AV.strip, AV.need, AV.map, findIx, AC.ren, List.getD_cons_succ, List.getD_cons_zero, List.map_cons, List.map_nil, and_self])
      refine ⟨(n - 2) / 8, (n - 2) % 8 - 1, ?_, rfl, fun h => ?_⟩
      · rw [decide_eq_true (by omega)]
      · omega
end Go.Vc.Sb
