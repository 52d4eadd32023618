/- The functions of statistics: what each computes. -/
import Derived.Test.YtcjcfpbbhmhlbaaVT
import Derived.IntWalk
set_option linter.unusedVariables false
set_option linter.unusedSimpArgs false
namespace Go.Vc
open Go.Proofs Go.IntWalk
/-- the number of bits -/
def bl (n : Int) : Int := if n ≤ 0 then 0 else (Nat.log2 n.toNat : Int) + 1
theorem bl_of {n : Int} {b : Nat} (h : 2 ^ b ≤ n) (h' : n < 2 ^ (b + 1)) : bl n = b + 1 := by
  have hp : (0 : Int) < 2 ^ b := Int.pow_pos (by decide)
  unfold bl
  rw [if_neg (by omega)]
  have : Nat.log2 n.toNat = b := by
    rw [Nat.log2_eq_iff (by omega)]
    have e1 : ((2 ^ b : Nat) : Int) = 2 ^ b := by simp
    have e2 : ((2 ^ (b + 1) : Nat) : Int) = 2 ^ (b + 1) := by simp
    omega
  rw [this]
theorem bl_in {n : Int} (h : 0 < n) : ∃ b : Nat, bl n = b + 1 ∧ 2 ^ b ≤ n ∧ n < 2 ^ (b + 1) := by
  refine ⟨Nat.log2 n.toNat, ?_, ?_, ?_⟩
  · unfold bl; rw [if_neg (by omega)]
  · have := Nat.log2_self_le (n := n.toNat) (by omega)
    have e1 : ((2 ^ Nat.log2 n.toNat : Nat) : Int) = 2 ^ Nat.log2 n.toNat := by simp
    omega
  · have := Nat.lt_log2_self (n := n.toNat)
    have e1 : ((2 ^ (Nat.log2 n.toNat + 1) : Nat) : Int) = 2 ^ (Nat.log2 n.toNat + 1) := by simp
    omega
theorem bl_shift {n : Int} (k : Nat) (h : 2 ^ k ≤ n) : bl (n / 2 ^ k) + k = bl n := by
  have hp : (0 : Int) < 2 ^ k := Int.pow_pos (by decide)
  have h1 : 0 < n / 2 ^ k := by
    have : 1 ≤ n / 2 ^ k := (Int.le_ediv_iff_mul_le hp).2 (by omega)
    omega
  obtain ⟨b, e, h2, h3⟩ := bl_in h1
  rw [e]
  have h4 : (2 : Int) ^ (b + k) ≤ n := by
    rw [Int.pow_add]
    have := (Int.le_ediv_iff_mul_le hp).1 h2
    omega
  have h5 : n < (2 : Int) ^ (b + k + 1) := by
    have := (Int.ediv_lt_iff_lt_mul hp).1 h3
    rw [show b + k + 1 = (b + 1) + k by omega, Int.pow_add]
    exact this
  rw [bl_of h4 h5]
  omega
theorem bl_le {n : Int} (h : n < 2 ^ 64) : 0 ≤ bl n ∧ bl n ≤ 64 := by
  by_cases h0 : 0 < n
  · obtain ⟨b, e, h2, h3⟩ := bl_in h0
    have : b < 64 := by
      apply Classical.byContradiction
      intro hb
      have h5 : (2 : Int) ^ b = 2 ^ (b - 64) * 2 ^ 64 := by rw [← Int.pow_add]; congr 1; omega
      have h6 : (0 : Int) < 2 ^ (b - 64) := Int.pow_pos (by decide)
      omega
    omega
  · unfold bl; rw [if_pos (by omega)]; omega
theorem lenTab_size : ({ data := (([0, 1, 2, 2, 3, 3, 3, 3, 4, 4, 4, 4, 4, 4, 4, 4, 5, 5, 5, 5, 5, 5, 5, 5, 5, 5, 5, 5, 5, 5, 5, 5, 6, 6, 6, 6, 6, 6, 6, 6, 6, 6, 6, 6, 6, 6, 6, 6, 6, 6, 6, 6, 6, 6, 6, 6, 6, 6, 6, 6, 6, 6, 6, 6].append [7, 7, 7, 7, 7, 7, 7, 7, 7, 7, 7, 7, 7, 7, 7, 7, 7, 7, 7, 7, 7, 7, 7, 7, 7, 7, 7, 7, 7, 7, 7, 7, 7, 7, 7, 7, 7, 7, 7, 7, 7, 7, 7, 7, 7, 7, 7, 7, 7, 7, 7, 7, 7, 7, 7, 7, 7, 7, 7, 7, 7, 7, 7, 7]).append ([8, 8, 8, 8, 8, 8, 8, 8, 8, 8, 8, 8, 8, 8, 8, 8, 8, 8, 8, 8, 8, 8, 8, 8, 8, 8, 8, 8, 8, 8, 8, 8, 8, 8, 8, 8, 8, 8, 8, 8, 8, 8, 8, 8, 8, 8, 8, 8, 8, 8, 8, 8, 8, 8, 8, 8, 8, 8, 8, 8, 8, 8, 8, 8].append [8, 8, 8, 8, 8, 8, 8, 8, 8, 8, 8, 8, 8, 8, 8, 8, 8, 8, 8, 8, 8, 8, 8, 8, 8, 8, 8, 8, 8, 8, 8, 8, 8, 8, 8, 8, 8, 8, 8, 8, 8, 8, 8, 8, 8, 8, 8, 8, 8, 8, 8, 8, 8, 8, 8, 8, 8, 8, 8, 8, 8, 8, 8, 8])).toArray } : ByteArray).size = 256 := by decide +kernel
theorem lenTab_all : ∀ x : Fin 256, bt ({ data := (([0, 1, 2, 2, 3, 3, 3, 3, 4, 4, 4, 4, 4, 4, 4, 4, 5, 5, 5, 5, 5, 5, 5, 5, 5, 5, 5, 5, 5, 5, 5, 5, 6, 6, 6, 6, 6, 6, 6, 6, 6, 6, 6, 6, 6, 6, 6, 6, 6, 6, 6, 6, 6, 6, 6, 6, 6, 6, 6, 6, 6, 6, 6, 6].append [7, 7, 7, 7, 7, 7, 7, 7, 7, 7, 7, 7, 7, 7, 7, 7, 7, 7, 7, 7, 7, 7, 7, 7, 7, 7, 7, 7, 7, 7, 7, 7, 7, 7, 7, 7, 7, 7, 7, 7, 7, 7, 7, 7, 7, 7, 7, 7, 7, 7, 7, 7, 7, 7, 7, 7, 7, 7, 7, 7, 7, 7, 7, 7]).append ([8, 8, 8, 8, 8, 8, 8, 8, 8, 8, 8, 8, 8, 8, 8, 8, 8, 8, 8, 8, 8, 8, 8, 8, 8, 8, 8, 8, 8, 8, 8, 8, 8, 8, 8, 8, 8, 8, 8, 8, 8, 8, 8, 8, 8, 8, 8, 8, 8, 8, 8, 8, 8, 8, 8, 8, 8, 8, 8, 8, 8, 8, 8, 8].append [8, 8, 8, 8, 8, 8, 8, 8, 8, 8, 8, 8, 8, 8, 8, 8, 8, 8, 8, 8, 8, 8, 8, 8, 8, 8, 8, 8, 8, 8, 8, 8, 8, 8, 8, 8, 8, 8, 8, 8, 8, 8, 8, 8, 8, 8, 8, 8, 8, 8, 8, 8, 8, 8, 8, 8, 8, 8, 8, 8, 8, 8, 8, 8])).toArray } : ByteArray) (x.val : Int) = bl x.val := by decide +kernel
theorem lenTab (x : Int) (h0 : 0 ≤ x) (h1 : x < 256) : bt ({ data := (([0, 1, 2, 2, 3, 3, 3, 3, 4, 4, 4, 4, 4, 4, 4, 4, 5, 5, 5, 5, 5, 5, 5, 5, 5, 5, 5, 5, 5, 5, 5, 5, 6, 6, 6, 6, 6, 6, 6, 6, 6, 6, 6, 6, 6, 6, 6, 6, 6, 6, 6, 6, 6, 6, 6, 6, 6, 6, 6, 6, 6, 6, 6, 6].append [7, 7, 7, 7, 7, 7, 7, 7, 7, 7, 7, 7, 7, 7, 7, 7, 7, 7, 7, 7, 7, 7, 7, 7, 7, 7, 7, 7, 7, 7, 7, 7, 7, 7, 7, 7, 7, 7, 7, 7, 7, 7, 7, 7, 7, 7, 7, 7, 7, 7, 7, 7, 7, 7, 7, 7, 7, 7, 7, 7, 7, 7, 7, 7]).append ([8, 8, 8, 8, 8, 8, 8, 8, 8, 8, 8, 8, 8, 8, 8, 8, 8, 8, 8, 8, 8, 8, 8, 8, 8, 8, 8, 8, 8, 8, 8, 8, 8, 8, 8, 8, 8, 8, 8, 8, 8, 8, 8, 8, 8, 8, 8, 8, 8, 8, 8, 8, 8, 8, 8, 8, 8, 8, 8, 8, 8, 8, 8, 8].append [8, 8, 8, 8, 8, 8, 8, 8, 8, 8, 8, 8, 8, 8, 8, 8, 8, 8, 8, 8, 8, 8, 8, 8, 8, 8, 8, 8, 8, 8, 8, 8, 8, 8, 8, 8, 8, 8, 8, 8, 8, 8, 8, 8, 8, 8, 8, 8, 8, 8, 8, 8, 8, 8, 8, 8, 8, 8, 8, 8, 8, 8, 8, 8])).toArray } : ByteArray) x = bl x := by
  have := lenTab_all ⟨x.toNat, by omega⟩
  simp only at this
  rwa [Int.toNat_of_nonneg h0] at this
theorem shr_u64 (n : Int) (k : Nat) (hk : k ≤ 64) : shr .u64 n (k : Int) = n / 2 ^ k := by
  unfold shr
  rw [show min (k : Int).toNat IntKind.u64.bits = k by simp [IntKind.bits]; omega]
  rw [Int.fdiv_eq_ediv_of_nonneg _ (Int.le_of_lt (Int.pow_pos (by decide)))]
theorem shr32 (n : Int) : shr .u64 n 32 = n / 4294967296 := shr_u64 n 32 (by decide)
theorem shr16 (n : Int) : shr .u64 n 16 = n / 65536 := shr_u64 n 16 (by decide)
theorem shr8 (n : Int) : shr .u64 n 8 = n / 256 := shr_u64 n 8 (by decide)
set_option maxRecDepth 100000
set_option maxHeartbeats 2000000 in
theorem len64_spec (n : Int) (h0 : 0 ≤ n) (h1 : n < 18446744073709551616) : ACall Try.prog 40 [.c (.int .u64 n)] [] (fun r os => r = .c (.int .i64 (bl n)) ∧ os = []) := by
  (refine ACall.of_body (nt := 25) (rs := [.tmp 2]) tabOK Try.func40 rfl rfl rfl rfl ?_; simp only [startSt, List.length_cons, List.length_nil, Nat.reduceAdd, Nat.reduceSub, List.replicate_succ, List.replicate_zero, List.cons_append, List.nil_append])
  have g32 := fun h => bl_shift (n := n) 32 h
  have g16 := fun h => bl_shift (n := n) 16 h
  have g8 := fun h => bl_shift (n := n) 8 h
  have k16 := fun h => bl_shift (n := n / 4294967296) 16 h
  have k8 := fun h => bl_shift (n := n / 4294967296) 8 h
  have l8 := fun h => bl_shift (n := n / 65536) 8 h
  have m8 := fun h => bl_shift (n := n / 4294967296 / 65536) 8 h
  simp only [Nat.reducePow, Int.reducePow, Int.cast_ofNat_Int] at g32 g16 g8 k16 k8 l8 m8
  have b0 := bl_le (n := n) h1
  have b1 := bl_le (n := n / 4294967296) (by omega)
  have b2 := bl_le (n := n / 65536) (by omega)
  have b3 := bl_le (n := n / 256) (by omega)
  have b4 := bl_le (n := n / 4294967296 / 65536) (by omega)
  have b5 := bl_le (n := n / 4294967296 / 256) (by omega)
  have b6 := bl_le (n := n / 65536 / 256) (by omega)
  have b7 := bl_le (n := n / 4294967296 / 65536 / 256) (by omega)
  simp only [VCp, adoptC, isNilAt, ASt.renum, keepObjs, ASt.fix, AC.fixp, capsClear, qmlen, qlookup, lookRes, keyOf, kshOf, encIs, qentry, qslice3, qslice3v, xstore, xabsorb, ownSl, isRows, ownPart, abuildRows, amakeMap, AV.isA, amapUpdate, amapDelete, arange, anext, appRows, aappRows, aclear, AC.absorb, AC.shallow, ASt.shallow, AC.merge, encL, XObj.amap, XObj.below, nilZero, amakePlain, KA.ac, avc_done, avc_stop, avc_take, avc_alt, qstep, lstep, ownLoad, put_n0, VC_skip, VC_label, VC_region, VC_draw, VC_seq, VC_cond, VC_block, VC_loop, VC_exit, VC_ret, aops_nil, aops_cons, put_some, put_none, aop, qop, isQuiet, ASt.eval, ASt.ev, AV.strip, AV.need, AV.ac, AV.cells, AV.isTup, onG, guardOf, qbin, binInt, binStr, binBool, qpick, qpick0, qun, qmax, qmin, qlen, qindexAddr, qfieldAddr, qfield, qindex, qload, qconvert, qslice, within, cutLo, cutHi, qextract, qbuild, fillParts, structPlace, splice, needAll, ned, partsOf, fitAll, AC.fits, capsOf, astore, amake, abuildSlice, elems, setPart, appSrc, aappend, nilTest, aconv, newObj, ASt.setObj, ASt.obj, ASt.map, ASt.freeze, frzRefs, AV.map, AObj.map, AC.frz, AC.kill, dvs, AC.dv, DV.ac, leD, leD1, ofCells, TI.isAgg, isScalar, avOf, acOf, adopt, findIx, AC.ren, AC.ren.renCaps, backIx, giveBack, afterCall, callArg, AC.view, frzF, acopy, intsEq, aappZeros, encM, eInt, eBool, eStr, eList, ePair, encU8, List.getLast?_concat, List.getLast?_append, List.getLast?_singleton, Option.some_or, List.getD_cons_succ, List.getD_cons_zero, List.getD_nil, List.set_cons_succ, List.set_cons_zero, List.set_nil, List.map_cons, List.map_nil, List.replicate_succ, List.replicate_zero, List.cons_append, List.nil_append, List.append_nil, List.length_cons, List.length_nil, List.length_append, List.drop_succ_cons, List.drop_zero, List.drop_nil, List.take_succ_cons, List.take_zero, List.take_nil, List.headD_cons, List.all_cons, List.all_nil, List.flatMap_cons, List.flatMap_nil, List.range_zero, List.getElem?_toArray, List.getElem?_cons_succ, List.getElem?_cons_zero, List.getElem?_nil, List.contains_cons, List.contains_nil, Option.bind_some, Option.map_some, Option.map_none, Option.toList_some, Option.toList_none, Option.getD_some, Option.getD_none, Int.reduceLT, Int.reduceLE, Int.reduceEq, Int.reduceAdd, Int.reduceSub, Int.reduceMul, Int.reduceNeg, Nat.reduceLT, Int.cast_ofNat_Int, Int.natCast_add, ↓ex_rfl, cast_eq, AV.c.injEq, AC.int.injEq, AC.bool.injEq, AC.str.injEq, AC.rd.injEq, AC.md.injEq, AObj.row.injEq, AObj.cells.injEq, heq_eq_eq, DV.int.injEq, DV.bool.injEq, DV.str.injEq, exists_eq_left', exists_eq_left, Int.toNat_natCast, Int.reduceToNat, List.length_set, implies_true, imp_self, beq_false, beq_true, decide_eq_true_eq, decide_eq_false_iff_not, Bool.not_eq_true', Bool.cond_true_left, Bool.cond_false_right, Bool.or_eq_true, Bool.and_eq_true, Bool.or_eq_false_iff, Bool.and_eq_false_iff, Int.not_lt, Int.not_le, true_and, and_true, and_self, forall_const, reduceCtorEq, false_implies, not_false_eq_true, Bool.and_true, Bool.true_and, Bool.and_false, Bool.false_and, Bool.false_eq_true, Bool.true_eq_false, Bool.not_true, Bool.not_false, cond_true, cond_false, beq_self_eq_true, if_true, if_false, Nat.add_zero, Nat.zero_add, Nat.reduceAdd, Nat.reduceSub, Nat.reduceMul, Nat.reduceBEq, Nat.reduceEqDiff, Nat.reduceLeDiff, Nat.not_le, Nat.le_refl, eq_self, ne_eq, Nat.succ_ne_self, Nat.one_ne_zero, decide_true, decide_false, and_false, false_and, or_true, true_or, or_false, false_or, tab_2, tab_3, tab_4, tab_5, tab_9, tab_12, tab_15, tab_16, tab_17, tab_21, tab_22, tab_23, tab_24, tab_25, tab_26, tab_27, tab_28, tab_35, tab_39, tab_40, tab_41, tab_46, tab_50, tab_62, tab_63, tab_64, tab_67, tab_70, tab_73, tab_74, tab_78, tab_80, tab_94, tab_103, tab_107, tab_116, tab_120, tab_122, tab_134, lenTab_size, shr32, shr16, shr8]
  repeat' (first | (with_reducible apply And.intro) | (with_reducible intro _))
  all_goals first
    | omega
    | (simp only [IntKind.wrap_u8]; omega)
    | ((refine RetAt.leaf ?_ ?_ <;> simp only [resOf, tupOf, compOf, keepObjs, adoptC, isNilAt, ASt.renum, keepObjs, ASt.fix, AC.fixp, capsClear, qmlen, qlookup, lookRes, keyOf, kshOf, encIs, qentry, qslice3, qslice3v, xstore, xabsorb, ownSl, isRows, ownPart, abuildRows, amakeMap, AV.isA, amapUpdate, amapDelete, arange, anext, appRows, aappRows, aclear, AC.absorb, AC.shallow, ASt.shallow, AC.merge, encL, XObj.amap, XObj.below, nilZero, amakePlain, KA.ac, avc_done, avc_stop, avc_take, avc_alt, qstep, lstep, ownLoad, put_n0, VC_skip, VC_label, VC_region, VC_draw, VC_seq, VC_cond, VC_block, VC_loop, VC_exit, VC_ret, aops_nil, aops_cons, put_some, put_none, aop, qop, isQuiet, ASt.eval, ASt.ev, AV.strip, AV.need, AV.ac, AV.cells, AV.isTup, onG, guardOf, qbin, binInt, binStr, binBool, qpick, qpick0, qun, qmax, qmin, qlen, qindexAddr, qfieldAddr, qfield, qindex, qload, qconvert, qslice, within, cutLo, cutHi, qextract, qbuild, fillParts, structPlace, splice, needAll, ned, partsOf, fitAll, AC.fits, capsOf, astore, amake, abuildSlice, elems, setPart, appSrc, aappend, nilTest, aconv, newObj, ASt.setObj, ASt.obj, ASt.map, ASt.freeze, frzRefs, AV.map, AObj.map, AC.frz, AC.kill, dvs, AC.dv, DV.ac, leD, leD1, ofCells, TI.isAgg, isScalar, avOf, acOf, adopt, findIx, AC.ren, AC.ren.renCaps, backIx, giveBack, afterCall, callArg, AC.view, frzF, acopy, intsEq, aappZeros, encM, eInt, eBool, eStr, eList, ePair, encU8, List.getLast?_concat, List.getLast?_append, List.getLast?_singleton, Option.some_or, List.getD_cons_succ, List.getD_cons_zero, List.getD_nil, List.set_cons_succ, List.set_cons_zero, List.set_nil, List.map_cons, List.map_nil, List.replicate_succ, List.replicate_zero, List.cons_append, List.nil_append, List.append_nil, List.length_cons, List.length_nil, List.length_append, List.drop_succ_cons, List.drop_zero, List.drop_nil, List.take_succ_cons, List.take_zero, List.take_nil, List.headD_cons, List.all_cons, List.all_nil, List.flatMap_cons, List.flatMap_nil, List.range_zero, List.getElem?_toArray, List.getElem?_cons_succ, List.getElem?_cons_zero, List.getElem?_nil, List.contains_cons, List.contains_nil, Option.bind_some, Option.map_some, Option.map_none, Option.toList_some, Option.toList_none, Option.getD_some, Option.getD_none, Int.reduceLT, Int.reduceLE, Int.reduceEq, Int.reduceAdd, Int.reduceSub, Int.reduceMul, Int.reduceNeg, Nat.reduceLT, Int.cast_ofNat_Int, Int.natCast_add, ↓ex_rfl, cast_eq, AV.c.injEq, AC.int.injEq, AC.bool.injEq, AC.str.injEq, AC.rd.injEq, AC.md.injEq, AObj.row.injEq, AObj.cells.injEq, heq_eq_eq, DV.int.injEq, DV.bool.injEq, DV.str.injEq, exists_eq_left', exists_eq_left, Int.toNat_natCast, Int.reduceToNat, List.length_set, implies_true, imp_self, beq_false, beq_true, decide_eq_true_eq, decide_eq_false_iff_not, Bool.not_eq_true', Bool.cond_true_left, Bool.cond_false_right, Bool.or_eq_true, Bool.and_eq_true, Bool.or_eq_false_iff, Bool.and_eq_false_iff, Int.not_lt, Int.not_le, true_and, and_true, and_self, forall_const, reduceCtorEq, false_implies, not_false_eq_true, Bool.and_true, Bool.true_and, Bool.and_false, Bool.false_and, Bool.false_eq_true, Bool.true_eq_false, Bool.not_true, Bool.not_false, cond_true, cond_false, beq_self_eq_true, if_true, if_false, Nat.add_zero, Nat.zero_add, Nat.reduceAdd, Nat.reduceSub, Nat.reduceMul, Nat.reduceBEq, Nat.reduceEqDiff, Nat.reduceLeDiff, Nat.not_le, Nat.le_refl, eq_self, ne_eq, Nat.succ_ne_self, Nat.one_ne_zero, decide_true, decide_false, and_false, false_and, or_true, true_or, or_false, false_or, tab_2, tab_3, tab_4, tab_5, tab_9, tab_12, tab_15, tab_16, tab_17, tab_21, tab_22, tab_23, tab_24, tab_25, tab_26, tab_27, tab_28, tab_35, tab_39, tab_40, tab_41, tab_46, tab_50, tab_62, tab_63, tab_64, tab_67, tab_70, tab_73, tab_74, tab_78, tab_80, tab_94, tab_103, tab_107, tab_116, tab_120, tab_122, tab_134]); simp (disch := omega) only [u8_in, lenTab, i64_in]; omega)
end Go.Vc
