/- Three texts one behind the other. -/
import Derived.Test.YtmikejeohdleeaaHC
set_option linter.unusedVariables false
set_option linter.unusedSimpArgs false
namespace Go.Vc
open Go.Proofs Go.IntWalk
set_option maxRecDepth 100000
def GrowQ (N : Nat) (r : AV) (os : List AObj) : Prop := (N = 0 → r = .c .nil ∧ os = []) ∧ (0 < N → r = .c (.sub 0 1 0 0) ∧ os = [rowU (zeros N 0)])
set_option maxHeartbeats 4000000 in
theorem grow_spec (N : Nat) (hN : N ≤ 140737488355328) : ACall Try.prog 102 [.c .nil, .c (.int .i64 N)] [] (GrowQ N) := by
  (refine ACall.of_body (nt := 27) (rs := [.tmp 4]) tabOK Try.func102 rfl rfl rfl rfl ?_; simp only [startSt, List.length_cons, List.length_nil, Nat.reduceAdd, Nat.reduceSub, List.replicate_succ, List.replicate_zero, List.cons_append, List.nil_append])
  simp only [VCp, VC_skip, VC_region, VC_seq, VC_cond, VC_ret, aops_nil, aops_cons, put_some, aop, qop, isQuiet, ASt.eval, AV.need, AV.ac, AV.isTup, qbin, binInt, qlen, qslice, cutLo, cutHi, needAll, ned, newObj, ASt.obj, isScalar, avOf, acOf, aappZeros, eInt, eList, List.getD_cons_succ, List.getD_cons_zero, List.set_cons_succ, List.set_cons_zero, List.map_cons, List.map_nil, List.nil_append, List.length_nil, Option.map_some, Option.map_none, Option.toList_some, Option.toList_none, Int.reduceLE, Int.reduceSub, Int.cast_ofNat_Int, Int.reduceToNat, decide_eq_true_eq, decide_eq_false_iff_not, Int.not_lt, true_and, and_self, not_false_eq_true, Bool.and_true, cond_true, beq_self_eq_true, Nat.reduceSub, eq_self, Nat.succ_ne_self, tab_3, tab_5, tab_29]
  have hw2 : IntKind.i64.wrap ((N : Int) - 0) = N := by exact i64_in _ (by omega)
  have hw0 : IntKind.i64.wrap 0 = 0 := i64_in 0 (by omega)
  simp only [hw0, hw2]
  refine ⟨fun h => absurd h (by omega), fun h => ⟨fun h => ?_, fun h => ?_⟩⟩
  · repeat' (first | (with_reducible apply And.intro) | (with_reducible intro _))
    all_goals first | omega | skip
    refine RetAt.keeping [0] (by decide) ?_ ?_ <;> simp only [resOf, tupOf, keepObjs, keepObjs, XObj.amap, ASt.eval, AV.strip, AV.need, AV.map, AObj.map, findIx, AC.ren, List.getD_cons_succ, List.getD_cons_zero, List.map_cons, List.map_nil, Int.toNat_natCast, and_self, cond_true, beq_self_eq_true]
    exact ⟨fun e => by omega, fun _ => ⟨rfl, rfl⟩⟩
  · (refine RetAt.leaf ?_ ?_ <;> simp only [resOf, tupOf, ASt.eval, AV.strip, AV.need, AV.map, AC.ren, List.getD_cons_succ, List.getD_cons_zero, and_self])
    exact ⟨fun _ => ⟨rfl, rfl⟩, fun e => by omega⟩
abbrev encLL : List Int → List DV := fun xs => [.list 1 Int 0 (fun n => [.int .u8 n]) xs]
theorem flat_take {xss : List (List Int)} {i : Nat} (h : i < xss.length) : (xss.take (i + 1)).flatten = (xss.take i).flatten ++ xss.getD i [] := by
  rw [take_next xss i [] h, List.flatten_append]
  simp
theorem flat_le {xss : List (List Int)} (i : Nat) : (xss.take i).flatten.length ≤ xss.flatten.length := by
  have h : (xss.take i ++ xss.drop i).flatten.length = xss.flatten.length := by rw [List.take_append_drop]
  rw [List.flatten_append, List.length_append] at h
  omega
theorem zeros_splice {a y : List Int} {M : Nat} (h : y.length ≤ M) : (a ++ zeros M 0).take a.length ++ y ++ (a ++ zeros M 0).drop (a.length + y.length) = a ++ y ++ zeros (M - y.length) 0 := by
  unfold zeros
  rw [List.take_left, ← List.drop_drop, List.drop_left, List.drop_replicate]
set_option maxHeartbeats 4000000 in
theorem concat_spec (xss : List (List Int)) (hx : xss.length ≤ 1000) (hl : xss.flatten.length ≤ 140737488355328) :
    ACall Try.prog 84 [.c (.rd 1 (List Int) [] encLL xss)] [] (fun r os => r = .c (.rd 1 Int 0 (fun n => [.int .u8 n]) xss.flatten) ∧ os = []) := by
  (refine ACall.of_body (nt := 36) (rs := [.tmp 2]) tabOK Try.func84 rfl rfl rfl rfl ?_; simp only [startSt, List.length_cons, List.length_nil, Nat.reduceAdd, Nat.reduceSub, List.replicate_succ, List.replicate_zero, List.cons_append, List.nil_append])
  simp only [VCp, VC_region, VC_seq, VC_block, VC_loop, aops_nil, aops_cons, put_some, qop, isQuiet, ASt.eval, AV.need, AV.ac, qlen, avOf, acOf, eInt, eList, List.getD_cons_succ, List.getD_cons_zero, List.set_cons_succ, List.set_cons_zero, true_and, and_self, Bool.and_true, cond_true, beq_self_eq_true, tab_59]
  refine LoopAt.inv (ι := Nat) (T := tab) (fun i => [(11, .c (.int .i64 i)), (3, .c (.int .i64 ((xss.take i).flatten.length : Nat)))]) (fun i => [])
    (fun i => i ≤ xss.length) (fun i => xss.length - i) tabOK 0 (Nat.zero_le _) ?_ ?_
  · (simp only [LessC, headSt, dsts, opDsts, resetS, putsS, lessS, lessO, belowS, belowO, AV.below, AC.below, List.set_cons_succ, List.set_cons_zero, List.cons_append, List.nil_append, List.append_nil, List.length_nil, List.take_zero, Int.cast_ofNat_Int, AV.c.injEq, AC.int.injEq, true_and, and_true, and_self, reduceCtorEq, Bool.and_true, Nat.le_refl, eq_self, or_true, false_or] <;> try omega)
    rfl
  intro i hi
  simp only [VCp, headSt, dsts, opDsts, resetS, putsS, VC_skip, VC_region, VC_seq, VC_cond, VC_block, VC_exit, aops_nil, aops_cons, put_some, aop, qop, isQuiet, ASt.eval, ASt.ev, AV.strip, AV.need, AV.ac, AV.isTup, qbin, binInt, qlen, qindexAddr, qload, ned, DV.ac, ofCells, TI.isAgg, isScalar, avOf, acOf, eInt, eList, List.getD_cons_succ, List.getD_cons_zero, List.set_cons_succ, List.set_cons_zero, List.map_cons, List.map_nil, List.cons_append, List.nil_append, List.append_nil, List.length_cons, List.length_nil, List.take_succ_cons, List.take_nil, List.headD_cons, Int.toNat_natCast, decide_eq_true_eq, decide_eq_false_iff_not, Int.not_lt, true_and, and_self, not_false_eq_true, Bool.and_true, cond_true, beq_self_eq_true, if_true, Nat.zero_add, Nat.le_refl, eq_self, Nat.succ_ne_self, tab_3, tab_29, tab_59]
  refine ⟨fun h => ?_, fun h => ?_⟩
  · have hi' : i < xss.length := by omega
    have h1 := flat_le (xss := xss) (i + 1)
    have h2 := flat_take hi'
    have h3 : (xss.take (i + 1)).flatten.length = (xss.take i).flatten.length + (xss.getD i []).length := by rw [h2, List.length_append]
    have hw : IntKind.i64.wrap (((xss.take i).flatten.length : Int) + ((xss.getD i []).length : Int)) = ((xss.take (i + 1)).flatten.length : Nat) := by rw [i64_in _ (by omega), h3]; omega
    simp only [hw]
    refine ⟨⟨by omega, by omega⟩, fun hneg => absurd hneg (by omega), fun _ => ⟨i + 1, by omega, by omega, ?_⟩⟩
    (simp only [LessC, lessS, lessO, belowS, belowO, AV.below, AC.below, List.length_nil, Int.cast_ofNat_Int, Int.natCast_add, AV.c.injEq, AC.int.injEq, true_and, and_true, and_self, reduceCtorEq, Bool.and_true, Nat.le_refl, eq_self, or_true, or_false, false_or] <;> try omega)
    exact i64_in _ (by omega)
  have : i = xss.length := by omega
  subst this
  rw [List.take_length]
  refine CallAt.plain (grow_spec xss.flatten.length hl) rfl ?_
  rintro r os ⟨hz, hp⟩
  by_cases hN : xss.flatten.length = 0
  · obtain ⟨rfl, rfl⟩ := hz hN
    simp only [VC_region, VC_seq, VC_block, VC_loop, aops_nil, aops_cons, put_some, qop, isQuiet, ASt.eval, AV.need, AV.ac, qlen, AV.map, avOf, acOf, AC.ren, giveBack, afterCall, eInt, eList, List.getD_cons_succ, List.getD_cons_zero, List.set_cons_succ, List.set_cons_zero, List.map_nil, List.append_nil, List.length_nil, true_and, and_self, tab_59]
    refine LoopAt.thenFreeze 0 ?_
    refine LoopAt.adopt 6 5 1 Int 0 (fun n => [.int .u8 n]) rfl (fun _ => rfl) ?_
    simp only [newObj, ASt.setObj, ASt.obj, ASt.map, ASt.freeze, adopt, List.set_cons_succ, List.set_cons_zero, List.nil_append, List.length_nil]
    refine LoopAt.inv (ι := Nat) (T := tab) (fun i => [(27, .c (.int .i64 i)), (6, .c (.sl 0))]) (fun i => [rowU (xss.take i).flatten])
      (fun i => i ≤ xss.length) (fun i => xss.length - i) tabOK 0 (Nat.zero_le _) ?_ ?_
    · (simp only [LessC, headSt, dsts, opDsts, resetS, putsS, lessS, lessO, belowS, belowO, AV.below, AObj.below, AC.below, List.set_cons_succ, List.set_cons_zero, List.cons_append, List.nil_append, List.append_nil, List.length_cons, List.length_nil, List.take_zero, Nat.reduceLT, Int.cast_ofNat_Int, AV.c.injEq, AObj.row.injEq, heq_eq_eq, true_and, and_true, and_self, reduceCtorEq, Bool.and_true, Nat.zero_add, Nat.reduceLeDiff, eq_self, decide_true, or_true] <;> try omega)
      rfl
    intro i hi
    simp only [VCp, headSt, dsts, opDsts, resetS, putsS, appRows, VC_skip, VC_region, VC_seq, VC_cond, VC_block, VC_exit, VC_ret, aops_nil, aops_cons, put_some, aop, qop, isQuiet, ASt.eval, AV.need, AV.ac, AV.isTup, qbin, binInt, qindexAddr, qload, ned, appSrc, aappend, ASt.setObj, ASt.obj, ASt.map, AV.map, AObj.map, AC.frz, AC.kill, DV.ac, ofCells, TI.isAgg, isScalar, avOf, acOf, eInt, eList, List.getD_cons_succ, List.getD_cons_zero, List.set_cons_succ, List.set_cons_zero, List.map_cons, List.map_nil, List.cons_append, List.nil_append, List.append_nil, List.length_cons, List.length_nil, List.take_succ_cons, List.take_nil, List.headD_cons, ↓ex_rfl, cast_eq, heq_eq_eq, Int.toNat_natCast, decide_eq_true_eq, decide_eq_false_iff_not, Int.not_lt, true_and, and_self, not_false_eq_true, cond_true, beq_self_eq_true, if_true, Nat.zero_add, Nat.le_refl, eq_self, Nat.succ_ne_self, tab_3, tab_5, tab_29, tab_59]
    refine ⟨fun h => ?_, fun h => ?_⟩
    · have hi' : i < xss.length := by omega
      have h1 := flat_le (xss := xss) (i + 1)
      have h2 := flat_take hi'
      have h3 : (xss.take (i + 1)).flatten.length = (xss.take i).flatten.length + (xss.getD i []).length := by rw [h2, List.length_append]
      repeat' (first | (with_reducible apply And.intro) | (with_reducible intro _))
      all_goals first | omega | skip
      refine ⟨i + 1, by omega, by omega, ?_⟩
      (simp only [LessC, lessS, lessO, belowS, belowO, AV.below, AObj.below, AC.below, List.length_cons, List.length_nil, Nat.reduceLT, Int.cast_ofNat_Int, Int.natCast_add, AV.c.injEq, AC.int.injEq, AObj.row.injEq, heq_eq_eq, true_and, and_true, and_self, reduceCtorEq, Bool.and_true, Nat.zero_add, Nat.reduceLeDiff, eq_self, decide_true, or_true, or_false, false_or] <;> try omega)
      exact ⟨i64_in _ (by omega), h2.symm⟩
    · have : i = xss.length := by omega
      subst this
      rw [List.take_length]
      (refine RetAt.leaf ?_ ?_ <;> simp only [resOf, tupOf, ASt.eval, AV.strip, AV.need, AV.map, AC.ren, List.getD_cons_succ, List.getD_cons_zero, and_self, eq_self])
  · obtain ⟨rfl, rfl⟩ := hp (by omega)
    simp only [VC_region, VC_seq, VC_block, VC_loop, aops_nil, aops_cons, put_some, qop, isQuiet, ASt.eval, AV.need, AV.ac, qlen, AV.map, AObj.map, avOf, acOf, AC.ren, backIx, giveBack, afterCall, eInt, eList, List.getD_cons_succ, List.getD_cons_zero, List.set_cons_succ, List.set_cons_zero, List.map_cons, List.map_nil, List.nil_append, List.length_nil, List.getElem?_nil, true_and, and_self, Nat.add_zero, Nat.reduceSub, tab_59]
    refine LoopAt.thenFreeze 0 ?_
    refine LoopAt.inv (ι := Nat) (T := tab) (fun i => [(27, .c (.int .i64 i)), (6, .c (.sub 0 1 0 (xss.take i).flatten.length))]) (fun i => [rowU ((xss.take i).flatten ++ zeros (xss.flatten.length - (xss.take i).flatten.length) 0)])
      (fun i => i ≤ xss.length) (fun i => xss.length - i) tabOK 0 (Nat.zero_le _) ?_ ?_
    · (simp only [LessC, headSt, dsts, opDsts, resetS, putsS, lessS, lessO, belowS, belowO, AV.below, AObj.below, AC.below, List.set_cons_succ, List.set_cons_zero, List.cons_append, List.nil_append, List.append_nil, List.length_cons, List.length_nil, List.take_zero, Nat.reduceLT, Int.cast_ofNat_Int, AV.c.injEq, AObj.row.injEq, heq_eq_eq, true_and, and_true, and_self, reduceCtorEq, Bool.and_true, Nat.zero_add, Nat.reduceLeDiff, eq_self, decide_true, or_true, false_or] <;> try omega)
      simp
    intro i hi
    have h0 := flat_le (xss := xss) i
    have hlen : ((xss.take i).flatten ++ zeros (xss.flatten.length - (xss.take i).flatten.length) (0 : Int)).length = xss.flatten.length := by rw [List.length_append, zeros_len]; omega
    simp only [VCp, headSt, dsts, opDsts, resetS, putsS, appRows, VC_skip, VC_region, VC_seq, VC_cond, VC_block, VC_exit, VC_ret, aops_nil, aops_cons, put_some, aop, qop, isQuiet, ASt.eval, AV.need, AV.ac, AV.isTup, qbin, binInt, qindexAddr, qload, splice, ned, appSrc, aappend, ASt.setObj, ASt.obj, ASt.map, ASt.freeze, AV.map, AObj.map, AC.frz, DV.ac, ofCells, TI.isAgg, isScalar, avOf, acOf, eInt, eList, List.getD_cons_succ, List.getD_cons_zero, List.set_cons_succ, List.set_cons_zero, List.map_cons, List.map_nil, List.cons_append, List.nil_append, List.append_nil, List.length_cons, List.length_nil, List.length_append, List.drop_zero, List.take_succ_cons, List.take_zero, List.take_nil, List.headD_cons, ↓ex_rfl, cast_eq, heq_eq_eq, Int.toNat_natCast, decide_eq_true_eq, decide_eq_false_iff_not, Int.not_lt, true_and, and_self, not_false_eq_true, cond_true, beq_self_eq_true, if_true, Nat.zero_add, Nat.le_refl, eq_self, Nat.succ_ne_self, tab_3, tab_5, tab_29, tab_59, zeros_len]
    refine ⟨fun h => ?_, fun h => ?_⟩
    · have hi' : i < xss.length := by omega
      have h1 := flat_le (xss := xss) (i + 1)
      have h2 := flat_take hi'
      have h3 : (xss.take (i + 1)).flatten.length = (xss.take i).flatten.length + (xss.getD i []).length := by rw [h2, List.length_append]
      have h4 := zeros_splice (a := (xss.take i).flatten) (y := xss.getD i []) (M := xss.flatten.length - (xss.take i).flatten.length) (by omega)
      repeat' (first | (with_reducible apply And.intro) | (with_reducible intro _))
      all_goals first | omega | skip
      refine ⟨i + 1, by omega, by omega, ?_⟩
      (simp only [LessC, lessS, lessO, belowS, belowO, AV.below, AObj.below, AC.below, List.length_cons, List.length_nil, Nat.reduceLT, Int.cast_ofNat_Int, Int.natCast_add, AV.c.injEq, AC.int.injEq, AObj.row.injEq, heq_eq_eq, true_and, and_true, and_self, reduceCtorEq, Bool.and_true, Nat.zero_add, Nat.reduceLeDiff, eq_self, decide_true, or_true, or_false, false_or] <;> try omega)
      refine ⟨⟨by rw [h3], i64_in _ (by omega)⟩, ?_⟩
      rw [h4, h2, List.length_append, Nat.sub_sub]
    · have : i = xss.length := by omega
      subst this
      rw [List.take_length]
      (refine RetAt.leaf ?_ ?_ <;> simp only [resOf, tupOf, ASt.eval, AV.strip, AV.need, AV.map, AC.ren, List.getD_cons_succ, List.getD_cons_zero, AV.c.injEq, AC.rd.injEq, heq_eq_eq, true_and, and_true, and_self, eq_self])
      exact List.take_left
end Go.Vc
