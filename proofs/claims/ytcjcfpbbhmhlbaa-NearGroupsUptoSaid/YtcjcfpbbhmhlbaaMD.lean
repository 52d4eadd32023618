/- The shingles of a text; what two lists have in common. -/
import Derived.Test.YtcjcfpbbhmhlbaaMC
set_option linter.unusedVariables false
set_option linter.unusedSimpArgs false
namespace Go.Vc.Ne
open Go.Proofs Go.IntWalk
set_option maxRecDepth 100000
def piece4 (xs : List Int) (i : Nat) : ByteArray := strOf ((xs.drop i).take 4)
def shU (xs : List Int) (k : Nat) : List ByteArray := (List.range k).map (piece4 xs)
def shS (xs : List Int) : List ByteArray := if 0 < xs.length ∧ xs.length < 4 then [strOf xs] else cpt (sortS (shU xs (xs.length - 3))) (sortS (shU xs (xs.length - 3))).length
def ShR (ss : List ByteArray) (r : AV) (os : List AObj) : Prop := (r = .c (.sl 0) ∧ os = [rowS ss]) ∨ ∃ zs m, r = .c (.sub 0 1 0 m) ∧ os = [rowS zs] ∧ zs.take m = ss ∧ m ≤ zs.length
abbrev rB (xs : List Int) : AC := .rd 1 Int 0 encU8 xs
theorem shU_len {xs : List Int} {k : Nat} : (shU xs k).length = k := by simp [shU]
theorem shU_next {xs : List Int} {k : Nat} : shU xs (k + 1) = shU xs k ++ [piece4 xs k] := by simp [shU, List.range_succ]
set_option maxHeartbeats 8000000 in
theorem shingles_spec (xs : List Int) (hl : xs.length ≤ 1048576) : ACall Try.prog 36 [.c (rB xs)] [] (ShR (shS xs)) := by
  by_cases hs : 0 < xs.length ∧ xs.length < 4
  · have z1 : ((0 : Int) < (xs.length : Int)) = True := eq_true (by omega)
    have z2 : ((xs.length : Int) < 4) = True := eq_true (by omega)
    have e : shS xs = [strOf xs] := if_pos hs
    (refine ACall.of_body (nt := 38) (rs := [.tmp 2]) tabOK Try.func36 rfl rfl rfl rfl ?_; simp only [startSt, List.length_cons, List.length_nil, Nat.reduceAdd, Nat.reduceSub, List.replicate_succ, List.replicate_zero, List.cons_append, List.nil_append])
    unfold rB encU8
    simp only [VCp, ownSl, ownPart, VC_skip, VC_region, VC_seq, VC_cond, VC_block, VC_loop, VC_ret, aops_nil, aops_cons, put_some, aop, qop, isQuiet, ASt.eval, AV.need, AV.ac, AV.cells, AV.isTup, onG, guardOf, qbin, binInt, qpick, qpick0, qlen, needAll, ned, partsOf, fitAll, AC.fits, abuildSlice, elems, setPart, appSrc, aconv, newObj, frzRefs, dvs, AC.dv, leD, leD1, isScalar, avOf, acOf, eInt, eStr, eList, List.getD_cons_succ, List.getD_cons_zero, List.set_cons_succ, List.set_cons_zero, List.map_cons, List.map_nil, List.replicate_succ, List.replicate_zero, List.nil_append, List.append_nil, List.length_cons, List.length_nil, List.all_cons, List.all_nil, List.flatMap_cons, List.flatMap_nil, List.getElem?_cons_succ, List.getElem?_cons_zero, Option.bind_some, Nat.reduceLT, ↓ex_rfl, cast_eq, heq_eq_eq, DV.str.injEq, exists_eq_left', implies_true, true_and, and_true, and_self, forall_const, false_implies, not_false_eq_true, Bool.and_true, Bool.true_eq_false, cond_true, beq_self_eq_true, Nat.zero_add, Nat.reduceMul, Nat.reduceLeDiff, eq_self, Nat.succ_ne_self, decide_true, tab_3, tab_5, tab_9, tab_22, tab_74, z1, z2]
    refine ⟨rfl, ?_⟩
    refine RetAt.keeping [0] (by decide) ?_ ?_ <;> simp only [resOf, tupOf, keepObjs, keepObjs, XObj.amap, ASt.eval, AV.strip, AV.need, AV.map, AObj.map, findIx, AC.ren, List.getD_cons_succ, List.getD_cons_zero, List.map_cons, List.map_nil, and_self, cond_true, beq_self_eq_true]
    exact .inl ⟨rfl, by rw [e]⟩
  · have e : shS xs = cpt (sortS (shU xs (xs.length - 3))) (sortS (shU xs (xs.length - 3))).length := if_neg hs
    have w1 : IntKind.i64.wrap ((xs.length : Int) - 4) = (xs.length : Int) - 4 := i64_in _ (by omega)
    have w2 : IntKind.i64.wrap ((xs.length : Int) - 4 + 1) = (xs.length : Int) - 3 := by rw [i64_in _ (by omega)]; omega
    by_cases h0 : xs.length = 0
    · have z1 : ((0 : Int) < (xs.length : Int)) = False := eq_false (by omega)
      (refine ACall.of_body (nt := 38) (rs := [.tmp 2]) tabOK Try.func36 rfl rfl rfl rfl ?_; simp only [startSt, List.length_cons, List.length_nil, Nat.reduceAdd, Nat.reduceSub, List.replicate_succ, List.replicate_zero, List.cons_append, List.nil_append])
      unfold rB encU8
      simp only [VCp, ownSl, ownPart, VC_skip, VC_region, VC_seq, VC_cond, VC_block, VC_loop, VC_ret, aops_nil, aops_cons, put_some, aop, qop, isQuiet, ASt.eval, AV.need, AV.ac, AV.cells, AV.isTup, onG, guardOf, qbin, binInt, qpick, qpick0, qlen, needAll, ned, partsOf, fitAll, AC.fits, abuildSlice, elems, setPart, appSrc, aconv, newObj, frzRefs, dvs, AC.dv, leD, leD1, isScalar, avOf, acOf, eInt, eStr, eList, List.getD_cons_succ, List.getD_cons_zero, List.set_cons_succ, List.set_cons_zero, List.map_cons, List.map_nil, List.replicate_succ, List.replicate_zero, List.nil_append, List.append_nil, List.length_cons, List.length_nil, List.all_cons, List.all_nil, List.flatMap_cons, List.flatMap_nil, List.getElem?_cons_succ, List.getElem?_cons_zero, Option.bind_some, Nat.reduceLT, ↓ex_rfl, cast_eq, heq_eq_eq, DV.str.injEq, exists_eq_left', implies_true, imp_self, beq_true, true_and, and_true, and_self, forall_const, false_implies, not_false_eq_true, Bool.and_true, Bool.and_false, Bool.false_eq_true, cond_true, cond_false, beq_self_eq_true, Nat.zero_add, Nat.reduceMul, Nat.reduceLeDiff, eq_self, Nat.succ_ne_self, decide_false, tab_3, tab_5, tab_9, tab_22, tab_74, z1, w1, w2]
      refine LoopAt.adopt 3 9 1 ByteArray ⟨#[]⟩ (fun s => [.str s]) rfl (fun _ => rfl) ?_
      simp only [newObj, adopt, List.set_cons_succ, List.set_cons_zero, List.nil_append, List.length_nil]
      refine LoopAt.inv (ι := Nat) (T := tab) (fun i => [(21, .c (.int .i64 i)), (3, .c (.sl 0))]) (fun i => [rowS (shU xs i)]) (fun i => i ≤ xs.length - 3) (fun i => xs.length - i) tabOK 0 (Nat.zero_le _) ?_ ?_
      · (simp only [LessC, headSt, dsts, opDsts, resetS, putsS, lessS, lessO, belowS, belowO, AV.below, AObj.below, AC.below, List.set_cons_succ, List.set_cons_zero, List.cons_append, List.nil_append, List.append_nil, List.length_cons, List.length_nil, Nat.reduceLT, Int.cast_ofNat_Int, AV.c.injEq, AObj.row.injEq, heq_eq_eq, true_and, and_true, and_self, reduceCtorEq, Bool.and_true, Nat.zero_add, Nat.reduceLeDiff, eq_self, decide_true, or_true] <;> try omega)
        rfl
      intro i hi
      have hul := shU_len (xs := xs) (k := i)
      simp only [VCp, headSt, dsts, opDsts, resetS, putsS, ownSl, ownPart, appRows, VC_skip, VC_region, VC_seq, VC_cond, VC_block, VC_exit, aops_nil, aops_cons, put_some, aop, qop, isQuiet, ASt.eval, ASt.ev, AV.strip, AV.need, AV.ac, AV.cells, AV.isTup, qbin, binInt, qslice, cutLo, cutHi, needAll, ned, partsOf, fitAll, AC.fits, abuildSlice, elems, setPart, appSrc, aappend, aconv, newObj, ASt.setObj, ASt.obj, ASt.map, frzRefs, AV.map, AObj.map, AC.kill, dvs, AC.dv, leD, leD1, isScalar, avOf, acOf, eInt, eStr, eList, List.getD_cons_succ, List.getD_cons_zero, List.set_cons_succ, List.set_cons_zero, List.map_cons, List.map_nil, List.replicate_succ, List.replicate_zero, List.cons_append, List.nil_append, List.append_nil, List.length_cons, List.length_nil, List.all_cons, List.all_nil, List.flatMap_cons, List.flatMap_nil, Option.map_some, Option.toList_some, Nat.reduceLT, ↓ex_rfl, cast_eq, heq_eq_eq, DV.str.injEq, exists_eq_left', Int.toNat_natCast, decide_eq_true_eq, decide_eq_false_iff_not, Int.not_lt, true_and, and_true, and_self, not_false_eq_true, Bool.and_true, cond_true, cond_false, beq_self_eq_true, if_true, Nat.zero_add, Nat.reduceMul, Nat.reduceBEq, Nat.reduceLeDiff, Nat.le_refl, eq_self, Nat.succ_ne_self, tab_3, tab_5, tab_9, tab_22, tab_74]
      refine ⟨fun h => ?_, fun h => ?_⟩
      · have w3 : IntKind.i64.wrap ((i : Int) + 4) = (i : Int) + 4 := i64_in _ (by omega)
        have e4 : ((i : Int) + 4 - (i : Int)).toNat = 4 := by omega
        have e5 : ((i : Int) + 4).toNat - i = 4 := by omega
        simp only [w3, hul, e5]
        refine ⟨⟨by omega, by omega, by omega⟩, rfl, by omega, by omega, i + 1, by omega, by omega, ?_⟩
        rw [shU_next]
        (simp only [LessC, lessS, lessO, belowS, belowO, AV.below, AObj.below, AC.below, List.length_cons, List.length_nil, Nat.reduceLT, Int.cast_ofNat_Int, Int.natCast_add, AV.c.injEq, AC.int.injEq, AObj.row.injEq, heq_eq_eq, true_and, and_true, and_self, reduceCtorEq, Bool.and_true, Nat.zero_add, Nat.reduceLeDiff, eq_self, decide_true, or_true, or_false, false_or] <;> try omega)
        all_goals first | exact ⟨i64_in _ (by omega), rfl⟩ | exact i64_in _ (by omega)
      · have hin : i = xs.length - 3 := by omega
        rw [hin]
        refine CallAt.call [0] [] (sort_spec (shU xs (xs.length - 3)) (by rw [shU_len]; omega)) (by decide) (fun i hi => by simp at hi; show i < _; simp; omega) (fun _ h => by cases h) rfl rfl (.inl rfl) ?_
        rintro r os ⟨rfl, rfl⟩
        simp only [VC_region, VC_seq, aops_nil, aops_cons, put_some, aop, qop, isQuiet, ASt.eval, ASt.ev, AV.strip, AV.need, AV.isTup, ned, AV.map, AObj.map, giveBack, afterCall, List.getD_cons_succ, List.getD_cons_zero, List.set_cons_succ, List.set_cons_zero, List.map_cons, List.map_nil, List.append_nil, List.length_cons, List.length_nil, true_and, and_self, Nat.zero_add, eq_self]
        refine CallAt.partArg 0 0 rfl rfl ?_
        simp only [List.set_cons_zero]
        refine CallAt.call [0] [] (compact_spec (sortS (shU xs (xs.length - 3))) (by rw [sortS_len, shU_len]; omega)) (by decide) (fun i hi => by simp at hi; show i < _; simp; omega) (fun _ h => by cases h) rfl rfl (.inl rfl) ?_
        rintro r os ⟨zs, rfl, rfl, h3, h4⟩
        simp only [VC_ret, aops_nil, aops_cons, put_some, qop, isQuiet, ASt.eval, AV.need, AV.map, AObj.map, AC.ren, backIx, giveBack, afterCall, List.getD_cons_succ, List.getD_cons_zero, List.set_cons_succ, List.set_cons_zero, List.map_nil, List.append_nil, List.length_cons, List.length_nil, List.getElem?_cons_zero, true_and, Nat.zero_add]
        refine RetAt.keeping [0] (by decide) ?_ ?_ <;> simp only [resOf, tupOf, keepObjs, keepObjs, XObj.amap, ASt.eval, AV.strip, AV.need, AV.map, AObj.map, findIx, AC.ren, List.getD_cons_succ, List.getD_cons_zero, List.map_cons, List.map_nil, and_self, cond_true, beq_self_eq_true]
        exact .inr ⟨zs, _, rfl, rfl, by rw [e]; exact h3, by have := cpt_len (sortS (shU xs (xs.length - 3))) (sortS (shU xs (xs.length - 3))).length; omega⟩
    · have z1 : ((0 : Int) < (xs.length : Int)) = True := eq_true (by omega)
      have z2 : ((xs.length : Int) < 4) = False := eq_false (by omega)
      (refine ACall.of_body (nt := 38) (rs := [.tmp 2]) tabOK Try.func36 rfl rfl rfl rfl ?_; simp only [startSt, List.length_cons, List.length_nil, Nat.reduceAdd, Nat.reduceSub, List.replicate_succ, List.replicate_zero, List.cons_append, List.nil_append])
      unfold rB encU8
      simp only [VCp, ownSl, ownPart, VC_skip, VC_region, VC_seq, VC_cond, VC_block, VC_loop, VC_ret, aops_nil, aops_cons, put_some, aop, qop, isQuiet, ASt.eval, AV.need, AV.ac, AV.cells, AV.isTup, onG, guardOf, qbin, binInt, qpick, qpick0, qlen, needAll, ned, partsOf, fitAll, AC.fits, abuildSlice, elems, setPart, appSrc, aconv, newObj, frzRefs, dvs, AC.dv, leD, leD1, isScalar, avOf, acOf, eInt, eStr, eList, List.getD_cons_succ, List.getD_cons_zero, List.set_cons_succ, List.set_cons_zero, List.map_cons, List.map_nil, List.replicate_succ, List.replicate_zero, List.nil_append, List.append_nil, List.length_cons, List.length_nil, List.all_cons, List.all_nil, List.flatMap_cons, List.flatMap_nil, List.getElem?_cons_succ, List.getElem?_cons_zero, Option.bind_some, Nat.reduceLT, ↓ex_rfl, cast_eq, heq_eq_eq, DV.str.injEq, exists_eq_left', implies_true, true_and, and_true, and_self, forall_const, false_implies, not_false_eq_true, Bool.and_true, Bool.false_eq_true, cond_true, beq_self_eq_true, Nat.zero_add, Nat.reduceMul, Nat.reduceLeDiff, eq_self, Nat.succ_ne_self, decide_true, decide_false, tab_3, tab_5, tab_9, tab_22, tab_74, z1, z2, w1, w2]
      refine LoopAt.adopt 3 9 1 ByteArray ⟨#[]⟩ (fun s => [.str s]) rfl (fun _ => rfl) ?_
      simp only [newObj, adopt, List.set_cons_succ, List.set_cons_zero, List.nil_append, List.length_nil]
      refine LoopAt.inv (ι := Nat) (T := tab) (fun i => [(21, .c (.int .i64 i)), (3, .c (.sl 0))]) (fun i => [rowS (shU xs i)]) (fun i => i ≤ xs.length - 3) (fun i => xs.length - i) tabOK 0 (Nat.zero_le _) ?_ ?_
      · (simp only [LessC, headSt, dsts, opDsts, resetS, putsS, lessS, lessO, belowS, belowO, AV.below, AObj.below, AC.below, List.set_cons_succ, List.set_cons_zero, List.cons_append, List.nil_append, List.append_nil, List.length_cons, List.length_nil, Nat.reduceLT, Int.cast_ofNat_Int, AV.c.injEq, AObj.row.injEq, heq_eq_eq, true_and, and_true, and_self, reduceCtorEq, Bool.and_true, Nat.zero_add, Nat.reduceLeDiff, eq_self, decide_true, or_true] <;> try omega)
        rfl
      intro i hi
      have hul := shU_len (xs := xs) (k := i)
      simp only [VCp, headSt, dsts, opDsts, resetS, putsS, ownSl, ownPart, appRows, VC_skip, VC_region, VC_seq, VC_cond, VC_block, VC_exit, aops_nil, aops_cons, put_some, aop, qop, isQuiet, ASt.eval, ASt.ev, AV.strip, AV.need, AV.ac, AV.cells, AV.isTup, qbin, binInt, qslice, cutLo, cutHi, needAll, ned, partsOf, fitAll, AC.fits, abuildSlice, elems, setPart, appSrc, aappend, aconv, newObj, ASt.setObj, ASt.obj, ASt.map, frzRefs, AV.map, AObj.map, AC.kill, dvs, AC.dv, leD, leD1, isScalar, avOf, acOf, eInt, eStr, eList, List.getD_cons_succ, List.getD_cons_zero, List.set_cons_succ, List.set_cons_zero, List.map_cons, List.map_nil, List.replicate_succ, List.replicate_zero, List.cons_append, List.nil_append, List.append_nil, List.length_cons, List.length_nil, List.all_cons, List.all_nil, List.flatMap_cons, List.flatMap_nil, Option.map_some, Option.toList_some, Nat.reduceLT, ↓ex_rfl, cast_eq, heq_eq_eq, DV.str.injEq, exists_eq_left', Int.toNat_natCast, decide_eq_true_eq, decide_eq_false_iff_not, Int.not_lt, true_and, and_true, and_self, not_false_eq_true, Bool.and_true, cond_true, cond_false, beq_self_eq_true, if_true, Nat.zero_add, Nat.reduceMul, Nat.reduceBEq, Nat.reduceLeDiff, Nat.le_refl, eq_self, Nat.succ_ne_self, tab_3, tab_5, tab_9, tab_22, tab_74]
      refine ⟨fun h => ?_, fun h => ?_⟩
      · have w3 : IntKind.i64.wrap ((i : Int) + 4) = (i : Int) + 4 := i64_in _ (by omega)
        have e4 : ((i : Int) + 4 - (i : Int)).toNat = 4 := by omega
        have e5 : ((i : Int) + 4).toNat - i = 4 := by omega
        simp only [w3, hul, e5]
        refine ⟨⟨by omega, by omega, by omega⟩, rfl, by omega, by omega, i + 1, by omega, by omega, ?_⟩
        rw [shU_next]
        (simp only [LessC, lessS, lessO, belowS, belowO, AV.below, AObj.below, AC.below, List.length_cons, List.length_nil, Nat.reduceLT, Int.cast_ofNat_Int, Int.natCast_add, AV.c.injEq, AC.int.injEq, AObj.row.injEq, heq_eq_eq, true_and, and_true, and_self, reduceCtorEq, Bool.and_true, Nat.zero_add, Nat.reduceLeDiff, eq_self, decide_true, or_true, or_false, false_or] <;> try omega)
        all_goals first | exact ⟨i64_in _ (by omega), rfl⟩ | exact i64_in _ (by omega)
      · have hin : i = xs.length - 3 := by omega
        rw [hin]
        refine CallAt.call [0] [] (sort_spec (shU xs (xs.length - 3)) (by rw [shU_len]; omega)) (by decide) (fun i hi => by simp at hi; show i < _; simp; omega) (fun _ h => by cases h) rfl rfl (.inl rfl) ?_
        rintro r os ⟨rfl, rfl⟩
        simp only [VC_region, VC_seq, aops_nil, aops_cons, put_some, aop, qop, isQuiet, ASt.eval, ASt.ev, AV.strip, AV.need, AV.isTup, ned, AV.map, AObj.map, giveBack, afterCall, List.getD_cons_succ, List.getD_cons_zero, List.set_cons_succ, List.set_cons_zero, List.map_cons, List.map_nil, List.append_nil, List.length_cons, List.length_nil, true_and, and_self, Nat.zero_add, eq_self]
        refine CallAt.partArg 0 0 rfl rfl ?_
        simp only [List.set_cons_zero]
        refine CallAt.call [0] [] (compact_spec (sortS (shU xs (xs.length - 3))) (by rw [sortS_len, shU_len]; omega)) (by decide) (fun i hi => by simp at hi; show i < _; simp; omega) (fun _ h => by cases h) rfl rfl (.inl rfl) ?_
        rintro r os ⟨zs, rfl, rfl, h3, h4⟩
        simp only [VC_ret, aops_nil, aops_cons, put_some, qop, isQuiet, ASt.eval, AV.need, AV.map, AObj.map, AC.ren, backIx, giveBack, afterCall, List.getD_cons_succ, List.getD_cons_zero, List.set_cons_succ, List.set_cons_zero, List.map_nil, List.append_nil, List.length_cons, List.length_nil, List.getElem?_cons_zero, true_and, Nat.zero_add]
        refine RetAt.keeping [0] (by decide) ?_ ?_ <;> simp only [resOf, tupOf, keepObjs, keepObjs, XObj.amap, ASt.eval, AV.strip, AV.need, AV.map, AObj.map, findIx, AC.ren, List.getD_cons_succ, List.getD_cons_zero, List.map_cons, List.map_nil, and_self, cond_true, beq_self_eq_true]
        exact .inr ⟨zs, _, rfl, rfl, by rw [e]; exact h3, by have := cpt_len (sortS (shU xs (xs.length - 3))) (sortS (shU xs (xs.length - 3))).length; omega⟩
/-- what two sorted lists have in common, step by step -/
def com : List ByteArray → List ByteArray → Nat
  | x :: xs, y :: ys => if ltS x y then com xs (y :: ys) else if x = y then com xs ys + 1 else com (x :: xs) ys
  | _, _ => 0
termination_by xs ys => xs.length + ys.length
theorem com_nil (xs : List ByteArray) : com xs [] = 0 := by cases xs <;> simp [com]
theorem com_le : ∀ (xs ys : List ByteArray), com xs ys ≤ xs.length
  | [], ys => by simp [com]
  | x :: xs, [] => by simp [com]
  | x :: xs, y :: ys => by
    unfold com
    split
    · have := com_le xs (y :: ys); simp at this ⊢; omega
    · split
      · have := com_le xs ys; simp; omega
      · exact com_le (x :: xs) ys
termination_by xs ys => xs.length + ys.length
theorem com_cons (x y : ByteArray) (xs ys : List ByteArray) : com (x :: xs) (y :: ys) = if ltS x y then com xs (y :: ys) else if x = y then com xs ys + 1 else com (x :: xs) ys := by rw [com]
theorem drop_cons {xs : List ByteArray} {i : Nat} (h : i < xs.length) : xs.drop i = xs.getD i eS :: xs.drop (i + 1) := by
  rw [List.drop_eq_getElem_cons h]
  simp [List.getD, h]
set_option maxHeartbeats 8000000 in
theorem common_spec (x y : List ByteArray) (h1 : x.length ≤ 1048576) (h2 : y.length ≤ 1048576) : ACall Try.prog 37 [.c (rS x), .c (rS y)] [] (fun r os => r = .tup [(false, [.int .i64 (com x y : Nat)]), (false, [.int .i64 ((x.length : Int) + y.length - (com x y : Nat))])] ∧ os = []) := by
  (refine ACall.of_body (nt := 53) (rs := [.tmp 4, .tmp 5]) tabOK Try.func37 rfl rfl rfl rfl ?_; simp only [startSt, List.length_cons, List.length_nil, Nat.reduceAdd, Nat.reduceSub, List.replicate_succ, List.replicate_zero, List.cons_append, List.nil_append])
  simp only [VCp, VC_region, VC_seq, VC_block, VC_loop, aops_nil, aops_cons, put_some, qop, isQuiet, ASt.eval, AV.need, avOf, acOf, List.set_cons_succ, List.set_cons_zero, true_and]
  refine LoopAt.inv (ι := Nat × Nat × Nat) (T := tab) (fun s => [(6, .c (.int .i64 s.1)), (7, .c (.int .i64 s.2.1)), (8, .c (.int .i64 s.2.2))]) (fun s => [])
    (fun s => s.2.1 ≤ x.length ∧ s.2.2 ≤ y.length ∧ s.1 + com (x.drop s.2.1) (y.drop s.2.2) = com x y) (fun s => x.length + y.length - (s.2.1 + s.2.2)) tabOK (0, 0, 0) ⟨Nat.zero_le _, Nat.zero_le _, by simp⟩ ?_ ?_
  · (simp only [LessC, headSt, dsts, opDsts, resetS, putsS, lessS, lessO, belowS, belowO, AV.below, AC.below, List.set_cons_succ, List.set_cons_zero, List.cons_append, List.nil_append, List.append_nil, List.length_nil, Int.cast_ofNat_Int, AV.c.injEq, and_self, reduceCtorEq, Bool.and_true, Nat.le_refl, eq_self, or_true] <;> try omega)
  rintro ⟨n, i, k⟩ ⟨hi, hk, hc⟩
  dsimp only at hi hk hc
  have hle := com_le x y
  by_cases hi' : i < x.length
  · have z1 : ((i : Int) < (x.length : Int)) = True := eq_true (by omega)
    by_cases hk' : k < y.length
    · have z2 : ((k : Int) < (y.length : Int)) = True := eq_true (by omega)
      simp only [VCp, headSt, dsts, opDsts, resetS, putsS, VC_skip, VC_region, VC_draw, VC_seq, VC_cond, VC_block, VC_exit, VC_ret, aops_nil, aops_cons, put_some, qop, isQuiet, ASt.eval, AV.need, AV.ac, onG, guardOf, qbin, binInt, qpick, qpick0, qlen, isScalar, avOf, acOf, eInt, eStr, eList, List.getD_cons_succ, List.getD_cons_zero, List.set_cons_succ, List.set_cons_zero, List.cons_append, List.nil_append, List.append_nil, List.getElem?_cons_succ, List.getElem?_cons_zero, Option.bind_some, implies_true, true_and, and_true, and_self, forall_const, false_implies, Bool.and_true, Bool.true_eq_false, cond_true, beq_self_eq_true, if_true, eq_self, decide_true, tab_3, tab_74, z1, z2]
      refine DrawAt.plan tabOK mixed (.take 0 false (.take 1 false (.take 2 false (.take 3 true (.take 4 false (.take 5 false (.take 6 false (.take 7 true (.alt 8 (.take 9 true .done) .stop))))))))) (by decide +kernel) ?_
      simp only [avc_stop, avc_take, avc_alt, qstep, lstep, ownLoad, put_n0, put_some, aop, qop, isQuiet, ASt.eval, ASt.ev, AV.strip, AV.need, AV.ac, AV.isTup, qindexAddr, qload, ned, DV.ac, ofCells, TI.isAgg, eStr, eList, List.getD_cons_succ, List.getD_cons_zero, List.set_cons_succ, List.set_cons_zero, List.map_cons, List.map_nil, List.length_cons, List.length_nil, List.take_succ_cons, List.take_nil, List.headD_cons, List.getElem?_cons_succ, List.getElem?_cons_zero, Int.toNat_natCast, true_and, and_true, and_self, not_false_eq_true, Bool.false_eq_true, Nat.zero_add, Nat.le_refl, eq_self, Nat.succ_ne_self, or_true, tab_9, tab_74]
      refine ⟨⟨by omega, by omega⟩, ⟨by omega, by omega⟩, ?_⟩
      refine CallAt.plain (cmp_spec (x.getD i eS) (y.getD k eS)) rfl ?_
      rintro r os ⟨rfl, rfl⟩
      rw [drop_cons hi', drop_cons hk', com_cons] at hc
      by_cases hlt : ltS (x.getD i eS) (y.getD k eS)
      · rw [if_pos hlt] at hc ⊢
        rw [← drop_cons hk'] at hc
        simp only [avc_done, avc_take, qstep, ownLoad, VC_region, VC_seq, VC_cond, VC_block, aops_nil, aops_cons, put_some, qop, isQuiet, ASt.eval, AV.need, AV.ac, qbin, binInt, AV.map, isScalar, avOf, acOf, AC.ren, giveBack, afterCall, eInt, List.getD_cons_succ, List.getD_cons_zero, List.set_cons_succ, List.set_cons_zero, List.map_nil, List.append_nil, List.length_nil, List.getElem?_cons_succ, List.getElem?_cons_zero, Int.reduceLT, Int.reduceNeg, true_and, and_true, and_self, forall_const, reduceCtorEq, false_implies, Bool.false_eq_true, Bool.true_eq_false, eq_self, decide_true, decide_false, or_true, tab_3]
        refine ⟨(n, i + 1, k), ⟨by dsimp only; omega, by dsimp only; omega, hc⟩, by dsimp only; omega, ?_⟩
        (simp only [LessC, lessS, lessO, belowS, belowO, AV.below, AC.below, List.length_nil, Int.reduceNeg, Int.cast_ofNat_Int, Int.natCast_add, AV.c.injEq, AC.int.injEq, true_and, and_true, and_self, reduceCtorEq, Bool.and_true, Nat.le_refl, eq_self, or_true, or_false, false_or] <;> try omega)
        all_goals exact i64_in _ (by omega)
      · rw [if_neg hlt] at hc ⊢
        by_cases he : x.getD i eS = y.getD k eS
        · rw [if_pos he] at hc ⊢
          simp only [avc_done, avc_take, qstep, ownLoad, VC_region, VC_seq, VC_cond, VC_block, aops_nil, aops_cons, put_some, qop, isQuiet, ASt.eval, AV.need, AV.ac, qbin, binInt, AV.map, isScalar, avOf, acOf, AC.ren, giveBack, afterCall, eInt, List.getD_cons_succ, List.getD_cons_zero, List.set_cons_succ, List.set_cons_zero, List.map_nil, List.append_nil, List.length_nil, List.getElem?_cons_succ, List.getElem?_cons_zero, Int.reduceLT, true_and, and_true, and_self, forall_const, false_implies, Bool.false_eq_true, Bool.true_eq_false, eq_self, decide_true, decide_false, or_true, tab_3]
          refine ⟨(n + 1, i + 1, k + 1), ⟨by dsimp only; omega, by dsimp only; omega, by dsimp only; omega⟩, by dsimp only; omega, ?_⟩
          (simp only [LessC, lessS, lessO, belowS, belowO, AV.below, AC.below, List.length_nil, Int.cast_ofNat_Int, Int.natCast_add, AV.c.injEq, AC.int.injEq, true_and, and_true, and_self, reduceCtorEq, Bool.and_true, Nat.le_refl, eq_self, or_true, or_false, false_or] <;> try omega)
          all_goals exact ⟨i64_in _ (by omega), i64_in _ (by omega), i64_in _ (by omega)⟩
        · rw [if_neg he] at hc ⊢
          rw [← drop_cons hi'] at hc
          simp only [avc_done, avc_take, qstep, ownLoad, VC_region, VC_seq, VC_cond, VC_block, aops_nil, aops_cons, put_some, qop, isQuiet, ASt.eval, AV.need, AV.ac, qbin, binInt, AV.map, isScalar, avOf, acOf, AC.ren, giveBack, afterCall, eInt, List.getD_cons_succ, List.getD_cons_zero, List.set_cons_succ, List.set_cons_zero, List.map_nil, List.append_nil, List.length_nil, List.getElem?_cons_succ, List.getElem?_cons_zero, Int.reduceLT, Int.reduceEq, true_and, and_self, forall_const, false_implies, Bool.false_eq_true, eq_self, decide_false, or_true, tab_3]
          refine ⟨(n, i, k + 1), ⟨by dsimp only; omega, by dsimp only; omega, hc⟩, by dsimp only; omega, ?_⟩
          (simp only [LessC, lessS, lessO, belowS, belowO, AV.below, AC.below, List.length_nil, Int.cast_ofNat_Int, Int.natCast_add, AV.c.injEq, AC.int.injEq, true_and, and_true, and_self, reduceCtorEq, Bool.and_true, Nat.le_refl, eq_self, or_true, or_false, false_or] <;> try omega)
          all_goals exact i64_in _ (by omega)
    · have z2 : ((k : Int) < (y.length : Int)) = False := eq_false (by omega)
      rw [List.drop_of_length_le (show y.length ≤ k by omega), com_nil] at hc
      have hn : n = com x y := by omega
      have w1 : IntKind.i64.wrap ((x.length : Int) + (y.length : Int)) = (x.length : Int) + y.length := i64_in _ (by omega)
      have w2 : IntKind.i64.wrap ((x.length : Int) + (y.length : Int) - (n : Int)) = (x.length : Int) + y.length - (n : Int) := i64_in _ (by omega)
      simp only [VCp, headSt, dsts, opDsts, resetS, putsS, VC_skip, VC_region, VC_draw, VC_seq, VC_cond, VC_block, VC_exit, VC_ret, aops_nil, aops_cons, put_some, qop, isQuiet, ASt.eval, AV.need, AV.ac, onG, guardOf, qbin, binInt, qpick, qpick0, qlen, isScalar, avOf, acOf, eInt, eStr, eList, List.getD_cons_succ, List.getD_cons_zero, List.set_cons_succ, List.set_cons_zero, List.cons_append, List.nil_append, List.append_nil, List.getElem?_cons_succ, List.getElem?_cons_zero, Option.bind_some, implies_true, true_and, and_self, forall_const, false_implies, Bool.and_true, Bool.false_eq_true, cond_true, beq_self_eq_true, if_true, eq_self, decide_true, decide_false, tab_3, tab_74, z1, z2, w1, w2]
      (refine RetAt.leaf ?_ ?_ <;> simp only [resOf, tupOf, compOf, ASt.eval, AV.strip, AV.need, AV.map, findIx, AC.ren, List.getD_cons_succ, List.getD_cons_zero, List.map_cons, List.map_nil, and_true, and_self, eq_self])
      rw [hn]
      all_goals trivial
  · have z1 : ((i : Int) < (x.length : Int)) = False := eq_false (by omega)
    rw [List.drop_of_length_le (show x.length ≤ i by omega)] at hc
    have e0 : com [] (y.drop k) = 0 := by simp [com]
    have hn : n = com x y := by omega
    have w1 : IntKind.i64.wrap ((x.length : Int) + (y.length : Int)) = (x.length : Int) + y.length := i64_in _ (by omega)
    have w2 : IntKind.i64.wrap ((x.length : Int) + (y.length : Int) - (n : Int)) = (x.length : Int) + y.length - (n : Int) := i64_in _ (by omega)
    simp only [VCp, headSt, dsts, opDsts, resetS, putsS, VC_skip, VC_region, VC_draw, VC_seq, VC_cond, VC_block, VC_exit, VC_ret, aops_nil, aops_cons, put_some, qop, isQuiet, ASt.eval, AV.need, AV.ac, onG, guardOf, qbin, binInt, qpick, qpick0, qlen, isScalar, avOf, acOf, eInt, eStr, eList, List.getD_cons_succ, List.getD_cons_zero, List.set_cons_succ, List.set_cons_zero, List.cons_append, List.nil_append, List.append_nil, List.getElem?_cons_succ, List.getElem?_cons_zero, Option.bind_some, implies_true, imp_self, beq_true, true_and, and_self, forall_const, false_implies, Bool.and_false, Bool.false_eq_true, cond_false, if_true, eq_self, decide_false, tab_3, tab_74, z1, w1, w2]
    (refine RetAt.leaf ?_ ?_ <;> simp only [resOf, tupOf, compOf, ASt.eval, AV.strip, AV.need, AV.map, findIx, AC.ren, List.getD_cons_succ, List.getD_cons_zero, List.map_cons, List.map_nil, and_true, and_self, eq_self])
    rw [hn]
    all_goals trivial
end Go.Vc.Ne
