/- Holds and Prove are as specified. -/
import Derived.Test.YtmikejeohdleeaaCC
import Derived.Test.YtmikejeohdleeaaCD
set_option linter.unusedVariables false
set_option linter.unusedSimpArgs false
namespace Go.Vc.Pc
open Go.Proofs Go.IntWalk
set_option maxRecDepth 100000
/-- all but one -/
def gl (c : Nat → Int) (s : Nat) : Nat → List Int
  | 0 => []
  | k + 1 => if k = s then gl c s k else gl c s k ++ [c k]
theorem gl_len {c : Nat → Int} {s : Nat} : ∀ m, (gl c s m).length ≤ m
  | 0 => Nat.le_refl _
  | m + 1 => by
    have := gl_len (c := c) (s := s) m
    unfold gl
    split
    · omega
    · simp; omega
theorem gl_max {c : Nat → Int} {s : Nat} : ∀ m, mxl (gl c s m) = gmax c s m
  | 0 => rfl
  | m + 1 => by
    unfold gl gmax
    rw [← gl_max m]
    split
    · rfl
    · unfold mxl
      rw [List.foldl_append]
      rfl
theorem gl_pos {c : Nat → Int} {s m k : Nat} (h : k < m) (hs : ¬ k = s) : 0 < (gl c s m).length := by
  induction m with
  | zero => omega
  | succ m ih =>
    unfold gl
    split
    · rename_i e
      exact ih (by omega)
    · simp
theorem gl_mem {c : Nat → Int} {s : Nat} : ∀ {m : Nat} {x : Int}, x ∈ gl c s m → ∃ k, k < m ∧ ¬ k = s ∧ x = c k
  | m + 1, x, h => by
    unfold gl at h
    split at h
    · obtain ⟨k, h1, h2, h3⟩ := gl_mem h
      exact ⟨k, by omega, h2, h3⟩
    · rename_i hs
      rcases List.mem_append.1 h with h | h
      · obtain ⟨k, h1, h2, h3⟩ := gl_mem h
        exact ⟨k, by omega, h2, h3⟩
      · exact ⟨m, by omega, hs, by simpa using h⟩
set_option maxHeartbeats 4000000 in
theorem holdsE_spec (f l : List Int) (nx : Mat) (ou inn : List Int) (h0 : ¬ tchk f l nx = 0) (h1 : f.length < 9223372036854775807) (h2 : l.length < 9223372036854775807) (h3 : nx.length < 9223372036854775807) (h4 : ∀ r ∈ nx, r.length < 9223372036854775807) :
    ACall Try.prog 41 [tbl f l nx, bnd ou inn] [] (fun r os => r = .tup [(false, [.int .i64 0]), (false, [.int .i64 (tchk f l nx)])] ∧ os = []) := by
  (refine ACall.of_body (nt := 140) (rs := [.tmp 4, .tmp 5]) tabOK Try.func41 rfl rfl rfl rfl ?_; simp only [startSt, List.length_cons, List.length_nil, Nat.reduceAdd, Nat.reduceSub, List.replicate_succ, List.replicate_zero, List.cons_append, List.nil_append])
  simp only [VCp, VC_region, VC_seq, aops_nil, aops_cons, put_some, aop, qop, isQuiet, ASt.eval, ASt.ev, AV.strip, AV.need, AV.ac, AV.cells, AV.isTup, qload, ned, AC.fits, newObj, ASt.obj, ofCells, TI.isAgg, avOf, acOf, eInt, eList, ePair, List.getD_cons_succ, List.getD_cons_zero, List.set_cons_succ, List.set_cons_zero, List.map_cons, List.map_nil, List.cons_append, List.nil_append, List.length_cons, List.length_nil, List.drop_zero, List.take_succ_cons, List.take_nil, List.all_cons, List.all_nil, Int.reduceNeg, true_and, and_self, reduceCtorEq, not_false_eq_true, Bool.and_true, Nat.zero_add, Nat.reduceAdd, Nat.le_refl, eq_self, tab_53, tab_74]
  refine CallAt.plain (check_spec f l nx h1 h2 h3 h4) rfl ?_
  rintro r os ⟨rfl, rfl⟩
  simp only [VC_skip, VC_region, VC_seq, VC_cond, VC_block, VC_loop, VC_ret, aops_nil, aops_cons, put_some, qop, isQuiet, ASt.eval, AV.need, AV.ac, onG, guardOf, qbin, binInt, qpick, qpick0, qlen, qfieldAddr, qload, ASt.obj, AV.map, ofCells, TI.isAgg, isScalar, avOf, acOf, AC.ren, giveBack, afterCall, eInt, eList, ePair, List.getD_cons_succ, List.getD_cons_zero, List.set_cons_succ, List.set_cons_zero, List.map_nil, List.cons_append, List.nil_append, List.append_nil, List.length_cons, List.length_nil, List.drop_succ_cons, List.drop_zero, List.take_succ_cons, List.take_zero, List.take_nil, List.headD_cons, List.getElem?_cons_succ, List.getElem?_cons_zero, Option.bind_some, Int.reduceNeg, implies_true, imp_self, beq_false, decide_eq_false_iff_not, Bool.not_eq_true', Bool.cond_true_left, Bool.or_eq_true, Bool.or_eq_false_iff, true_and, and_true, and_self, forall_const, false_implies, not_false_eq_true, Bool.true_and, Bool.true_eq_false, Bool.not_false, Nat.add_zero, Nat.zero_add, Nat.reduceAdd, Nat.reduceLeDiff, Nat.le_refl, eq_self, Nat.succ_ne_self, decide_false, tab_3, tab_26, tab_34, tab_53, tab_74, h0]
  (refine RetAt.leaf ?_ ?_ <;> simp only [resOf, tupOf, compOf, ASt.eval, AV.strip, AV.need, AV.map, findIx, AC.ren, List.getD_cons_succ, List.getD_cons_zero, List.map_cons, List.map_nil, and_self, eq_self])
set_option maxHeartbeats 4000000 in
theorem proveE_spec (f l : List Int) (nx : Mat) (h0 : ¬ tchk f l nx = 0) (h1 : f.length < 9223372036854775807) (h2 : l.length < 9223372036854775807) (h3 : nx.length < 9223372036854775807) (h4 : ∀ r ∈ nx, r.length < 9223372036854775807) :
    ACall Try.prog 42 [tbl f l nx] [] (fun r os => r = .tup [(true, [.nil, .nil]), (false, [.int .i64 0]), (false, [.int .i64 (tchk f l nx)])] ∧ os = []) := by
  (refine ACall.of_body (nt := 142) (rs := [.cell 2 74, .tmp 3, .tmp 4]) tabOK Try.func42 rfl rfl rfl rfl ?_; simp only [startSt, List.length_cons, List.length_nil, Nat.reduceAdd, Nat.reduceSub, List.replicate_succ, List.replicate_zero, List.cons_append, List.nil_append])
  simp only [VCp, VC_region, VC_seq, aops_nil, aops_cons, put_some, aop, qop, isQuiet, ASt.eval, ASt.ev, AV.strip, AV.need, AV.ac, AV.cells, AV.isTup, qload, ned, AC.fits, newObj, ASt.obj, ofCells, TI.isAgg, avOf, acOf, eInt, eList, ePair, List.getD_cons_succ, List.getD_cons_zero, List.set_cons_succ, List.set_cons_zero, List.map_cons, List.map_nil, List.cons_append, List.nil_append, List.length_cons, List.length_nil, List.drop_zero, List.take_succ_cons, List.take_nil, List.all_cons, List.all_nil, Int.reduceNeg, true_and, and_self, reduceCtorEq, not_false_eq_true, Bool.and_true, Nat.zero_add, Nat.reduceAdd, Nat.le_refl, eq_self, tab_53, tab_74]
  refine CallAt.plain (check_spec f l nx h1 h2 h3 h4) rfl ?_
  rintro r os ⟨rfl, rfl⟩
  simp only [VC_skip, VC_region, VC_draw, VC_seq, VC_cond, VC_ret, aops_nil, aops_cons, put_some, put_none, aop, qop, isQuiet, ASt.eval, ASt.ev, AV.strip, AV.need, AV.ac, AV.cells, AV.isTup, qbin, binInt, qlen, qfieldAddr, qload, qbuild, fillParts, splice, needAll, ned, partsOf, fitAll, AC.fits, astore, ASt.setObj, ASt.obj, AV.map, ofCells, TI.isAgg, isScalar, avOf, acOf, AC.ren, giveBack, afterCall, eInt, eList, ePair, List.getD_cons_succ, List.getD_cons_zero, List.set_cons_succ, List.set_cons_zero, List.map_nil, List.cons_append, List.nil_append, List.append_nil, List.length_cons, List.length_nil, List.drop_succ_cons, List.drop_zero, List.drop_nil, List.take_succ_cons, List.take_zero, List.headD_cons, List.all_cons, List.all_nil, List.getElem?_cons_zero, Int.reduceNeg, true_and, and_true, and_self, forall_const, reduceCtorEq, false_implies, not_false_eq_true, Bool.and_true, Bool.true_eq_false, Bool.not_false, Nat.add_zero, Nat.zero_add, Nat.reduceAdd, Nat.reduceLeDiff, Nat.le_refl, eq_self, Nat.succ_ne_self, decide_false, tab_26, tab_34, tab_53, tab_74, h0]
  (refine RetAt.leaf ?_ ?_ <;> simp only [resOf, tupOf, compOf, ASt.eval, AV.strip, AV.need, AV.ac, qload, ASt.obj, AV.map, ofCells, TI.isAgg, findIx, AC.ren, eInt, eList, ePair, List.getD_cons_succ, List.getD_cons_zero, List.map_cons, List.map_nil, List.cons_append, List.nil_append, List.length_cons, List.length_nil, List.drop_zero, List.take_succ_cons, List.take_nil, and_self, reduceCtorEq, not_false_eq_true, Nat.zero_add, Nat.reduceAdd, Nat.le_refl, eq_self, tab_74])
set_option maxHeartbeats 16000000 in
theorem pieceBounds_spec (f l : List Int) (nx : Mat) (ou inn : List Int) (h1 : f.length < 9223372036854775807) (h2 : l.length < 9223372036854775807) (h3 : nx.length < 9223372036854775807) (h4 : ∀ r ∈ nx, r.length < 9223372036854775807)
    (h5 : ou.length < 9223372036854775807) (h6 : inn.length < 9223372036854775807) :
    ACall Try.prog 9 [tbl f l nx, bnd ou inn] [] (fun r os => r = .c (.bool true) ∧ os = []) := by
  (refine ACall.of_body (nt := 203) (rs := [.tmp 4]) tabOK Try.func9 rfl rfl rfl rfl ?_; simp only [startSt, List.length_cons, List.length_nil, Nat.reduceAdd, Nat.reduceSub, List.replicate_succ, List.replicate_zero, List.cons_append, List.nil_append])
  simp only [VCp, VC_region, VC_seq, aops_nil, aops_cons, put_some, aop, qop, isQuiet, ASt.eval, AV.need, AV.cells, AV.isTup, ned, AC.fits, newObj, avOf, acOf, eInt, eList, ePair, List.getD_cons_succ, List.getD_cons_zero, List.set_cons_succ, List.set_cons_zero, List.map_nil, List.cons_append, List.nil_append, List.length_cons, List.length_nil, List.all_cons, List.all_nil, true_and, and_self, Bool.and_true, Nat.zero_add, Nat.reduceAdd, eq_self, tab_53, tab_74]
  refine CallAt.plain ordered_spec rfl ?_
  rintro r os ⟨rfl, rfl⟩
  simp only [VC_skip, VC_region, VC_seq, VC_cond, VC_ret, aops_nil, aops_cons, put_some, aop, qop, isQuiet, ASt.eval, ASt.ev, AV.strip, AV.need, AV.ac, AV.isTup, qun, qload, ned, ASt.obj, AV.map, ofCells, TI.isAgg, avOf, acOf, AC.ren, giveBack, afterCall, eInt, eList, ePair, List.getD_cons_succ, List.getD_cons_zero, List.set_cons_succ, List.set_cons_zero, List.map_cons, List.map_nil, List.cons_append, List.nil_append, List.append_nil, List.length_cons, List.length_nil, List.drop_zero, List.take_succ_cons, List.take_nil, true_and, and_self, forall_const, reduceCtorEq, false_implies, not_false_eq_true, Bool.false_eq_true, Bool.not_true, Nat.zero_add, Nat.reduceAdd, Nat.le_refl, eq_self, tab_53, tab_74]
  by_cases h0 : tchk f l nx = 0
  · obtain ⟨hn, ht, hf⟩ := tchk_ok h0
    refine CallAt.plain (holds_spec f l nx ou inn h0 h5 h6) rfl ?_
    rintro r os ⟨rfl, rfl⟩
    simp only [VC_region, VC_seq, aops_nil, aops_cons, put_some, aop, qop, isQuiet, ASt.eval, ASt.ev, AV.strip, AV.need, AV.ac, AV.isTup, qload, qextract, ned, ASt.obj, AV.map, ofCells, TI.isAgg, AC.ren, giveBack, afterCall, eInt, eList, ePair, List.getD_cons_succ, List.getD_cons_zero, List.set_cons_succ, List.set_cons_zero, List.map_cons, List.map_nil, List.cons_append, List.nil_append, List.append_nil, List.length_cons, List.length_nil, List.drop_zero, List.take_succ_cons, List.take_nil, List.headD_cons, List.getElem?_cons_succ, List.getElem?_cons_zero, true_and, and_self, reduceCtorEq, not_false_eq_true, Nat.zero_add, Nat.reduceAdd, Nat.le_refl, eq_self, tab_53]
    refine CallAt.plain (prove_spec f l nx h0) rfl ?_
    rintro r os ⟨rfl, rfl⟩
    have hOl := outL_len (f := f) (l := l) (nx := nx)
    have hIl := inL_len (f := f) (l := l) (nx := nx)
    simp only [VC_region, VC_seq, aops_nil, aops_cons, put_some, put_none, aop, qop, isQuiet, ASt.eval, ASt.ev, AV.strip, AV.need, AV.ac, AV.cells, AV.isTup, qload, qextract, splice, ned, AC.fits, astore, newObj, ASt.setObj, ASt.obj, AV.map, AObj.map, ofCells, TI.isAgg, AC.ren, backIx, giveBack, afterCall, eInt, eList, ePair, List.getD_cons_succ, List.getD_cons_zero, List.set_cons_succ, List.set_cons_zero, List.map_cons, List.map_nil, List.cons_append, List.nil_append, List.append_nil, List.length_cons, List.length_nil, List.drop_succ_cons, List.drop_zero, List.drop_nil, List.take_succ_cons, List.take_zero, List.take_nil, List.headD_cons, List.all_cons, List.all_nil, List.getElem?_cons_succ, List.getElem?_cons_zero, List.getElem?_nil, true_and, and_self, reduceCtorEq, not_false_eq_true, Bool.and_true, Nat.add_zero, Nat.zero_add, Nat.reduceAdd, Nat.reduceSub, Nat.le_refl, eq_self, tab_53, tab_74]
    refine CallAt.plain (tableCheck_spec f l nx h1 h2 h3 h4) rfl ?_
    rintro r os ⟨rfl, rfl⟩
    simp only [VC_skip, VC_region, VC_seq, VC_cond, VC_ret, aops_nil, aops_cons, put_some, aop, qop, isQuiet, ASt.eval, ASt.ev, AV.strip, AV.need, AV.ac, AV.isTup, onG, guardOf, qbin, binInt, qpick, qpick0, qlen, qfieldAddr, qload, ned, ASt.obj, AV.map, ofCells, TI.isAgg, isScalar, avOf, acOf, AC.ren, giveBack, afterCall, eInt, eList, ePair, List.getD_cons_succ, List.getD_cons_zero, List.set_cons_succ, List.set_cons_zero, List.map_cons, List.map_nil, List.cons_append, List.nil_append, List.append_nil, List.length_cons, List.length_nil, List.drop_succ_cons, List.drop_zero, List.take_succ_cons, List.take_zero, List.take_nil, List.headD_cons, List.getElem?_cons_succ, List.getElem?_cons_zero, Option.bind_some, implies_true, imp_self, beq_true, decide_eq_true_eq, Bool.cond_false_right, Bool.and_eq_true, true_and, and_self, forall_const, reduceCtorEq, false_implies, not_false_eq_true, Bool.and_true, Bool.true_and, Bool.false_eq_true, Bool.not_true, Nat.add_zero, Nat.zero_add, Nat.reduceAdd, Nat.reduceLeDiff, Nat.le_refl, eq_self, Nat.succ_ne_self, decide_true, tab_3, tab_26, tab_34, tab_53, tab_74, h0]
    refine CallAt.plain (holdsLaw_spec f l nx ou inn h0 h5 h6) rfl ?_
    rintro r os ⟨rfl, rfl⟩
    have wn : IntKind.i64.wrap ((f.length : Int) + 1) = (f.length : Int) + 1 := i64_in _ (by omega)
    simp only [VC_skip, VC_region, VC_seq, VC_cond, VC_block, VC_loop, VC_ret, aops_nil, aops_cons, put_some, qop, isQuiet, ASt.eval, AV.need, AV.ac, onG, guardOf, qbin, binInt, qpick, qpick0, qlen, qfieldAddr, qload, qextract, ASt.obj, AV.map, ofCells, TI.isAgg, isScalar, avOf, acOf, AC.ren, giveBack, afterCall, eInt, eList, ePair, List.getD_cons_succ, List.getD_cons_zero, List.set_cons_succ, List.set_cons_zero, List.map_cons, List.map_nil, List.cons_append, List.nil_append, List.append_nil, List.length_cons, List.length_nil, List.drop_succ_cons, List.drop_zero, List.take_succ_cons, List.take_zero, List.take_nil, List.headD_cons, List.getElem?_cons_succ, List.getElem?_cons_zero, Option.bind_some, Int.cast_ofNat_Int, Int.natCast_add, implies_true, true_and, and_self, forall_const, false_implies, not_false_eq_true, Bool.and_true, Bool.false_eq_true, Bool.not_true, Bool.not_false, cond_false, beq_self_eq_true, Nat.add_zero, Nat.zero_add, Nat.reduceAdd, Nat.reduceLeDiff, Nat.le_refl, eq_self, Nat.succ_ne_self, decide_true, tab_3, tab_26, tab_34, tab_53, tab_74, wn, hOl, hIl]
    refine LoopAt.freeze 2 (LoopAt.freeze 3 (LoopAt.fix 0 (LoopAt.fix 1 (LoopAt.fix 4 (renumL [] ⟨rfl, Nat.zero_le _, by decide⟩ ?_)))))
    simp only [ASt.renum, keepObjs, ASt.fix, AC.fixp, XObj.amap, ASt.setObj, ASt.obj, ASt.map, ASt.freeze, AV.map, AObj.map, AC.frz, dvs, AC.dv, findIx, AC.ren, List.getD_cons_succ, List.getD_cons_zero, List.set_cons_succ, List.set_cons_zero, List.map_cons, List.map_nil, List.drop_succ_cons, List.drop_zero, cond_true, cond_false, beq_self_eq_true, Nat.reduceBEq]
    refine LoopAt.inv (ι := Nat) (T := tab) (fun i => [(105, .c (.int .i64 i)), (11, .c (.int .i64 (sm (outL f l nx) (inL f l nx) i)))]) (fun i => [])
      (fun i => i ≤ f.length + 1) (fun i => f.length + 1 - i) tabOK 0 (Nat.zero_le _) ?_ ?_
    · (simp only [LessC, headSt, dsts, opDsts, resetS, putsS, lessS, lessO, belowS, belowO, AV.below, AC.below, List.set_cons_succ, List.set_cons_zero, List.cons_append, List.nil_append, List.append_nil, List.length_nil, List.all_cons, List.all_nil, Int.cast_ofNat_Int, AV.c.injEq, AC.int.injEq, true_and, and_true, and_self, reduceCtorEq, Bool.and_true, Nat.le_refl, eq_self, or_true, or_false, false_or] <;> try omega)
      rfl
    intro i hi
    have hgood : ∀ j, j < i → ¬ bad4 ((outL f l nx).getD j 0) ∧ ¬ bad4 ((inL f l nx).getD j 0) := fun j hj => by
      rw [outL_get (by omega), inL_get (by omega)]
      have b1 := outV_bounds ht hf (i := j) (by omega)
      have b2 := inV_bounds ht hf (k := j) (by omega)
      unfold bad4
      omega
    have hsm := sm_bounds hgood
    simp only [VCp, headSt, dsts, opDsts, resetS, putsS, VC_skip, VC_region, VC_seq, VC_cond, VC_block, VC_loop, VC_exit, VC_ret, aops_nil, aops_cons, put_some, qop, isQuiet, ASt.eval, AV.need, AV.ac, qbin, binInt, isScalar, avOf, acOf, eInt, List.getD_cons_succ, List.getD_cons_zero, List.set_cons_succ, List.set_cons_zero, List.cons_append, List.nil_append, List.append_nil, decide_eq_true_eq, decide_eq_false_iff_not, Int.not_lt, true_and, and_self, Bool.and_true, cond_true, beq_self_eq_true, if_true, eq_self, tab_3, wn]
    refine ⟨fun h => ?_, fun h => ?_⟩
    · have hi' : i < f.length + 1 := by omega
      have hO := outL_get (f := f) (l := l) (nx := nx) hi'
      have hI := inL_get (f := f) (l := l) (nx := nx) hi'
      have b1 := outV_bounds ht hf (i := i) (by omega)
      have b2 := inV_bounds ht hf (k := i) (by omega)
      refine LoopAt.adopt 15 3 1 Int 0 (fun n => [.int .i64 n]) rfl (fun _ => rfl) (LoopAt.adopt 16 3 1 Int 0 (fun n => [.int .i64 n]) rfl (fun _ => rfl) ?_)
      simp only [newObj, adopt, List.set_cons_succ, List.set_cons_zero, List.cons_append, List.nil_append, List.length_cons, List.length_nil, Nat.zero_add]
      refine LoopAt.inv (ι := Nat) (T := tab) (fun j => [(110, .c (.int .i64 j)), (15, .c (.sl 0)), (16, .c (.sl 1))]) (fun j => [rowI (gl (cellV f l nx i) i j), rowI (gl (inC f l nx i) i j)])
        (fun j => j ≤ f.length + 1) (fun j => f.length + 1 - j) tabOK 0 (Nat.zero_le _) ?_ ?_
      · (simp only [LessC, headSt, dsts, opDsts, resetS, putsS, lessS, lessO, belowS, belowO, AV.below, AObj.below, AC.below, List.set_cons_succ, List.set_cons_zero, List.cons_append, List.nil_append, List.append_nil, List.length_cons, List.length_nil, List.all_cons, List.all_nil, Nat.reduceLT, Int.cast_ofNat_Int, AV.c.injEq, AObj.row.injEq, heq_eq_eq, true_and, and_true, and_self, reduceCtorEq, Bool.and_true, Nat.zero_add, Nat.reduceAdd, Nat.reduceLeDiff, eq_self, decide_true, or_true] <;> try omega)
        all_goals first | rfl | exact ⟨rfl, rfl⟩
      intro j hj
      have hg1 := gl_len (c := cellV f l nx i) (s := i) j
      have hg2 := gl_len (c := inC f l nx i) (s := i) j
      simp only [VCp, headSt, dsts, opDsts, resetS, putsS, VC_skip, VC_region, VC_draw, VC_seq, VC_cond, VC_block, VC_exit, VC_ret, aops_nil, aops_cons, put_some, aop, qop, isQuiet, ASt.eval, ASt.ev, AV.strip, AV.need, AV.ac, AV.isTup, qbin, binInt, qload, ned, DV.ac, ofCells, TI.isAgg, isScalar, avOf, acOf, eInt, eList, ePair, List.getD_cons_succ, List.getD_cons_zero, List.set_cons_succ, List.set_cons_zero, List.map_cons, List.map_nil, List.cons_append, List.nil_append, List.append_nil, List.length_cons, List.length_nil, List.take_succ_cons, List.take_nil, decide_eq_true_eq, decide_eq_false_iff_not, Int.not_lt, true_and, and_self, reduceCtorEq, not_false_eq_true, if_true, if_false, Nat.zero_add, Nat.reduceAdd, Nat.le_refl, eq_self, Nat.succ_ne_self, tab_3, tab_53]
      refine ⟨fun h => ?_, fun h => ?_⟩
      · have hj' : j < f.length + 1 := by omega
        refine CallAt.plain (cell_spec f l nx ht hn i j (by omega) (by omega)) rfl ?_
        rintro r os ⟨rfl, rfl⟩
        by_cases eij : i = j
        · have z2 : (i = j) = True := eq_true eij
          have z3 : (j = i) = True := eq_true eij.symm
          have s1 : gl (cellV f l nx i) i (j + 1) = gl (cellV f l nx i) i j := if_pos eij.symm
          have s2 : gl (inC f l nx i) i (j + 1) = gl (inC f l nx i) i j := if_pos eij.symm
          simp only [ownSl, ownPart, appRows, VC_skip, VC_region, VC_seq, VC_cond, aops_nil, aops_cons, put_some, aop, qop, isQuiet, ASt.eval, ASt.ev, AV.strip, AV.need, AV.ac, AV.cells, AV.isTup, qload, qextract, needAll, ned, partsOf, fitAll, AC.fits, abuildSlice, elems, setPart, appSrc, aappend, newObj, ASt.setObj, ASt.obj, ASt.map, frzRefs, AV.map, AObj.map, AC.kill, dvs, AC.dv, DV.ac, leD, leD1, ofCells, TI.isAgg, avOf, acOf, AC.ren, giveBack, afterCall, eInt, eList, ePair, List.getD_cons_succ, List.getD_cons_zero, List.set_cons_succ, List.set_cons_zero, List.map_cons, List.map_nil, List.replicate_succ, List.replicate_zero, List.cons_append, List.nil_append, List.append_nil, List.length_cons, List.length_nil, List.take_succ_cons, List.take_nil, List.headD_cons, List.all_cons, List.all_nil, List.flatMap_cons, List.flatMap_nil, List.getElem?_cons_succ, List.getElem?_cons_zero, Nat.reduceLT, ↓ex_rfl, cast_eq, heq_eq_eq, DV.int.injEq, exists_eq_left', true_and, and_true, and_self, forall_const, reduceCtorEq, false_implies, not_false_eq_true, Bool.and_true, Bool.false_eq_true, Bool.not_true, cond_true, cond_false, beq_self_eq_true, if_true, Nat.zero_add, Nat.reduceAdd, Nat.reduceMul, Nat.reduceBEq, Nat.reduceLeDiff, Nat.le_refl, eq_self, Nat.succ_ne_self, decide_true, tab_3, tab_26, tab_53, z2]
          refine CallAt.plain (cell_spec f l nx ht hn j i (by omega) (by omega)) rfl ?_
          rintro r os ⟨rfl, rfl⟩
          simp only [ownSl, ownPart, appRows, VC_skip, VC_region, VC_seq, VC_cond, aops_nil, aops_cons, put_some, aop, qop, isQuiet, ASt.eval, AV.need, AV.ac, AV.cells, AV.isTup, qbin, binInt, qindexAddr, qfieldAddr, qload, qextract, needAll, ned, partsOf, fitAll, AC.fits, abuildSlice, elems, setPart, appSrc, aappend, newObj, ASt.setObj, ASt.obj, ASt.map, frzRefs, AV.map, AObj.map, AC.kill, dvs, AC.dv, DV.ac, leD, leD1, ofCells, TI.isAgg, isScalar, avOf, acOf, AC.ren, giveBack, afterCall, eInt, eList, ePair, List.getD_cons_succ, List.getD_cons_zero, List.set_cons_succ, List.set_cons_zero, List.map_cons, List.map_nil, List.replicate_succ, List.replicate_zero, List.cons_append, List.nil_append, List.append_nil, List.length_cons, List.length_nil, List.drop_zero, List.take_succ_cons, List.take_zero, List.take_nil, List.headD_cons, List.all_cons, List.all_nil, List.flatMap_cons, List.flatMap_nil, List.getElem?_cons_succ, List.getElem?_cons_zero, Nat.reduceLT, ↓ex_rfl, cast_eq, heq_eq_eq, DV.int.injEq, exists_eq_left', Int.toNat_natCast, true_and, and_true, and_self, forall_const, false_implies, not_false_eq_true, Bool.and_true, Bool.false_eq_true, Bool.not_true, cond_true, cond_false, beq_self_eq_true, if_true, Nat.zero_add, Nat.reduceAdd, Nat.reduceMul, Nat.reduceBEq, Nat.reduceLeDiff, Nat.le_refl, eq_self, Nat.succ_ne_self, decide_true, tab_3, tab_26, tab_74, z3]
          refine ⟨j + 1, by omega, by omega, ?_⟩
          rw [s1, s2]
          (simp only [LessC, lessS, lessO, belowS, belowO, AV.below, AObj.below, AC.below, List.length_cons, List.length_nil, List.all_cons, List.all_nil, Nat.reduceLT, Int.cast_ofNat_Int, Int.natCast_add, AV.c.injEq, AC.int.injEq, true_and, and_true, and_self, reduceCtorEq, Bool.and_true, Nat.zero_add, Nat.reduceAdd, Nat.reduceLeDiff, eq_self, decide_true, or_true, or_false, false_or] <;> try omega)
          all_goals exact i64_in _ (by omega)
        · have z2 : (i = j) = False := eq_false eij
          have z3 : (j = i) = False := eq_false (fun e => eij e.symm)
          have s1 : gl (cellV f l nx i) i (j + 1) = gl (cellV f l nx i) i j ++ [cellV f l nx i j] := if_neg (fun e => eij e.symm)
          have s2 : gl (inC f l nx i) i (j + 1) = gl (inC f l nx i) i j ++ [inC f l nx i j] := if_neg (fun e => eij e.symm)
          have b3 := outV_bounds ht hf (i := j) (by omega)
          have b4 := cellV_bounds ht hf (i := j) (k := i) (by omega) (by omega) (fun e => eij e.symm)
          have hOj := outL_get (f := f) (l := l) (nx := nx) hj'
          have w1 : IntKind.i64.wrap (cellV f l nx j i - outV f l nx j) = inC f l nx i j := i64_in _ (by omega)
          rw [if_neg eij]
          simp only [ownSl, ownPart, appRows, VC_skip, VC_region, VC_seq, VC_cond, aops_nil, aops_cons, put_some, aop, qop, isQuiet, ASt.eval, ASt.ev, AV.strip, AV.need, AV.ac, AV.cells, AV.isTup, qload, qextract, needAll, ned, partsOf, fitAll, AC.fits, abuildSlice, elems, setPart, appSrc, aappend, newObj, ASt.setObj, ASt.obj, ASt.map, frzRefs, AV.map, AObj.map, AC.kill, dvs, AC.dv, DV.ac, leD, leD1, ofCells, TI.isAgg, avOf, acOf, AC.ren, giveBack, afterCall, eInt, eList, ePair, List.getD_cons_succ, List.getD_cons_zero, List.set_cons_succ, List.set_cons_zero, List.map_cons, List.map_nil, List.replicate_succ, List.replicate_zero, List.cons_append, List.nil_append, List.append_nil, List.length_cons, List.length_nil, List.take_succ_cons, List.take_nil, List.headD_cons, List.all_cons, List.all_nil, List.flatMap_cons, List.flatMap_nil, List.getElem?_cons_succ, List.getElem?_cons_zero, Nat.reduceLT, ↓ex_rfl, cast_eq, heq_eq_eq, DV.int.injEq, exists_eq_left', true_and, and_true, and_self, forall_const, reduceCtorEq, false_implies, not_false_eq_true, Bool.and_true, Bool.true_eq_false, Bool.not_false, cond_true, cond_false, beq_self_eq_true, Nat.zero_add, Nat.reduceAdd, Nat.reduceMul, Nat.reduceBEq, Nat.reduceLeDiff, Nat.le_refl, eq_self, Nat.succ_ne_self, decide_false, tab_3, tab_26, tab_53, z2]
          refine ⟨by omega, by omega, ?_⟩
          refine CallAt.plain (cell_spec f l nx ht hn j i (by omega) (by omega)) rfl ?_
          rintro r os ⟨rfl, rfl⟩
          rw [if_neg (fun e => eij e.symm)]
          simp only [ownSl, ownPart, appRows, VC_skip, VC_region, VC_seq, VC_cond, aops_nil, aops_cons, put_some, aop, qop, isQuiet, ASt.eval, AV.need, AV.ac, AV.cells, AV.isTup, qbin, binInt, qindexAddr, qfieldAddr, qload, qextract, needAll, ned, partsOf, fitAll, AC.fits, abuildSlice, elems, setPart, appSrc, aappend, newObj, ASt.setObj, ASt.obj, ASt.map, frzRefs, AV.map, AObj.map, AC.kill, dvs, AC.dv, DV.ac, leD, leD1, ofCells, TI.isAgg, isScalar, avOf, acOf, AC.ren, giveBack, afterCall, eInt, eList, ePair, List.getD_cons_succ, List.getD_cons_zero, List.set_cons_succ, List.set_cons_zero, List.map_cons, List.map_nil, List.replicate_succ, List.replicate_zero, List.cons_append, List.nil_append, List.append_nil, List.length_cons, List.length_nil, List.drop_zero, List.take_succ_cons, List.take_zero, List.take_nil, List.headD_cons, List.all_cons, List.all_nil, List.flatMap_cons, List.flatMap_nil, List.getElem?_cons_succ, List.getElem?_cons_zero, Nat.reduceLT, Int.cast_ofNat_Int, Int.natCast_add, ↓ex_rfl, cast_eq, heq_eq_eq, DV.int.injEq, exists_eq_left', Int.toNat_natCast, true_and, and_true, and_self, forall_const, false_implies, not_false_eq_true, Bool.and_true, Bool.true_eq_false, Bool.not_false, cond_true, cond_false, beq_self_eq_true, Nat.zero_add, Nat.reduceAdd, Nat.reduceMul, Nat.reduceBEq, Nat.reduceLeDiff, Nat.le_refl, eq_self, Nat.succ_ne_self, decide_false, tab_3, tab_26, tab_74, z3, hOj, hOl, w1]
          refine ⟨⟨by omega, by omega⟩, by omega, by omega, j + 1, by omega, by omega, ?_⟩
          rw [s1, s2]
          (simp only [LessC, lessS, lessO, belowS, belowO, AV.below, AObj.below, AC.below, List.length_cons, List.length_nil, List.all_cons, List.all_nil, Nat.reduceLT, Int.cast_ofNat_Int, Int.natCast_add, AV.c.injEq, AC.int.injEq, true_and, and_true, and_self, reduceCtorEq, Bool.and_true, Nat.zero_add, Nat.reduceAdd, Nat.reduceLeDiff, eq_self, decide_true, or_true, or_false, false_or] <;> try omega)
          all_goals exact i64_in _ (by omega)
      · have hjn : j = f.length + 1 := by omega
        subst hjn
        have w1 : IntKind.i64.wrap (outV f l nx i + inV f l nx i) = outV f l nx i + inV f l nx i := i64_in _ (by omega)
        have w2 : IntKind.i64.wrap (sm (outL f l nx) (inL f l nx) i + (outV f l nx i + inV f l nx i)) = sm (outL f l nx) (inL f l nx) (i + 1) := by
          have e : sm (outL f l nx) (inL f l nx) (i + 1) = sm (outL f l nx) (inL f l nx) i + ((outL f l nx).getD i 0 + (inL f l nx).getD i 0) := rfl
          rw [i64_in _ (by omega), e, hO, hI]
        by_cases hz : f.length = 0
        · have z1 : ((0 : Int) < (f.length : Int)) = False := eq_false (by omega)
          have z2 : ((f.length : Int) = 0) = True := eq_true (by omega)
          have ei : i = 0 := by omega
          have v1 : outV f l nx i = 0 := by
            have : gmax (cellV f l nx i) i (f.length + 1) = low := by rw [hz, ei]; rfl
            unfold outV orZero
            rw [if_pos this]
          have v2 : inV f l nx i = 0 := by
            have : gmax (inC f l nx i) i (f.length + 1) = low := by rw [hz, ei]; rfl
            unfold inV orZero
            rw [if_pos this]
          refine DrawAt.plan tabOK mixed (.take 0 false (.take 1 false (.take 2 false (.take 3 false (.take 4 false (.take 5 false (.take 6 false (.take 7 false (.take 8 false (.alt 9 (.take 10 false (.take 11 true (.take 12 false (.take 13 false (.take 14 false (.take 15 false (.take 16 false (.take 17 true (.alt 18 (.take 19 true (.take 20 true (.take 21 true (.take 22 true (.take 23 true (.take 24 true (.take 25 true (.take 26 true (.take 27 true (.take 28 true (.take 29 true (.take 30 true (.take 31 true (.take 32 true (.take 33 true (.take 34 true (.take 35 true (.take 36 true (.take 37 true (.take 38 true (.take 39 true (.take 40 true (.take 41 true .done))))))))))))))))))))))) .stop))))))))) .stop)))))))))) (by decide +kernel) ?_
          simp only [avc_done, avc_stop, avc_take, avc_alt, qstep, lstep, ownLoad, put_n0, VC_skip, VC_region, VC_draw, VC_seq, VC_cond, VC_ret, aops_nil, aops_cons, put_some, aop, qop, isQuiet, ASt.eval, ASt.ev, AV.strip, AV.need, AV.ac, AV.isTup, onG, guardOf, qbin, binInt, qpick, qpick0, qindexAddr, qfieldAddr, qload, ned, DV.ac, ofCells, TI.isAgg, isScalar, avOf, acOf, eInt, eList, ePair, List.getD_cons_succ, List.getD_cons_zero, List.set_cons_succ, List.set_cons_zero, List.map_cons, List.map_nil, List.cons_append, List.nil_append, List.length_cons, List.length_nil, List.drop_succ_cons, List.drop_zero, List.take_succ_cons, List.take_zero, List.take_nil, List.headD_cons, List.getElem?_cons_succ, List.getElem?_cons_zero, Option.bind_some, Int.cast_ofNat_Int, Int.natCast_add, Int.toNat_natCast, implies_true, imp_self, beq_true, true_and, and_true, and_self, forall_const, false_implies, not_false_eq_true, Bool.and_true, Bool.and_false, Bool.false_eq_true, Bool.not_true, Bool.not_false, cond_true, cond_false, beq_self_eq_true, Nat.zero_add, Nat.reduceAdd, Nat.reduceLeDiff, Nat.le_refl, eq_self, Nat.succ_ne_self, decide_true, decide_false, and_false, false_and, or_true, tab_3, tab_26, tab_74, z1, z2, hO, hI, hOl, hIl, v1, v2]
          refine ⟨⟨by omega, by omega⟩, ⟨by omega, by omega⟩, ?_⟩
          refine DrawAt.plan tabOK mixed (.take 0 true (.take 1 true (.take 2 true (.take 3 true (.take 4 true (.take 5 true (.take 6 true (.take 7 true (.take 8 true (.take 9 true (.take 10 true (.take 11 true (.take 12 true (.take 13 true .done)))))))))))))) (by decide +kernel) ?_
          simp only [avc_done, avc_take, qstep, ownLoad, VC_region, aops_nil, aops_cons, put_some, qop, isQuiet, ASt.eval, AV.need, AV.ac, qbin, binInt, qindexAddr, qfieldAddr, qload, DV.ac, ofCells, TI.isAgg, isScalar, avOf, acOf, eInt, eList, ePair, List.getD_cons_succ, List.getD_cons_zero, List.set_cons_succ, List.set_cons_zero, List.map_cons, List.map_nil, List.cons_append, List.nil_append, List.length_cons, List.length_nil, List.drop_succ_cons, List.drop_zero, List.take_succ_cons, List.take_zero, List.take_nil, List.headD_cons, List.getElem?_cons_succ, List.getElem?_cons_zero, Int.cast_ofNat_Int, Int.natCast_add, Int.toNat_natCast, true_and, and_self, not_false_eq_true, Nat.zero_add, Nat.reduceAdd, Nat.reduceLeDiff, Nat.le_refl, eq_self, Nat.succ_ne_self, or_true, tab_3, tab_26, tab_74, hO, hI, hOl, hIl, w1, w2]
          refine ⟨⟨by omega, by omega⟩, ⟨by omega, by omega⟩, i + 1, by omega, by omega, ?_⟩
          (simp only [LessC, lessS, lessO, belowS, belowO, AV.below, AC.below, List.length_nil, List.all_cons, List.all_nil, Int.cast_ofNat_Int, Int.natCast_add, AV.c.injEq, AC.int.injEq, true_and, and_true, and_self, reduceCtorEq, Bool.and_true, Nat.le_refl, eq_self, or_true, or_false, false_or] <;> try omega)
          all_goals exact i64_in _ (by omega)
        · have z1 : ((0 : Int) < (f.length : Int)) = True := eq_true (by omega)
          have z2 : ((f.length : Int) = 0) = False := eq_false (by omega)
          obtain ⟨k, hk, hki⟩ : ∃ k, k < f.length + 1 ∧ ¬ k = i := by
            by_cases e : i = 0
            · exact ⟨1, by omega, by omega⟩
            · exact ⟨0, by omega, by omega⟩
          have v1 := (outV_le ht hf (i := i) (k := k) (by omega) (by omega) (fun e => hki e.symm)).1
          have v2 := (inV_le ht hf (i := k) (k := i) (by omega) (by omega) hki).1
          refine DrawAt.plan tabOK mixed (.take 0 false (.take 1 false (.take 2 false (.take 3 false (.take 4 false (.take 5 false (.take 6 false (.take 7 false (.take 8 false (.alt 9 (.take 10 false (.take 11 true (.take 12 false (.take 13 false (.take 14 false (.take 15 false (.take 16 false (.take 17 true (.alt 18 (.take 19 true (.take 20 true (.take 21 true (.take 22 true (.take 23 true (.take 24 true (.take 25 true (.take 26 true (.take 27 true (.take 28 true (.take 29 true (.take 30 true (.take 31 true (.take 32 true (.take 33 true (.take 34 true (.take 35 true (.take 36 true (.take 37 true (.take 38 true (.take 39 true (.take 40 true (.take 41 true .done))))))))))))))))))))))) .stop))))))))) .stop)))))))))) (by decide +kernel) ?_
          simp only [avc_stop, avc_take, avc_alt, qstep, lstep, ownLoad, put_n0, put_some, aop, qop, isQuiet, ASt.eval, ASt.ev, AV.strip, AV.need, AV.ac, AV.isTup, onG, guardOf, qbin, binInt, qindexAddr, qfieldAddr, qload, ned, DV.ac, ofCells, TI.isAgg, isScalar, avOf, acOf, eInt, eList, ePair, List.getD_cons_succ, List.getD_cons_zero, List.set_cons_succ, List.set_cons_zero, List.map_cons, List.map_nil, List.cons_append, List.nil_append, List.length_cons, List.length_nil, List.drop_zero, List.take_succ_cons, List.take_zero, List.take_nil, List.headD_cons, List.getElem?_cons_succ, List.getElem?_cons_zero, Option.bind_some, Int.cast_ofNat_Int, Int.natCast_add, Int.toNat_natCast, implies_true, imp_self, true_and, and_true, and_self, forall_const, not_false_eq_true, Bool.false_eq_true, Bool.true_eq_false, beq_self_eq_true, Nat.zero_add, Nat.reduceAdd, Nat.reduceLeDiff, Nat.le_refl, eq_self, Nat.succ_ne_self, decide_true, and_false, or_true, tab_3, tab_26, tab_74, z1, hO, hOl]
          refine ⟨⟨by omega, by omega⟩, ?_⟩
          refine CallAt.view [0] (max_spec (gl (cellV f l nx i) i (f.length + 1)) (gl_pos hk hki) (by omega) (fun x hx => ?_)) rfl (fun r os h => by obtain ⟨rfl, rfl⟩ := h; exact ⟨trivial, fun _ h => by cases h⟩) ?_
          · obtain ⟨k', h1, h2, rfl⟩ := gl_mem hx
            have := cellV_bounds ht hf (i := i) (k := k') (by omega) (by omega) (fun e => h2 e.symm)
            unfold low
            omega
          rintro r os ⟨rfl, rfl⟩
          rw [gl_max, v1]
          simp only [avc_stop, avc_take, avc_alt, qstep, lstep, ownLoad, put_n0, put_some, aop, qop, isQuiet, ASt.eval, ASt.ev, AV.strip, AV.need, AV.ac, AV.isTup, onG, guardOf, qbin, binInt, qpick, qindexAddr, qfieldAddr, qload, ned, AV.map, DV.ac, ofCells, TI.isAgg, isScalar, avOf, acOf, AC.ren, giveBack, afterCall, eInt, eList, ePair, List.getD_cons_succ, List.getD_cons_zero, List.set_cons_succ, List.set_cons_zero, List.map_cons, List.map_nil, List.cons_append, List.nil_append, List.append_nil, List.length_cons, List.length_nil, List.drop_succ_cons, List.drop_zero, List.take_succ_cons, List.take_nil, List.headD_cons, List.getElem?_cons_succ, List.getElem?_cons_zero, Option.bind_some, Int.cast_ofNat_Int, Int.natCast_add, Int.toNat_natCast, implies_true, imp_self, true_and, and_true, and_self, forall_const, not_false_eq_true, Bool.and_true, Bool.false_eq_true, Bool.true_eq_false, Bool.not_true, Bool.not_false, beq_self_eq_true, Nat.zero_add, Nat.reduceAdd, Nat.le_refl, eq_self, Nat.succ_ne_self, decide_true, and_false, or_true, tab_3, tab_26, tab_74, hI, hIl]
          refine ⟨⟨by omega, by omega⟩, ?_⟩
          refine CallAt.view [1] (max_spec (gl (inC f l nx i) i (f.length + 1)) (gl_pos hk hki) (by omega) (fun x hx => ?_)) rfl (fun r os h => by obtain ⟨rfl, rfl⟩ := h; exact ⟨trivial, fun _ h => by cases h⟩) ?_
          · obtain ⟨k', h1, h2, rfl⟩ := gl_mem hx
            have := inC_bounds ht hf (i := k') (k := i) (by omega) (by omega) h2
            unfold low
            omega
          rintro r os ⟨rfl, rfl⟩
          rw [gl_max, v2]
          simp only [avc_done, avc_take, qstep, ownLoad, VC_skip, VC_region, VC_draw, VC_seq, VC_cond, VC_ret, aops_nil, aops_cons, put_some, qop, isQuiet, ASt.eval, AV.need, AV.ac, onG, guardOf, qbin, binInt, qpick, qpick0, qindexAddr, qfieldAddr, qload, AV.map, DV.ac, ofCells, TI.isAgg, isScalar, avOf, acOf, AC.ren, giveBack, afterCall, eInt, eList, ePair, List.getD_cons_succ, List.getD_cons_zero, List.set_cons_succ, List.set_cons_zero, List.map_cons, List.map_nil, List.cons_append, List.nil_append, List.append_nil, List.length_cons, List.length_nil, List.drop_succ_cons, List.drop_zero, List.take_succ_cons, List.take_zero, List.take_nil, List.headD_cons, List.getElem?_cons_succ, List.getElem?_cons_zero, Option.bind_some, Int.cast_ofNat_Int, Int.natCast_add, Int.toNat_natCast, implies_true, imp_self, beq_false, beq_true, Bool.cond_true_left, true_and, and_self, forall_const, false_implies, not_false_eq_true, Bool.and_true, Bool.and_false, Bool.false_and, Bool.false_eq_true, Bool.not_true, Bool.not_false, cond_true, cond_false, beq_self_eq_true, Nat.zero_add, Nat.reduceAdd, Nat.reduceLeDiff, Nat.le_refl, eq_self, Nat.succ_ne_self, decide_true, decide_false, or_true, tab_3, tab_26, tab_74, z2, hO, hI, hOl, hIl]
          refine DrawAt.plan tabOK mixed (.take 0 true (.take 1 true (.take 2 true (.take 3 true (.take 4 true (.take 5 true (.take 6 true (.take 7 true (.take 8 true (.take 9 true (.take 10 true (.take 11 true (.take 12 true (.take 13 true .done)))))))))))))) (by decide +kernel) ?_
          simp only [avc_done, avc_take, qstep, ownLoad, VC_region, aops_nil, aops_cons, put_some, qop, isQuiet, ASt.eval, AV.need, AV.ac, qbin, binInt, qindexAddr, qfieldAddr, qload, DV.ac, ofCells, TI.isAgg, isScalar, avOf, acOf, eInt, eList, ePair, List.getD_cons_succ, List.getD_cons_zero, List.set_cons_succ, List.set_cons_zero, List.map_cons, List.map_nil, List.cons_append, List.nil_append, List.length_cons, List.length_nil, List.drop_succ_cons, List.drop_zero, List.take_succ_cons, List.take_zero, List.take_nil, List.headD_cons, List.getElem?_cons_succ, List.getElem?_cons_zero, Int.cast_ofNat_Int, Int.natCast_add, Int.toNat_natCast, true_and, and_self, not_false_eq_true, Nat.zero_add, Nat.reduceAdd, Nat.reduceLeDiff, Nat.le_refl, eq_self, Nat.succ_ne_self, or_true, tab_3, tab_26, tab_74, hO, hI, hOl, hIl, w1, w2]
          refine ⟨⟨by omega, by omega⟩, ⟨by omega, by omega⟩, i + 1, by omega, by omega, ?_⟩
          (simp only [LessC, lessS, lessO, belowS, belowO, AV.below, AC.below, List.length_nil, List.all_cons, List.all_nil, Int.cast_ofNat_Int, Int.natCast_add, AV.c.injEq, AC.int.injEq, true_and, and_true, and_self, reduceCtorEq, Bool.and_true, Nat.le_refl, eq_self, or_true, or_false, false_or] <;> try omega)
          all_goals exact i64_in _ (by omega)
    · have hin : i = f.length + 1 := by omega
      rw [hin]
      (refine RetAt.leaf ?_ ?_ <;> simp only [resOf, tupOf, ASt.eval, AV.strip, AV.need, AV.map, AC.ren, List.getD_cons_succ, List.getD_cons_zero, Int.cast_ofNat_Int, Int.natCast_add, and_self, eq_self, decide_true])
  · refine CallAt.plain (holdsE_spec f l nx ou inn h0 h1 h2 h3 h4) rfl ?_
    rintro r os ⟨rfl, rfl⟩
    simp only [VC_region, VC_seq, aops_nil, aops_cons, put_some, aop, qop, isQuiet, ASt.eval, ASt.ev, AV.strip, AV.need, AV.ac, AV.isTup, qload, qextract, ned, ASt.obj, AV.map, ofCells, TI.isAgg, AC.ren, giveBack, afterCall, eInt, eList, ePair, List.getD_cons_succ, List.getD_cons_zero, List.set_cons_succ, List.set_cons_zero, List.map_cons, List.map_nil, List.cons_append, List.nil_append, List.append_nil, List.length_cons, List.length_nil, List.drop_zero, List.take_succ_cons, List.take_nil, List.headD_cons, List.getElem?_cons_succ, List.getElem?_cons_zero, true_and, and_self, reduceCtorEq, not_false_eq_true, Nat.zero_add, Nat.reduceAdd, Nat.le_refl, eq_self, tab_53]
    refine CallAt.plain (proveE_spec f l nx h0 h1 h2 h3 h4) rfl ?_
    rintro r os ⟨rfl, rfl⟩
    simp only [VC_region, VC_seq, aops_nil, aops_cons, put_some, put_none, aop, qop, isQuiet, ASt.eval, ASt.ev, AV.strip, AV.need, AV.ac, AV.cells, AV.isTup, qload, qextract, splice, ned, AC.fits, astore, newObj, ASt.setObj, ASt.obj, AV.map, ofCells, TI.isAgg, AC.ren, giveBack, afterCall, eInt, eList, ePair, List.getD_cons_succ, List.getD_cons_zero, List.set_cons_succ, List.set_cons_zero, List.map_cons, List.map_nil, List.cons_append, List.nil_append, List.append_nil, List.length_cons, List.length_nil, List.drop_succ_cons, List.drop_zero, List.drop_nil, List.take_succ_cons, List.take_zero, List.take_nil, List.headD_cons, List.all_cons, List.all_nil, List.getElem?_cons_succ, List.getElem?_cons_zero, true_and, and_self, reduceCtorEq, not_false_eq_true, Bool.and_true, Nat.zero_add, Nat.reduceAdd, Nat.le_refl, eq_self, tab_53, tab_74]
    refine CallAt.plain (tableCheck_spec f l nx h1 h2 h3 h4) rfl ?_
    rintro r os ⟨rfl, rfl⟩
    simp only [VC_skip, VC_region, VC_seq, VC_cond, VC_ret, aops_nil, aops_cons, put_some, aop, qop, isQuiet, ASt.eval, ASt.ev, AV.strip, AV.need, AV.ac, AV.isTup, onG, guardOf, qbin, binInt, qpick, qpick0, qlen, qfieldAddr, qload, ned, ASt.obj, AV.map, ofCells, TI.isAgg, isScalar, avOf, acOf, AC.ren, giveBack, afterCall, eInt, eList, ePair, List.getD_cons_succ, List.getD_cons_zero, List.set_cons_succ, List.set_cons_zero, List.map_cons, List.map_nil, List.cons_append, List.nil_append, List.append_nil, List.length_cons, List.length_nil, List.drop_succ_cons, List.drop_zero, List.take_succ_cons, List.take_zero, List.take_nil, List.headD_cons, List.getElem?_cons_succ, List.getElem?_cons_zero, Option.bind_some, implies_true, true_and, and_true, and_self, forall_const, reduceCtorEq, false_implies, not_false_eq_true, Bool.and_true, Bool.true_eq_false, Bool.not_false, cond_true, beq_self_eq_true, Nat.add_zero, Nat.zero_add, Nat.reduceAdd, Nat.reduceLeDiff, Nat.le_refl, eq_self, Nat.succ_ne_self, decide_true, decide_false, tab_3, tab_26, tab_34, tab_53, tab_74, h0]
    (refine RetAt.leaf ?_ ?_ <;> simp only [resOf, tupOf, ASt.eval, AV.strip, AV.need, AV.map, AC.ren, List.getD_cons_succ, List.getD_cons_zero, and_self, eq_self])
end Go.Vc.Pc
