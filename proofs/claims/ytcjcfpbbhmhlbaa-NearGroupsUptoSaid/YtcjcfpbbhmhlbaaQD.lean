/- Groups. -/
import Derived.Test.YtcjcfpbbhmhlbaaQC
import Derived.Test.YtcjcfpbbhmhlbaaV28
set_option linter.unusedVariables false
set_option linter.unusedSimpArgs false
namespace Go.Vc.Ng
open Go.Proofs Go.IntWalk Go.Vc.Ne
set_option maxRecDepth 100000
abbrev rowI (xs : List Int) : AObj := .row 3 1 Int 0 (fun n => [.int .i64 n]) xs
abbrev rowII (xss : List (List Int)) : AObj := .row 25 1 (List Int) [] (fun xs => [.list 1 Int 0 (fun n => [.int .i64 n]) xs]) xss
/-- the first i are told -/
def idTo (n i : Nat) : List Nat := List.range i ++ List.replicate (n - i) 0
theorem idTo_len {n i : Nat} (h : i ≤ n) : (idTo n i).length = n := by simp [idTo]; omega
theorem idTo_zero {n : Nat} : zeros n (0 : Int) = zs (idTo n 0) := by simp [zeros, zs, idTo]
theorem idTo_full {n : Nat} : idTo n n = List.range n := by simp [idTo]
theorem idTo_set {n i : Nat} (h : i < n) : (idTo n i).set i i = idTo n (i + 1) := by
  unfold idTo
  rw [List.set_append_right _ _ (by simp), List.length_range, Nat.sub_self, show n - i = (n - (i + 1)) + 1 by omega, List.replicate_succ, List.set_cons_zero, List.range_succ, List.append_assoc]
  rfl
theorem fold_next {E : List (Nat × Nat)} {r : List Nat} {j : Nat} (h : j < E.length) : (E.take (j + 1)).foldl mrg r = mrg ((E.take j).foldl mrg r) (E.getD j (0, 0)) := by
  rw [take_next E j (0, 0) h, List.foldl_append]
  rfl
theorem fold_len {l : List (Nat × Nat)} : ∀ {r : List Nat}, (l.foldl mrg r).length = r.length := by
  induction l with
  | nil => intro r; rfl
  | cons p l ih => intro r; rw [List.foldl_cons, ih]; simp [mrg]
set_option maxHeartbeats 8000000 in
theorem groups_ok (ds : List (List Int)) (num den : Int) (hl : ds.length ≤ 1048576) (hb : ∀ d ∈ ds, d.length ≤ 1048576) (h0 : chk ds num den = 0) : ACall Try.prog 16 [.c (rBB ds), .c (.int .i64 num), .c (.int .i64 den)] [] (fun r os =>
    r = .tup [(false, [.sl 0]), (false, [.int .i64 0])] ∧ os = [rowII (outTo (mrgs (prsTo (edge ds num den) ds.length ds.length) ds.length) ds.length ds.length)]) := by
  obtain ⟨k1, k2, k3, k4, k5⟩ := chk_zero h0
  (refine ACall.of_body (nt := 111) (rs := [.tmp 6, .tmp 7]) tabOK Try.func16 rfl rfl rfl rfl ?_; simp only [startSt, List.length_cons, List.length_nil, Nat.reduceAdd, Nat.reduceSub, List.replicate_succ, List.replicate_zero, List.cons_append, List.nil_append])
  simp only [VCp, VC_region, VC_seq, aops_nil, aops_cons, put_some, aop, qop, isQuiet, ASt.eval, ASt.ev, AV.strip, AV.need, AV.isTup, ned, avOf, acOf, List.getD_cons_succ, List.getD_cons_zero, List.set_cons_succ, List.set_cons_zero, List.map_cons, List.map_nil, true_and, and_self, Bool.and_true, cond_true, beq_self_eq_true, eq_self]
  refine CallAt.plain (pairs_spec ds num den hl hb) rfl ?_
  intro r os hr
  rcases hr with ⟨h, _⟩ | ⟨-, rfl, rfl⟩
  · exact absurd h0 h
  have hE := fun (p : Nat × Nat) (hp : p ∈ prsTo (edge ds num den) ds.length ds.length) => prsTo_mem hp
  have hEl := prsTo_len (f := edge ds num den) (n := ds.length) ds.length
  have hnn : ds.length * ds.length ≤ 60 * 60 := Nat.mul_le_mul (by omega) (by omega)
  generalize prsTo (edge ds num den) ds.length ds.length = E at *
  have hzn : (zeros ds.length (0 : Int)).length = ds.length := by simp [zeros]
  simp only [amakePlain, VC_skip, VC_region, VC_seq, VC_cond, VC_block, VC_loop, VC_ret, aops_nil, aops_cons, put_some, aop, qop, isQuiet, ASt.eval, AV.need, AV.ac, AV.isTup, qbin, binInt, qlen, qextract, ned, amake, newObj, ASt.obj, AV.map, AObj.map, isScalar, avOf, acOf, AC.ren, backIx, giveBack, afterCall, eInt, eList, List.getD_cons_succ, List.getD_cons_zero, List.set_cons_succ, List.set_cons_zero, List.map_cons, List.map_nil, List.cons_append, List.nil_append, List.length_cons, List.length_nil, List.headD_cons, List.getElem?_cons_succ, List.getElem?_cons_zero, List.getElem?_nil, Int.cast_ofNat_Int, Int.toNat_natCast, true_and, and_self, forall_const, false_implies, not_false_eq_true, Bool.and_true, Bool.false_eq_true, Bool.not_true, cond_true, beq_self_eq_true, Nat.add_zero, Nat.zero_add, Nat.reduceSub, eq_self, Nat.succ_ne_self, decide_true, tab_3, tab_23, tab_25, tab_28, hzn]
  refine ⟨by omega, by omega, by omega, by omega, ?_⟩
  refine LoopAt.freeze 0 ?_
  simp only [ASt.setObj, ASt.obj, ASt.map, ASt.freeze, AV.map, AObj.map, AC.frz, List.getD_cons_zero, List.set_cons_zero, List.map_cons, List.map_nil, cond_true, cond_false, beq_self_eq_true, Nat.reduceBEq]
  refine LoopAt.inv (ι := Nat) (T := tab) (fun i => [(38, .c (.int .i64 i))]) (fun i => [.gone, rowI (zs (idTo ds.length i))]) (fun i => i ≤ ds.length) (fun i => ds.length - i) tabOK 0 (Nat.zero_le _) ?_ ?_
  · (simp only [LessC, headSt, dsts, opDsts, resetS, putsS, lessS, lessO, belowS, belowO, AV.below, AObj.below, AC.below, List.set_cons_succ, List.set_cons_zero, List.cons_append, List.nil_append, List.append_nil, List.length_cons, List.length_nil, List.all_cons, List.all_nil, Nat.reduceLT, Int.cast_ofNat_Int, AV.c.injEq, AObj.row.injEq, heq_eq_eq, true_and, and_true, and_self, reduceCtorEq, Bool.and_true, Nat.zero_add, Nat.reduceAdd, Nat.reduceLeDiff, eq_self, decide_true, or_true] <;> try omega)
    exact idTo_zero
  intro i hi
  have hil := idTo_len hi
  simp only [VCp, headSt, dsts, opDsts, resetS, putsS, VC_skip, VC_region, VC_seq, VC_cond, VC_block, VC_loop, VC_exit, aops_nil, aops_cons, put_some, put_none, aop, qop, isQuiet, ASt.eval, ASt.ev, AV.strip, AV.need, AV.ac, AV.cells, AV.isTup, qbin, binInt, qlen, qindexAddr, splice, ned, astore, ASt.setObj, ASt.obj, frzRefs, dvs, AC.dv, leD, leD1, isScalar, avOf, acOf, eInt, eList, ePair, List.getD_cons_succ, List.getD_cons_zero, List.set_cons_succ, List.set_cons_zero, List.cons_append, List.nil_append, List.append_nil, List.length_cons, List.length_nil, List.drop_succ_cons, List.drop_nil, List.take_zero, DV.int.injEq, exists_eq_left', Int.toNat_natCast, decide_eq_true_eq, decide_eq_false_iff_not, Int.not_lt, true_and, and_true, and_self, not_false_eq_true, if_true, Nat.zero_add, Nat.le_refl, eq_self, Nat.succ_ne_self, tab_3, tab_25, tab_39, zs_len, hil]
  refine ⟨fun h => ?_, fun h => ?_⟩
  · refine ⟨⟨by omega, by omega⟩, by omega, i + 1, by omega, by omega, ?_⟩
    rw [← idTo_set (by omega), ← zs_set]
    (simp only [LessC, lessS, lessO, belowS, belowO, AV.below, AObj.below, AC.below, List.length_cons, List.length_nil, List.all_cons, List.all_nil, Nat.reduceLT, Int.cast_ofNat_Int, Int.natCast_add, AV.c.injEq, AC.int.injEq, true_and, and_true, and_self, reduceCtorEq, Bool.and_true, Nat.zero_add, Nat.reduceAdd, Nat.reduceLeDiff, eq_self, decide_true, or_true, or_false, false_or] <;> try omega)
    all_goals exact i64_in _ (by omega)
  have hin : i = ds.length := by omega
  rw [hin, idTo_full]
  refine LoopAt.inv (ι := Nat) (T := tab) (fun j => [(48, .c (.int .i64 j))]) (fun j => [.gone, rowI (zs ((E.take j).foldl mrg (List.range ds.length)))]) (fun j => j ≤ E.length) (fun j => E.length - j) tabOK 0 (Nat.zero_le _) ?_ ?_
  · simp only [zp_len]
    (simp only [LessC, headSt, dsts, opDsts, resetS, putsS, lessS, lessO, belowS, belowO, AV.below, AObj.below, AC.below, List.set_cons_succ, List.set_cons_zero, List.cons_append, List.nil_append, List.append_nil, List.length_cons, List.length_nil, List.take_zero, List.all_cons, List.all_nil, Nat.reduceLT, Int.cast_ofNat_Int, AV.c.injEq, AObj.row.injEq, heq_eq_eq, true_and, and_true, and_self, reduceCtorEq, Bool.and_true, Nat.zero_add, Nat.reduceAdd, Nat.reduceLeDiff, eq_self, decide_true, or_true] <;> try omega)
    rfl
  intro j hj
  simp only [VCp, headSt, dsts, opDsts, resetS, putsS, VC_skip, VC_region, VC_draw, VC_seq, VC_cond, VC_block, VC_loop, VC_exit, aops_nil, aops_cons, put_some, put_none, aop, qop, isQuiet, ASt.eval, ASt.ev, AV.strip, AV.need, AV.ac, AV.cells, AV.isTup, qbin, binInt, qlen, qindexAddr, qload, splice, ned, AC.fits, astore, newObj, ASt.setObj, ASt.obj, DV.ac, ofCells, TI.isAgg, isScalar, avOf, acOf, eInt, eList, ePair, List.getD_cons_succ, List.getD_cons_zero, List.set_cons_succ, List.set_cons_zero, List.map_cons, List.map_nil, List.cons_append, List.nil_append, List.append_nil, List.length_cons, List.length_nil, List.drop_succ_cons, List.drop_nil, List.take_succ_cons, List.take_zero, List.take_nil, List.all_cons, List.all_nil, Int.toNat_natCast, decide_eq_true_eq, decide_eq_false_iff_not, Int.not_lt, true_and, and_self, reduceCtorEq, not_false_eq_true, Bool.and_true, cond_true, beq_self_eq_true, if_true, Nat.zero_add, Nat.reduceAdd, Nat.le_refl, eq_self, tab_3, tab_23, tab_39, tab_40, zp_len]
  refine ⟨fun h => ?_, fun h => ?_⟩
  · have hj' : j < E.length := by omega
    have hp := hE (E.getD j (0, 0)) (getD_in _ hj')
    have hrl : ((E.take j).foldl mrg (List.range ds.length)).length = ds.length := by rw [fold_len]; simp
    have hnx := fold_next (r := List.range ds.length) hj'
    have hz := zp_get (l := E) (0, 0) hj'
    refine ⟨⟨by omega, by omega⟩, ?_⟩
    simp only [hz]
    generalize (E.take j).foldl mrg (List.range ds.length) = r at *
    generalize E.getD j (0, 0) = p at *
    obtain ⟨a, b⟩ := p
    simp only at hp hnx ⊢
    refine DrawAt.plan tabOK mixed (.take 0 true (.take 1 true (.take 2 true (.take 3 true (.take 4 true (.take 5 true (.take 6 true (.take 7 true (.take 8 true (.take 9 true (.take 10 true (.take 11 true .done)))))))))))) (by decide +kernel) ?_
    simp only [avc_done, avc_take, qstep, ownLoad, VC_region, VC_seq, VC_block, VC_loop, aops_nil, aops_cons, put_some, qop, isQuiet, ASt.eval, AV.need, AV.ac, qlen, qindexAddr, qload, ASt.obj, DV.ac, ofCells, TI.isAgg, avOf, acOf, eInt, eList, ePair, List.getD_cons_succ, List.getD_cons_zero, List.set_cons_succ, List.set_cons_zero, List.map_cons, List.map_nil, List.cons_append, List.nil_append, List.length_cons, List.length_nil, List.drop_succ_cons, List.drop_zero, List.take_succ_cons, List.take_zero, List.take_nil, List.headD_cons, List.getElem?_cons_succ, List.getElem?_cons_zero, Int.reduceLT, Int.reduceLE, Int.cast_ofNat_Int, Int.toNat_natCast, Int.reduceToNat, true_and, and_true, and_self, not_false_eq_true, Bool.true_eq_false, Nat.add_zero, Nat.zero_add, Nat.reduceAdd, Nat.reduceMul, Nat.reduceLeDiff, Nat.le_refl, eq_self, Nat.succ_ne_self, or_true, or_false, tab_3, tab_25, tab_40, zs_len, hrl, zs_get]
    refine ⟨⟨by omega, by omega⟩, by omega, ⟨by omega, by omega⟩, by omega, ?_⟩
    have hmax : (if ((r.getD b 0 : Nat) : Int) > ((r.getD a 0 : Nat) : Int) then ((r.getD b 0 : Nat) : Int) else ((r.getD a 0 : Nat) : Int)) = ((max (r.getD a 0) (r.getD b 0) : Nat) : Int) := by split <;> omega
    have hmin : (if ((r.getD b 0 : Nat) : Int) < ((r.getD a 0 : Nat) : Int) then ((r.getD b 0 : Nat) : Int) else ((r.getD a 0 : Nat) : Int)) = ((min (r.getD a 0) (r.getD b 0) : Nat) : Int) := by split <;> omega
    refine LoopAt.inv (ι := Nat) (T := tab) (fun k => [(64, .c (.int .i64 k))]) (fun k => [.gone, rowI (zs (mixTo r (a, b) k)), .cells 40 [.int .i64 a, .int .i64 b]]) (fun k => k ≤ ds.length) (fun k => ds.length - k) tabOK 0 (Nat.zero_le _) ?_ ?_
    · (simp only [LessC, headSt, dsts, opDsts, resetS, putsS, lessS, lessO, belowS, belowO, AV.below, AObj.below, AC.below, List.set_cons_succ, List.set_cons_zero, List.cons_append, List.nil_append, List.append_nil, List.length_cons, List.length_nil, List.all_cons, List.all_nil, Nat.reduceLT, Int.cast_ofNat_Int, AV.c.injEq, AObj.row.injEq, heq_eq_eq, true_and, and_true, and_self, reduceCtorEq, Bool.and_true, Nat.zero_add, Nat.reduceAdd, Nat.reduceLeDiff, eq_self, decide_true, or_true] <;> try omega)
      rw [mixTo_zero]
    intro k hk
    have hmk := mixTo_len (r := r) (p := (a, b)) (k := k)
    simp only [VCp, headSt, dsts, opDsts, resetS, putsS, VC_skip, VC_region, VC_seq, VC_cond, VC_block, VC_loop, VC_exit, aops_nil, aops_cons, put_some, put_none, aop, qop, isQuiet, ASt.eval, ASt.ev, AV.strip, AV.need, AV.ac, AV.cells, AV.isTup, qbin, binInt, qmax, qmin, qlen, qindexAddr, qload, splice, ned, astore, ASt.setObj, ASt.obj, frzRefs, dvs, AC.dv, DV.ac, leD, leD1, ofCells, TI.isAgg, isScalar, avOf, acOf, eInt, eList, List.getD_cons_succ, List.getD_cons_zero, List.set_cons_succ, List.set_cons_zero, List.map_cons, List.map_nil, List.cons_append, List.nil_append, List.append_nil, List.length_cons, List.length_nil, List.drop_succ_cons, List.drop_zero, List.drop_nil, List.take_succ_cons, List.take_zero, List.take_nil, List.headD_cons, DV.int.injEq, exists_eq_left', Int.toNat_natCast, decide_eq_true_eq, decide_eq_false_iff_not, Int.not_lt, true_and, and_true, and_self, not_false_eq_true, Bool.and_true, cond_true, beq_self_eq_true, if_true, if_false, Nat.zero_add, Nat.reduceEqDiff, Nat.le_refl, eq_self, Nat.succ_ne_self, tab_3, tab_23, tab_25, zs_len, hmk, hrl, zs_get, hmax, hmin]
    refine ⟨fun h => ?_, fun h => ?_⟩
    · have hk' : k < ds.length := by omega
      have hg1 := mixTo_get (r := r) (p := (a, b)) (k := k) (by omega)
      have hn1 := mixTo_next (r := r) (p := (a, b)) (k := k) (by omega)
      have hm1 := mrg_get (r := r) (p := (a, b)) (k := k) (by omega)
      simp only [hg1]
      simp only at hm1
      refine ⟨⟨by omega, by omega⟩, by omega, fun he => ?_, fun he => ?_⟩
      · rw [if_pos (by omega)] at hm1
        refine ⟨⟨by omega, by omega⟩, by omega, k + 1, by omega, by omega, ?_⟩
        rw [hn1, hm1, ← zs_set]
        (simp only [LessC, lessS, lessO, belowS, belowO, AV.below, AObj.below, AC.below, List.length_cons, List.length_nil, List.all_cons, List.all_nil, Nat.reduceLT, Int.cast_ofNat_Int, Int.natCast_add, AV.c.injEq, AC.int.injEq, true_and, and_true, and_self, reduceCtorEq, Bool.and_true, Nat.zero_add, Nat.reduceAdd, Nat.reduceLeDiff, eq_self, decide_true, or_true, or_false, false_or] <;> try omega)
        all_goals exact i64_in _ (by omega)
      · rw [if_neg (by omega)] at hm1
        refine ⟨k + 1, by omega, by omega, ?_⟩
        rw [hn1, set_same (by omega) (by rw [hg1]; exact hm1)]
        (simp only [LessC, lessS, lessO, belowS, belowO, AV.below, AObj.below, AC.below, List.length_cons, List.length_nil, List.all_cons, List.all_nil, Nat.reduceLT, Int.cast_ofNat_Int, Int.natCast_add, AV.c.injEq, AC.int.injEq, true_and, and_true, and_self, reduceCtorEq, Bool.and_true, Nat.zero_add, Nat.reduceAdd, Nat.reduceLeDiff, eq_self, decide_true, or_true, or_false, false_or] <;> try omega)
        all_goals exact i64_in _ (by omega)
    · have hkn : k = ds.length := by omega
      rw [hkn, mixTo_full (by omega)]
      refine ⟨j + 1, by omega, by omega, ?_⟩
      rw [hnx]
      (simp only [LessC, lessS, lessO, belowS, belowO, AV.below, AObj.below, AC.below, List.length_cons, List.length_nil, List.all_cons, List.all_nil, Nat.reduceLT, Int.cast_ofNat_Int, Int.natCast_add, AV.c.injEq, AC.int.injEq, true_and, and_true, and_self, reduceCtorEq, Bool.and_true, Nat.zero_add, Nat.reduceAdd, Nat.reduceLeDiff, eq_self, decide_true, or_true, or_false, false_or] <;> try omega)
      all_goals exact i64_in _ (by omega)
  have hjn : j = E.length := by omega
  have hRl : ((E.take j).foldl mrg (List.range ds.length)).length = ds.length := by rw [fold_len]; simp
  rw [hjn, List.take_length] at hRl ⊢
  have hR : E.foldl mrg (List.range ds.length) = mrgs E ds.length := rfl
  rw [hR] at hRl ⊢
  generalize mrgs E ds.length = R at *
  refine LoopAt.freeze 1 ?_
  simp only [ASt.setObj, ASt.obj, ASt.map, ASt.freeze, AV.map, AObj.map, AC.frz, List.getD_cons_succ, List.getD_cons_zero, List.set_cons_succ, List.set_cons_zero, List.map_cons, List.map_nil, cond_true, beq_self_eq_true]
  refine LoopAt.adopt 18 25 1 (List Int) [] (fun xs => [.list 1 Int 0 (fun n => [.int .i64 n]) xs]) rfl (fun _ => rfl) ?_
  simp only [newObj, adopt, List.set_cons_succ, List.set_cons_zero, List.cons_append, List.nil_append, List.length_cons, List.length_nil, Nat.zero_add, Nat.reduceAdd]
  refine LoopAt.inv (ι := Nat) (T := tab) (fun i => [(84, .c (.int .i64 i)), (18, .c (.sl 2))]) (fun i => [.gone, .gone, rowII (outTo R ds.length i)]) (fun i => i ≤ ds.length) (fun i => ds.length - i) tabOK 0 (Nat.zero_le _) ?_ ?_
  · (simp only [LessC, headSt, dsts, opDsts, resetS, putsS, lessS, lessO, belowS, belowO, AV.below, AObj.below, AC.below, List.set_cons_succ, List.set_cons_zero, List.cons_append, List.nil_append, List.append_nil, List.length_cons, List.length_nil, List.all_cons, List.all_nil, Nat.reduceLT, Int.cast_ofNat_Int, AV.c.injEq, AObj.row.injEq, heq_eq_eq, true_and, and_true, and_self, reduceCtorEq, Bool.and_true, Nat.zero_add, Nat.reduceAdd, Nat.reduceLeDiff, eq_self, decide_true, or_true] <;> try omega)
    rfl
  intro i hi
  have hol := outTo_len (r := R) (n := ds.length) (i := i)
  simp only [VCp, headSt, dsts, opDsts, resetS, putsS, VC_skip, VC_region, VC_seq, VC_cond, VC_block, VC_loop, VC_exit, VC_ret, aops_nil, aops_cons, put_some, qop, isQuiet, ASt.eval, AV.need, AV.ac, qbin, binInt, qlen, isScalar, avOf, acOf, eInt, eList, List.getD_cons_succ, List.getD_cons_zero, List.set_cons_succ, List.set_cons_zero, List.cons_append, List.nil_append, List.append_nil, decide_eq_true_eq, decide_eq_false_iff_not, Int.not_lt, true_and, and_self, Bool.and_true, cond_true, beq_self_eq_true, if_true, eq_self, tab_3, tab_25, zs_len, hRl]
  refine ⟨fun h => ?_, fun h => ?_⟩
  · have hi' : i < ds.length := by omega
    have hnx := outTo_next (r := R) (n := ds.length) (i := i)
    refine LoopAt.thenFreeze 3 ?_
    refine LoopAt.adopt 20 3 1 Int 0 (fun n => [.int .i64 n]) rfl (fun _ => rfl) ?_
    simp only [newObj, ASt.setObj, ASt.obj, ASt.map, ASt.freeze, adopt, List.set_cons_succ, List.set_cons_zero, List.cons_append, List.nil_append, List.length_cons, List.length_nil, Nat.zero_add, Nat.reduceAdd]
    refine LoopAt.inv (ι := Nat) (T := tab) (fun k => [(89, .c (.int .i64 k)), (20, .c (.sl 3))]) (fun k => [.gone, .gone, rowII (outTo R ds.length i), rowI (zs (grpTo R i k))]) (fun k => k ≤ ds.length) (fun k => ds.length - k) tabOK 0 (Nat.zero_le _) ?_ ?_
    · (simp only [LessC, headSt, dsts, opDsts, resetS, putsS, lessS, lessO, belowS, belowO, AV.below, AObj.below, AC.below, List.set_cons_succ, List.set_cons_zero, List.cons_append, List.nil_append, List.append_nil, List.length_cons, List.length_nil, List.all_cons, List.all_nil, Nat.reduceLT, Int.cast_ofNat_Int, AV.c.injEq, AObj.row.injEq, heq_eq_eq, true_and, and_true, and_self, reduceCtorEq, Bool.and_true, Nat.zero_add, Nat.reduceAdd, Nat.reduceLeDiff, eq_self, decide_true, or_true] <;> try omega)
      rfl
    intro k hk
    have hgl := grpTo_len (r := R) (i := i) (k := k)
    have hgn := grpTo_next (r := R) (i := i) (k := k)
    simp only [VCp, headSt, dsts, opDsts, resetS, putsS, ownSl, ownPart, appRows, VC_skip, VC_region, VC_seq, VC_cond, VC_block, VC_exit, VC_ret, aops_nil, aops_cons, put_some, aop, qop, isQuiet, ASt.eval, AV.need, AV.ac, AV.cells, AV.isTup, qbin, binInt, qlen, qindexAddr, qload, needAll, ned, partsOf, fitAll, AC.fits, abuildSlice, elems, setPart, appSrc, aappend, newObj, ASt.setObj, ASt.obj, ASt.map, frzRefs, AV.map, AObj.map, AC.frz, AC.kill, dvs, AC.dv, DV.ac, leD, leD1, ofCells, TI.isAgg, isScalar, avOf, acOf, eInt, eList, List.getD_cons_succ, List.getD_cons_zero, List.set_cons_succ, List.set_cons_zero, List.map_cons, List.map_nil, List.replicate_succ, List.replicate_zero, List.cons_append, List.nil_append, List.append_nil, List.length_cons, List.length_nil, List.take_succ_cons, List.take_nil, List.headD_cons, List.all_cons, List.all_nil, List.flatMap_cons, List.flatMap_nil, Nat.reduceLT, ↓ex_rfl, cast_eq, heq_eq_eq, DV.int.injEq, exists_eq_left', Int.toNat_natCast, decide_eq_true_eq, decide_eq_false_iff_not, Int.not_lt, true_and, and_true, and_self, not_false_eq_true, Bool.and_true, cond_true, cond_false, beq_self_eq_true, if_true, if_false, Nat.zero_add, Nat.reduceAdd, Nat.reduceMul, Nat.reduceBEq, Nat.reduceEqDiff, Nat.reduceLeDiff, Nat.le_refl, eq_self, Nat.succ_ne_self, tab_3, tab_25, tab_46, zs_len, hRl, zs_get]
    refine ⟨fun h => ?_, fun h => ?_⟩
    · refine ⟨⟨by omega, by omega⟩, fun he => ?_, fun he => ?_⟩
      · rw [if_pos (by omega)] at hgn
        refine ⟨by omega, by omega, k + 1, by omega, by omega, ?_⟩
        rw [hgn, ← zs_add]
        (simp only [LessC, lessS, lessO, belowS, belowO, AV.below, AObj.below, AC.below, List.length_cons, List.length_nil, List.all_cons, List.all_nil, Nat.reduceLT, Int.cast_ofNat_Int, Int.natCast_add, AV.c.injEq, AC.int.injEq, true_and, and_true, and_self, reduceCtorEq, Bool.and_true, Nat.zero_add, Nat.reduceAdd, Nat.reduceLeDiff, eq_self, decide_true, or_true, or_false, false_or] <;> try omega)
        all_goals exact i64_in _ (by omega)
      · rw [if_neg (by omega)] at hgn
        refine ⟨k + 1, by omega, by omega, ?_⟩
        rw [hgn]
        (simp only [LessC, lessS, lessO, belowS, belowO, AV.below, AObj.below, AC.below, List.length_cons, List.length_nil, List.all_cons, List.all_nil, Nat.reduceLT, Int.cast_ofNat_Int, Int.natCast_add, AV.c.injEq, AC.int.injEq, true_and, and_true, and_self, reduceCtorEq, Bool.and_true, Nat.zero_add, Nat.reduceAdd, Nat.reduceLeDiff, eq_self, decide_true, or_true, or_false, false_or] <;> try omega)
        all_goals exact i64_in _ (by omega)
    · have hkn : k = ds.length := by omega
      rw [hkn]
      refine ⟨fun hl => ?_, fun hl => ?_⟩
      · rw [if_pos (by omega)] at hnx
        refine ⟨_, rfl, by omega, by omega, i + 1, by omega, by omega, ?_⟩
        rw [hnx]
        (simp only [LessC, lessS, lessO, belowS, belowO, AV.below, AObj.below, AC.below, List.length_cons, List.length_nil, List.all_cons, List.all_nil, Nat.reduceLT, Int.cast_ofNat_Int, Int.natCast_add, AV.c.injEq, AC.int.injEq, true_and, and_true, and_self, reduceCtorEq, Bool.and_true, Nat.zero_add, Nat.reduceAdd, Nat.reduceLeDiff, eq_self, decide_true, or_true, or_false, false_or] <;> try omega)
        all_goals exact i64_in _ (by omega)
      · rw [if_neg (by omega)] at hnx
        refine ⟨i + 1, by omega, by omega, ?_⟩
        rw [hnx]
        (simp only [LessC, lessS, lessO, belowS, belowO, AV.below, AObj.below, AC.below, List.length_cons, List.length_nil, List.all_cons, List.all_nil, Nat.reduceLT, Int.cast_ofNat_Int, Int.natCast_add, AV.c.injEq, AC.int.injEq, true_and, and_true, and_self, reduceCtorEq, Bool.and_true, Nat.zero_add, Nat.reduceAdd, Nat.reduceLeDiff, eq_self, decide_true, or_true, or_false, false_or] <;> try omega)
        all_goals exact i64_in _ (by omega)
  · have hin : i = ds.length := by omega
    rw [hin]
    refine RetAt.keeping [2] (by decide) ?_ ?_ <;> simp only [resOf, tupOf, compOf, keepObjs, keepObjs, XObj.amap, ASt.eval, AV.strip, AV.need, AV.map, AObj.map, findIx, AC.ren, List.getD_cons_succ, List.getD_cons_zero, List.map_cons, List.map_nil, and_self, cond_true, beq_self_eq_true, eq_self]
def GroupsR (ds : List (List Int)) (num den : Int) (r : AV) (os : List AObj) : Prop :=
  (¬ chk ds num den = 0 ∧ r = .tup [(false, [.nil]), (false, [.int .i64 (chk ds num den)])] ∧ os = []) ∨
  (chk ds num den = 0 ∧ r = .tup [(false, [.sl 0]), (false, [.int .i64 0])] ∧ os = [rowII (outTo (mrgs (prsTo (edge ds num den) ds.length ds.length) ds.length) ds.length ds.length)])
set_option maxHeartbeats 8000000 in
theorem groups_bad (ds : List (List Int)) (num den : Int) (hl : ds.length ≤ 1048576) (hb : ∀ d ∈ ds, d.length ≤ 1048576) (h0 : ¬ chk ds num den = 0) : ACall Try.prog 16 [.c (rBB ds), .c (.int .i64 num), .c (.int .i64 den)] [] (fun r os =>
    r = .tup [(false, [.nil]), (false, [.int .i64 (chk ds num den)])] ∧ os = []) := by
  (refine ACall.of_body (nt := 111) (rs := [.tmp 6, .tmp 7]) tabOK Try.func16 rfl rfl rfl rfl ?_; simp only [startSt, List.length_cons, List.length_nil, Nat.reduceAdd, Nat.reduceSub, List.replicate_succ, List.replicate_zero, List.cons_append, List.nil_append])
  simp only [VCp, VC_region, VC_seq, aops_nil, aops_cons, put_some, aop, qop, isQuiet, ASt.eval, ASt.ev, AV.strip, AV.need, AV.isTup, ned, avOf, acOf, List.getD_cons_succ, List.getD_cons_zero, List.set_cons_succ, List.set_cons_zero, List.map_cons, List.map_nil, true_and, and_self, Bool.and_true, cond_true, beq_self_eq_true, eq_self]
  refine CallAt.plain (pairs_spec ds num den hl hb) rfl ?_
  intro r os hr
  rcases hr with ⟨-, rfl, rfl⟩ | ⟨h, _⟩
  · simp only [amakePlain, VC_skip, VC_region, VC_seq, VC_cond, VC_block, VC_loop, VC_ret, aops_nil, aops_cons, put_some, aop, qop, isQuiet, ASt.eval, AV.need, AV.ac, AV.isTup, qbin, binInt, qlen, qextract, ned, amake, newObj, ASt.obj, AV.map, isScalar, avOf, acOf, AC.ren, giveBack, afterCall, eInt, eList, List.getD_cons_succ, List.getD_cons_zero, List.set_cons_succ, List.set_cons_zero, List.map_cons, List.map_nil, List.nil_append, List.append_nil, List.length_cons, List.length_nil, List.headD_cons, List.getElem?_cons_succ, List.getElem?_cons_zero, Int.cast_ofNat_Int, Int.toNat_natCast, true_and, and_true, and_self, forall_const, false_implies, not_false_eq_true, Bool.and_true, Bool.true_eq_false, Bool.not_false, cond_true, beq_self_eq_true, Nat.zero_add, eq_self, Nat.succ_ne_self, decide_false, tab_3, tab_23, tab_25, tab_28, h0]
    (refine RetAt.leaf ?_ ?_ <;> simp only [resOf, tupOf, compOf, ASt.eval, AV.strip, AV.need, AV.map, findIx, AC.ren, List.getD_cons_succ, List.getD_cons_zero, List.map_cons, List.map_nil, and_self, eq_self])
  · exact absurd h h0
theorem groups_spec (ds : List (List Int)) (num den : Int) (hl : ds.length ≤ 1048576) (hb : ∀ d ∈ ds, d.length ≤ 1048576) : ACall Try.prog 16 [.c (rBB ds), .c (.int .i64 num), .c (.int .i64 den)] [] (GroupsR ds num den) := by
  by_cases h0 : chk ds num den = 0
  · exact (groups_ok ds num den hl hb h0).mono fun r os h => .inr ⟨h0, h⟩
  · exact (groups_bad ds num den hl hb h0).mono fun r os h => .inl ⟨h0, h⟩
end Go.Vc.Ng
