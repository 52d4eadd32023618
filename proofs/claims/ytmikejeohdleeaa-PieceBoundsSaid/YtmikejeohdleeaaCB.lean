/- A bound is checked: the program. -/
import Derived.Test.YtmikejeohdleeaaCA
set_option linter.unusedVariables false
set_option linter.unusedSimpArgs false
namespace Go.Vc.Pc
open Go.Proofs Go.IntWalk
open Classical
set_option maxRecDepth 100000
abbrev bnd (ou inn : List Int) : AV := .agg [rI ou, rI inn]
def bad4 (x : Int) : Prop := x < -4000000 ∨ 4000000 < x
def over (f l : List Int) (nx : Mat) (ou inn : List Int) (i k : Nat) : Prop := ¬ i = k ∧ ou.getD i 0 + inn.getD k 0 < cellV f l nx i k
def big (f : List Int) (ou inn : List Int) : Prop := ∃ i, i ≤ f.length ∧ (bad4 (ou.getD i 0) ∨ bad4 (inn.getD i 0))
def clash (f l : List Int) (nx : Mat) (ou inn : List Int) : Prop := ∃ i k, i ≤ f.length ∧ k ≤ f.length ∧ over f l nx ou inn i k
def sm (ou inn : List Int) : Nat → Int
  | 0 => 0
  | i + 1 => sm ou inn i + (ou.getD i 0 + inn.getD i 0)
noncomputable def hE (f l : List Int) (nx : Mat) (ou inn : List Int) : Int :=
  if ou.length ≠ f.length + 1 ∨ inn.length ≠ f.length + 1 then 3 else if big f ou inn then 4 else if clash f l nx ou inn then 17 else 0
noncomputable def hS (f l : List Int) (nx : Mat) (ou inn : List Int) : Int := if hE f l nx ou inn = 0 then sm ou inn (f.length + 1) else 0
noncomputable abbrev hRes (f l : List Int) (nx : Mat) (ou inn : List Int) : AV := .tup [(false, [.int .i64 (hS f l nx ou inn)]), (false, [.int .i64 (hE f l nx ou inn)])]
theorem sm_bounds {ou inn : List Int} : ∀ {i : Nat}, (∀ j, j < i → ¬ bad4 (ou.getD j 0) ∧ ¬ bad4 (inn.getD j 0)) → -((i : Int) * 8000000) ≤ sm ou inn i ∧ sm ou inn i ≤ (i : Int) * 8000000
  | 0, _ => by simp [sm]
  | i + 1, h => by
    have ih := sm_bounds (i := i) fun j hj => h j (by omega)
    have h1 := h i (by omega)
    unfold bad4 at h1
    unfold sm
    omega
section
variable {f l : List Int} {nx : Mat} {ou inn : List Int}
theorem hE_form (h : ou.length ≠ f.length + 1 ∨ inn.length ≠ f.length + 1) : hE f l nx ou inn = 3 := if_pos h
theorem hE_big (h1 : ou.length = f.length + 1) (h2 : inn.length = f.length + 1) (h : big f ou inn) : hE f l nx ou inn = 4 := by unfold hE; rw [if_neg (by omega), if_pos h]
theorem hE_clash (h1 : ou.length = f.length + 1) (h2 : inn.length = f.length + 1) (h : ¬ big f ou inn) (hc : clash f l nx ou inn) : hE f l nx ou inn = 17 := by unfold hE; rw [if_neg (by omega), if_neg h, if_pos hc]
theorem hE_ok (h1 : ou.length = f.length + 1) (h2 : inn.length = f.length + 1) (h : ¬ big f ou inn) (hc : ¬ clash f l nx ou inn) : hE f l nx ou inn = 0 := by unfold hE; rw [if_neg (by omega), if_neg h, if_neg hc]
theorem hS_bad (h : ¬ hE f l nx ou inn = 0) : hS f l nx ou inn = 0 := if_neg h
theorem hS_ok (h : hE f l nx ou inn = 0) : hS f l nx ou inn = sm ou inn (f.length + 1) := if_pos h
theorem hRes_bad {e : Int} (h : hE f l nx ou inn = e) (he : ¬ e = 0) : hRes f l nx ou inn = .tup [(false, [.int .i64 0]), (false, [.int .i64 e])] := by
  unfold hRes
  rw [hS_bad (by rw [h]; exact he), h]
theorem hRes_ok (h : hE f l nx ou inn = 0) : hRes f l nx ou inn = .tup [(false, [.int .i64 (sm ou inn (f.length + 1))]), (false, [.int .i64 0])] := by
  unfold hRes
  rw [hS_ok h, h]
end
/-- an inner step's sum -/
def acc2 (S a b : Int) (j : Nat) : Int := if j = 0 then S else if j = 1 then S + a else S + a + b
set_option maxHeartbeats 16000000 in
theorem holds_spec (f l : List Int) (nx : Mat) (ou inn : List Int) (h0 : tchk f l nx = 0) (h4 : ou.length < 9223372036854775807) (h5 : inn.length < 9223372036854775807) :
    ACall Try.prog 41 [tbl f l nx, bnd ou inn] [] (fun r os => r = hRes f l nx ou inn ∧ os = []) := by
  obtain ⟨hn, ht, hf⟩ := tchk_ok h0
  have hll := ht.ll
  have hnl := ht.nl
  have hrl : ∀ r ∈ nx, r.length < 9223372036854775807 := fun r hr => by
    obtain ⟨i, hi, e⟩ := List.getElem_of_mem hr
    have := ht.rl i (by omega)
    rw [show nx.getD i [] = r by simp [List.getD, hi, e]] at this
    omega
  have wn : IntKind.i64.wrap ((f.length : Int) + 1) = ((f.length + 1 : Nat) : Int) := by rw [i64_in _ (by omega)]; omega
  (refine ACall.of_body (nt := 140) (rs := [.tmp 4, .tmp 5]) tabOK Try.func41 rfl rfl rfl rfl ?_; simp only [startSt, List.length_cons, List.length_nil, Nat.reduceAdd, Nat.reduceSub, List.replicate_succ, List.replicate_zero, List.cons_append, List.nil_append])
  simp only [VCp, VC_region, VC_seq, aops_nil, aops_cons, put_some, aop, qop, isQuiet, ASt.eval, ASt.ev, AV.strip, AV.need, AV.ac, AV.cells, AV.isTup, qload, ned, AC.fits, newObj, ASt.obj, ofCells, TI.isAgg, avOf, acOf, eInt, eList, ePair, List.getD_cons_succ, List.getD_cons_zero, List.set_cons_succ, List.set_cons_zero, List.map_cons, List.map_nil, List.cons_append, List.nil_append, List.length_cons, List.length_nil, List.drop_zero, List.take_succ_cons, List.take_nil, List.all_cons, List.all_nil, Int.reduceNeg, true_and, and_self, reduceCtorEq, not_false_eq_true, Bool.and_true, Nat.zero_add, Nat.reduceAdd, Nat.le_refl, eq_self, tab_53, tab_74]
  refine CallAt.plain (check_spec f l nx (by omega) (by omega) (by omega) hrl) rfl ?_
  rintro r os ⟨rfl, rfl⟩
  rw [h0]
  simp only [VC_skip, VC_region, VC_seq, VC_cond, VC_block, VC_loop, VC_ret, aops_nil, aops_cons, put_some, qop, isQuiet, ASt.eval, AV.need, AV.ac, onG, guardOf, qbin, binInt, qpick, qpick0, qlen, qfieldAddr, qload, ASt.obj, AV.map, ofCells, TI.isAgg, isScalar, avOf, acOf, AC.ren, giveBack, afterCall, eInt, eList, ePair, List.getD_cons_succ, List.getD_cons_zero, List.set_cons_succ, List.set_cons_zero, List.map_nil, List.cons_append, List.nil_append, List.append_nil, List.length_cons, List.length_nil, List.drop_succ_cons, List.drop_zero, List.take_succ_cons, List.take_zero, List.take_nil, List.headD_cons, List.getElem?_cons_succ, List.getElem?_cons_zero, Option.bind_some, Int.reduceNeg, Int.cast_ofNat_Int, Int.natCast_add, implies_true, imp_self, beq_false, decide_eq_false_iff_not, Bool.not_eq_true', Bool.cond_true_left, Bool.or_eq_true, Bool.or_eq_false_iff, true_and, and_self, forall_const, false_implies, not_false_eq_true, Bool.true_and, Bool.false_eq_true, Bool.not_true, Nat.add_zero, Nat.zero_add, Nat.reduceAdd, Nat.reduceLeDiff, Nat.le_refl, eq_self, Nat.succ_ne_self, decide_true, tab_3, tab_26, tab_34, tab_53, tab_74, wn]
  refine ⟨fun h => ?_, fun h => ?_⟩
  · (refine RetAt.leaf ?_ ?_ <;> simp only [resOf, tupOf, compOf, ASt.eval, AV.strip, AV.need, AV.map, findIx, AC.ren, List.getD_cons_succ, List.getD_cons_zero, List.map_cons, List.map_nil, and_true, and_self, eq_self])
    rw [hRes_bad (hE_form (by omega)) (by decide)]
    all_goals trivial
  have l1 : ou.length = f.length + 1 := by have := nd h.1; omega
  have l2 : inn.length = f.length + 1 := by have := nd h.2; omega
  refine LoopAt.fix 0 (LoopAt.fix 1 (renumL [] ⟨rfl, Nat.zero_le _, by decide⟩ ?_))
  simp only [ASt.renum, keepObjs, ASt.fix, AC.fixp, XObj.amap, ASt.setObj, ASt.obj, ASt.map, AV.map, AObj.map, dvs, AC.dv, findIx, AC.ren, List.getD_cons_succ, List.getD_cons_zero, List.set_cons_succ, List.set_cons_zero, List.map_cons, List.map_nil, List.drop_succ_cons, List.drop_zero, Int.reduceNeg, cond_true, cond_false, beq_self_eq_true, Nat.reduceBEq]
  refine LoopAt.inv (ι := Nat) (T := tab) (fun i => [(38, .c (.int .i64 i)), (8, .c (.int .i64 (sm ou inn i)))]) (fun i => [])
    (fun i => i ≤ f.length + 1 ∧ ∀ j, j < i → ¬ bad4 (ou.getD j 0) ∧ ¬ bad4 (inn.getD j 0)) (fun i => f.length + 1 - i) tabOK 0 ⟨Nat.zero_le _, fun j hj => by omega⟩ ?_ ?_
  · (simp only [LessC, headSt, dsts, opDsts, resetS, putsS, lessS, lessO, belowS, belowO, AV.below, AC.below, List.set_cons_succ, List.set_cons_zero, List.cons_append, List.nil_append, List.append_nil, List.length_nil, List.all_cons, List.all_nil, Int.cast_ofNat_Int, AV.c.injEq, AC.int.injEq, true_and, and_true, and_self, reduceCtorEq, Bool.and_true, Nat.le_refl, eq_self, or_true, or_false, false_or] <;> try omega)
    rfl
  rintro i ⟨hi, hgood⟩
  have hsm := sm_bounds hgood
  simp only [VCp, headSt, dsts, opDsts, resetS, putsS, VC_skip, VC_region, VC_draw, VC_seq, VC_cond, VC_block, VC_loop, VC_exit, aops_nil, aops_cons, put_some, qop, isQuiet, ASt.eval, AV.need, AV.ac, qbin, binInt, isScalar, avOf, acOf, eInt, List.getD_cons_succ, List.getD_cons_zero, List.set_cons_succ, List.set_cons_zero, List.cons_append, List.nil_append, List.append_nil, Int.reduceNeg, decide_eq_true_eq, decide_eq_false_iff_not, Int.not_lt, true_and, and_self, if_true, eq_self, tab_3]
  refine ⟨fun h => ?_, fun h => ?_⟩
  · have hi' : i < f.length + 1 := by omega
    refine DrawAt.plan tabOK mixed (.take 0 false (.take 1 false (.take 2 false (.take 3 false (.take 4 true (.take 5 false (.take 6 false (.take 7 false (.take 8 false (.take 9 true (.take 12 false (.alt 10 (.take 11 true .done) .stop)))))))))))) (by decide +kernel) ?_
    simp only [ownPart, avc_done, avc_stop, avc_take, avc_alt, qstep, lstep, ownLoad, VC_block, VC_loop, put_some, aop, qop, isQuiet, ASt.eval, AV.need, AV.ac, AV.cells, AV.isTup, qlen, qindexAddr, qfieldAddr, qload, needAll, partsOf, fitAll, AC.fits, abuildSlice, elems, setPart, newObj, ASt.obj, frzRefs, dvs, AC.dv, DV.ac, leD, leD1, ofCells, TI.isAgg, avOf, acOf, eInt, eList, ePair, List.getD_cons_succ, List.getD_cons_zero, List.set_cons_succ, List.set_cons_zero, List.map_cons, List.map_nil, List.replicate_succ, List.replicate_zero, List.cons_append, List.nil_append, List.append_nil, List.length_cons, List.length_nil, List.drop_succ_cons, List.drop_zero, List.take_succ_cons, List.take_zero, List.take_nil, List.headD_cons, List.all_cons, List.all_nil, List.flatMap_cons, List.flatMap_nil, List.getElem?_cons_succ, List.getElem?_cons_zero, Int.reduceNeg, Nat.reduceLT, Int.cast_ofNat_Int, DV.int.injEq, exists_eq_left', Int.toNat_natCast, true_and, and_true, and_self, not_false_eq_true, Bool.and_true, Bool.false_eq_true, Nat.zero_add, Nat.reduceAdd, Nat.reduceMul, Nat.reduceLeDiff, Nat.le_refl, eq_self, Nat.succ_ne_self, or_true, tab_3, tab_26, tab_74]
    refine ⟨⟨by omega, by omega⟩, ⟨by omega, by omega⟩, ?_⟩
    refine LoopAt.freeze 0 ?_
    simp only [ASt.setObj, ASt.obj, ASt.map, ASt.freeze, AV.map, AObj.map, AC.frz, List.getD_cons_zero, List.set_cons_zero, List.map_cons, List.map_nil, Int.reduceNeg, cond_true, beq_self_eq_true]
    have hbig : (bad4 (ou.getD i 0) ∨ bad4 (inn.getD i 0)) → big f ou inn := fun h => ⟨i, by omega, h⟩
    refine LoopAt.inv (ι := Nat) (T := tab) (fun j => [(53, .c (.int .i64 j)), (8, .c (.int .i64 (acc2 (sm ou inn i) (ou.getD i 0) (inn.getD i 0) j)))]) (fun j => [])
      (fun j => j ≤ 2 ∧ (0 < j → ¬ bad4 (ou.getD i 0)) ∧ (1 < j → ¬ bad4 (inn.getD i 0))) (fun j => 2 - j) tabOK 0 ⟨Nat.zero_le _, fun h => by omega, fun h => by omega⟩ ?_ ?_
    · (simp only [LessC, headSt, dsts, opDsts, resetS, putsS, lessS, lessO, belowS, belowO, AV.below, AC.below, List.set_cons_succ, List.set_cons_zero, List.cons_append, List.nil_append, List.append_nil, List.length_nil, List.all_cons, List.all_nil, Int.cast_ofNat_Int, AV.c.injEq, AC.int.injEq, true_and, and_true, and_self, reduceCtorEq, Bool.and_true, Nat.le_refl, eq_self, or_true, false_or] <;> try omega)
      all_goals rfl
    rintro j ⟨hj, hj1, hj2⟩
    rcases (by omega : j = 0 ∨ j = 1 ∨ j = 2) with rfl | rfl | rfl
    · have ea : acc2 (sm ou inn i) (ou.getD i 0) (inn.getD i 0) 0 = sm ou inn i := rfl
      have eb : acc2 (sm ou inn i) (ou.getD i 0) (inn.getD i 0) 1 = sm ou inn i + ou.getD i 0 := rfl
      rw [ea]
      simp only [VCp, headSt, dsts, opDsts, resetS, putsS, VC_skip, VC_region, VC_seq, VC_cond, VC_block, VC_loop, VC_exit, VC_ret, aops_nil, aops_cons, put_some, qop, isQuiet, ASt.eval, AV.need, AV.ac, onG, guardOf, qbin, binInt, qpick, qpick0, qindexAddr, qload, DV.ac, ofCells, TI.isAgg, isScalar, avOf, acOf, eInt, eList, List.getD_cons_succ, List.getD_cons_zero, List.set_cons_succ, List.set_cons_zero, List.map_cons, List.map_nil, List.cons_append, List.nil_append, List.append_nil, List.length_cons, List.length_nil, List.take_succ_cons, List.take_nil, List.headD_cons, List.getElem?_cons_succ, List.getElem?_cons_zero, Option.bind_some, Int.reduceLT, Int.reduceLE, Int.reduceAdd, Int.reduceNeg, Int.cast_ofNat_Int, Int.reduceToNat, implies_true, imp_self, beq_false, decide_eq_true_eq, decide_eq_false_iff_not, Bool.not_eq_true', Bool.cond_true_left, Bool.or_eq_true, Bool.or_eq_false_iff, Int.not_lt, true_and, and_true, and_self, forall_const, reduceCtorEq, false_implies, not_false_eq_true, Bool.true_and, Bool.true_eq_false, if_true, if_false, Nat.zero_add, Nat.reduceAdd, Nat.reduceSub, Nat.le_refl, eq_self, Nat.succ_ne_self, decide_true, tab_3, tab_26]
      refine ⟨fun hb => ?_, fun hb => ⟨1, ⟨by omega, fun _ hb' => by unfold bad4 at hb'; omega, fun h => by omega⟩, by omega, ?_⟩⟩
      · (refine RetAt.leaf ?_ ?_ <;> simp only [resOf, tupOf, compOf, ASt.eval, AV.strip, AV.need, AV.map, findIx, AC.ren, List.getD_cons_succ, List.getD_cons_zero, List.map_cons, List.map_nil, Int.reduceNeg, and_true, and_self, eq_self])
        rw [hRes_bad (hE_big l1 l2 (hbig (.inl (by unfold bad4; omega)))) (by decide)]
        all_goals trivial
      · rw [eb]
        (simp only [LessC, lessS, lessO, belowS, belowO, AV.below, AC.below, List.length_nil, List.all_cons, List.all_nil, Int.reduceNeg, Int.cast_ofNat_Int, AV.c.injEq, AC.int.injEq, true_and, and_true, and_self, reduceCtorEq, Bool.and_true, Nat.le_refl, eq_self, or_true, or_false, false_or] <;> try omega)
        exact ⟨i64_in _ (by omega), by decide⟩
    · have ea : acc2 (sm ou inn i) (ou.getD i 0) (inn.getD i 0) 1 = sm ou inn i + ou.getD i 0 := rfl
      have eb : acc2 (sm ou inn i) (ou.getD i 0) (inn.getD i 0) 2 = sm ou inn i + ou.getD i 0 + inn.getD i 0 := rfl
      have hj1' := hj1 (by omega)
      unfold bad4 at hj1'
      rw [ea]
      simp only [VCp, headSt, dsts, opDsts, resetS, putsS, VC_skip, VC_region, VC_seq, VC_cond, VC_block, VC_loop, VC_exit, VC_ret, aops_nil, aops_cons, put_some, qop, isQuiet, ASt.eval, AV.need, AV.ac, onG, guardOf, qbin, binInt, qpick, qpick0, qindexAddr, qload, DV.ac, ofCells, TI.isAgg, isScalar, avOf, acOf, eInt, eList, List.getD_cons_succ, List.getD_cons_zero, List.set_cons_succ, List.set_cons_zero, List.map_cons, List.map_nil, List.cons_append, List.nil_append, List.append_nil, List.length_cons, List.length_nil, List.take_succ_cons, List.take_nil, List.headD_cons, List.getElem?_cons_succ, List.getElem?_cons_zero, Option.bind_some, Int.reduceLT, Int.reduceLE, Int.reduceAdd, Int.reduceNeg, Int.cast_ofNat_Int, Int.reduceToNat, implies_true, imp_self, beq_false, decide_eq_true_eq, decide_eq_false_iff_not, Bool.not_eq_true', Bool.cond_true_left, Bool.or_eq_true, Bool.or_eq_false_iff, Int.not_lt, true_and, and_true, and_self, forall_const, reduceCtorEq, false_implies, not_false_eq_true, Bool.true_and, Bool.true_eq_false, if_true, if_false, Nat.zero_add, Nat.reduceAdd, Nat.reduceSub, Nat.le_refl, eq_self, Nat.succ_ne_self, decide_true, tab_3, tab_26]
      refine ⟨fun hb => ?_, fun hb => ⟨2, ⟨by omega, fun _ => hj1 (by omega), fun _ hb' => by unfold bad4 at hb'; omega⟩, by omega, ?_⟩⟩
      · (refine RetAt.leaf ?_ ?_ <;> simp only [resOf, tupOf, compOf, ASt.eval, AV.strip, AV.need, AV.map, findIx, AC.ren, List.getD_cons_succ, List.getD_cons_zero, List.map_cons, List.map_nil, Int.reduceNeg, and_true, and_self, eq_self])
        rw [hRes_bad (hE_big l1 l2 (hbig (.inr (by unfold bad4; omega)))) (by decide)]
        all_goals trivial
      · rw [eb]
        (simp only [LessC, lessS, lessO, belowS, belowO, AV.below, AC.below, List.length_nil, List.all_cons, List.all_nil, Int.reduceNeg, Int.cast_ofNat_Int, AV.c.injEq, AC.int.injEq, true_and, and_true, and_self, reduceCtorEq, Bool.and_true, Nat.le_refl, eq_self, or_true, or_false, false_or] <;> try omega)
        exact ⟨i64_in _ (by omega), by decide⟩
    · have ea : acc2 (sm ou inn i) (ou.getD i 0) (inn.getD i 0) 2 = sm ou inn (i + 1) := by
        show sm ou inn i + ou.getD i 0 + inn.getD i 0 = sm ou inn i + (ou.getD i 0 + inn.getD i 0)
        omega
      rw [ea]
      simp only [VCp, headSt, dsts, opDsts, resetS, putsS, VC_skip, VC_region, VC_seq, VC_cond, VC_block, VC_loop, VC_exit, VC_ret, aops_nil, aops_cons, put_some, qop, isQuiet, ASt.eval, AV.need, AV.ac, onG, guardOf, qbin, binInt, qpick, qpick0, qindexAddr, qload, DV.ac, ofCells, TI.isAgg, isScalar, avOf, acOf, eInt, eList, List.getD_cons_succ, List.getD_cons_zero, List.getD_nil, List.set_cons_succ, List.set_cons_zero, List.map_cons, List.map_nil, List.cons_append, List.nil_append, List.append_nil, List.length_cons, List.length_nil, List.take_succ_cons, List.take_nil, List.headD_cons, List.getElem?_cons_succ, List.getElem?_cons_zero, Option.bind_some, Int.reduceLT, Int.reduceLE, Int.reduceAdd, Int.reduceNeg, Int.cast_ofNat_Int, Int.reduceToNat, implies_true, imp_self, true_and, and_self, forall_const, reduceCtorEq, false_implies, not_false_eq_true, Bool.and_true, Bool.false_eq_true, Bool.not_false, cond_false, beq_self_eq_true, if_true, if_false, Nat.zero_add, Nat.reduceAdd, Nat.reduceSub, Nat.le_refl, eq_self, Nat.succ_ne_self, decide_false, and_false, false_and, tab_3, tab_26]
      refine ⟨i + 1, ⟨by omega, fun j hj => ?_⟩, by omega, ?_⟩
      · by_cases e : j = i
        · subst e; exact ⟨hj1 (by omega), hj2 (by omega)⟩
        · exact hgood j (by omega)
      · (simp only [LessC, lessS, lessO, belowS, belowO, AV.below, AC.below, List.length_nil, List.all_cons, List.all_nil, Int.cast_ofNat_Int, Int.natCast_add, AV.c.injEq, AC.int.injEq, true_and, and_true, and_self, reduceCtorEq, Bool.and_true, Nat.le_refl, eq_self, or_true, or_false, false_or] <;> try omega)
        all_goals exact i64_in _ (by omega)
  · have hb : ¬ big f ou inn := fun ⟨j, hj, hb⟩ => by
      have := hgood j (by omega)
      rcases hb with hb | hb
      · exact this.1 hb
      · exact this.2 hb
    have hi' : i = f.length + 1 := by omega
    rw [hi'] at hgood ⊢
    refine LoopAt.inv (ι := Nat) (T := tab) (fun i => [(69, .c (.int .i64 i))]) (fun i => [])
      (fun i => i ≤ f.length ∧ ∀ j, j < i → ¬ over f l nx ou inn f.length j ∧ ¬ over f l nx ou inn j f.length ∧ ∀ k, k < f.length → ¬ over f l nx ou inn j k) (fun i => f.length - i) tabOK 0 ⟨Nat.zero_le _, fun j hj => by omega⟩ ?_ ?_
    · (simp only [LessC, headSt, dsts, opDsts, resetS, putsS, lessS, lessO, belowS, belowO, AV.below, AC.below, List.set_cons_succ, List.set_cons_zero, List.cons_append, List.nil_append, List.append_nil, List.length_nil, List.all_cons, List.all_nil, Int.cast_ofNat_Int, Int.natCast_add, AV.c.injEq, and_self, reduceCtorEq, Bool.and_true, Nat.le_refl, eq_self, or_true] <;> try omega)
    rintro i ⟨hi, hno⟩
    simp only [VCp, headSt, dsts, opDsts, resetS, putsS, VC_skip, VC_region, VC_draw, VC_seq, VC_cond, VC_block, VC_exit, VC_ret, aops_nil, aops_cons, put_some, qop, isQuiet, ASt.eval, AV.need, AV.ac, qbin, binInt, isScalar, avOf, acOf, eInt, List.getD_cons_succ, List.getD_cons_zero, List.set_cons_succ, List.set_cons_zero, List.cons_append, List.nil_append, List.append_nil, Int.cast_ofNat_Int, Int.natCast_add, decide_eq_true_eq, decide_eq_false_iff_not, Int.not_lt, true_and, and_self, if_true, eq_self, tab_3]
    refine ⟨fun h => ?_, fun h => ?_⟩
    · have hi' : i < f.length := by omega
      have g1 := hgood i (by omega)
      have g2 := hgood f.length (by omega)
      unfold bad4 at g1 g2
      have w1 : IntKind.i64.wrap (ou.getD f.length 0 + inn.getD i 0) = ou.getD f.length 0 + inn.getD i 0 := i64_in _ (by omega)
      have w2 : IntKind.i64.wrap (ou.getD i 0 + inn.getD f.length 0) = ou.getD i 0 + inn.getD f.length 0 := i64_in _ (by omega)
      have c1 : cellV f l nx f.length i = f.getD i 0 := if_pos rfl
      have c2 : cellV f l nx i f.length = l.getD i 0 := by unfold cellV; rw [if_neg (by omega), if_pos rfl]
      by_cases o1 : ou.getD f.length 0 + inn.getD i 0 < f.getD i 0
      · have z1 : (ou.getD f.length 0 + inn.getD i 0 < f.getD i 0) = True := eq_true o1
        refine DrawAt.plan tabOK mixed (.take 0 true (.take 1 true (.take 2 true (.take 3 true (.take 4 true (.take 5 true (.take 6 true (.take 7 true (.take 8 true (.take 9 true (.take 10 true (.take 11 true (.take 12 true (.take 13 true (.take 14 true (.take 15 true (.take 16 true (.take 17 true (.take 18 true (.take 19 true (.take 20 true (.take 21 true (.take 22 true (.take 23 true (.take 24 true (.take 25 true (.take 26 true (.take 27 true (.take 28 true (.take 29 true (.take 30 true (.take 31 true (.take 32 true (.take 33 true (.take 34 true (.take 35 true .done)))))))))))))))))))))))))))))))))))) (by decide +kernel) ?_
        simp only [avc_done, avc_take, qstep, ownLoad, VC_skip, VC_region, VC_seq, VC_cond, VC_block, VC_loop, VC_ret, aops_nil, aops_cons, put_some, qop, isQuiet, ASt.eval, AV.need, AV.ac, onG, guardOf, qbin, binInt, qpick, qpick0, qindexAddr, qfieldAddr, qload, DV.ac, ofCells, TI.isAgg, isScalar, avOf, acOf, eInt, eList, ePair, List.getD_cons_succ, List.getD_cons_zero, List.set_cons_succ, List.set_cons_zero, List.map_cons, List.map_nil, List.cons_append, List.nil_append, List.length_cons, List.length_nil, List.drop_succ_cons, List.drop_zero, List.take_succ_cons, List.take_zero, List.take_nil, List.headD_cons, List.getElem?_cons_succ, List.getElem?_cons_zero, Option.bind_some, Int.toNat_natCast, implies_true, imp_self, beq_false, true_and, and_true, and_self, forall_const, false_implies, not_false_eq_true, Bool.and_false, Bool.false_eq_true, Bool.true_eq_false, Bool.not_true, cond_true, Nat.zero_add, Nat.reduceAdd, Nat.reduceLeDiff, Nat.le_refl, eq_self, Nat.succ_ne_self, decide_true, or_true, tab_3, tab_26, tab_53, tab_74, w1, w2, z1]
        refine ⟨⟨by omega, by omega⟩, ⟨by omega, by omega⟩, ⟨by omega, by omega⟩, ?_⟩
        (refine RetAt.leaf ?_ ?_ <;> simp only [resOf, tupOf, compOf, ASt.eval, AV.strip, AV.need, AV.map, findIx, AC.ren, List.getD_cons_succ, List.getD_cons_zero, List.map_cons, List.map_nil, and_true, and_self, eq_self])
        rw [hRes_bad (hE_clash l1 l2 hb ⟨f.length, i, by omega, by omega, by omega, by rw [c1]; exact o1⟩) (by decide)]
        all_goals trivial
      · have z1 : (ou.getD f.length 0 + inn.getD i 0 < f.getD i 0) = False := eq_false o1
        refine DrawAt.plan tabOK mixed (.take 0 true (.take 1 true (.take 2 true (.take 3 true (.take 4 true (.take 5 true (.take 6 true (.take 7 true (.take 8 true (.take 9 true (.take 10 true (.take 11 true (.take 12 true (.take 13 true (.take 14 true (.take 15 true (.take 16 true (.take 17 true (.take 18 true (.take 19 true (.take 20 true (.take 21 true (.take 22 true (.take 23 true (.take 24 true (.take 25 true (.take 26 true (.take 27 true (.take 28 true (.take 29 true (.take 30 true (.take 31 true (.take 32 true (.take 33 true (.take 34 true (.take 35 true .done)))))))))))))))))))))))))))))))))))) (by decide +kernel) ?_
        simp only [avc_done, avc_take, qstep, ownLoad, VC_skip, VC_region, VC_seq, VC_cond, VC_block, VC_loop, VC_ret, aops_nil, aops_cons, put_some, qop, isQuiet, ASt.eval, AV.need, AV.ac, onG, guardOf, qbin, binInt, qpick, qpick0, qindexAddr, qfieldAddr, qload, DV.ac, ofCells, TI.isAgg, isScalar, avOf, acOf, eInt, eList, ePair, List.getD_cons_succ, List.getD_cons_zero, List.set_cons_succ, List.set_cons_zero, List.map_cons, List.map_nil, List.cons_append, List.nil_append, List.length_cons, List.length_nil, List.drop_succ_cons, List.drop_zero, List.take_succ_cons, List.take_zero, List.take_nil, List.headD_cons, List.getElem?_cons_succ, List.getElem?_cons_zero, Option.bind_some, Int.toNat_natCast, implies_true, decide_eq_true_eq, decide_eq_false_iff_not, Int.not_lt, true_and, and_self, forall_const, not_false_eq_true, Bool.and_true, Bool.not_false, cond_false, beq_self_eq_true, Nat.zero_add, Nat.reduceAdd, Nat.reduceLeDiff, Nat.le_refl, eq_self, Nat.succ_ne_self, decide_false, or_true, tab_3, tab_26, tab_53, tab_74, w1, w2, z1]
        refine ⟨⟨by omega, by omega⟩, ⟨by omega, by omega⟩, ⟨by omega, by omega⟩, ⟨by omega, by omega⟩, ⟨by omega, by omega⟩, ⟨by omega, by omega⟩, fun o2 => ?_, fun o2 => ?_⟩
        · (refine RetAt.leaf ?_ ?_ <;> simp only [resOf, tupOf, compOf, ASt.eval, AV.strip, AV.need, AV.map, findIx, AC.ren, List.getD_cons_succ, List.getD_cons_zero, List.map_cons, List.map_nil, and_true, and_self, eq_self])
          rw [hRes_bad (hE_clash l1 l2 hb ⟨i, f.length, by omega, by omega, by omega, by rw [c2]; exact o2⟩) (by decide)]
          all_goals trivial
        have hr := ht.rl i hi'
        refine LoopAt.inv (ι := Nat) (T := tab) (fun k => [(109, .c (.int .i64 k))]) (fun k => [])
          (fun k => k ≤ f.length ∧ ∀ k', k' < k → ¬ over f l nx ou inn i k') (fun k => f.length - k) tabOK 0 ⟨Nat.zero_le _, fun j hj => by omega⟩ ?_ ?_
        · (simp only [LessC, headSt, dsts, opDsts, resetS, putsS, lessS, lessO, belowS, belowO, AV.below, AC.below, List.set_cons_succ, List.set_cons_zero, List.cons_append, List.nil_append, List.append_nil, List.length_nil, List.all_cons, List.all_nil, Int.cast_ofNat_Int, AV.c.injEq, and_self, reduceCtorEq, Bool.and_true, Nat.le_refl, eq_self, or_true] <;> try omega)
        rintro k ⟨hk, hnk⟩
        simp only [VCp, headSt, dsts, opDsts, resetS, putsS, VC_skip, VC_region, VC_draw, VC_seq, VC_cond, VC_block, VC_exit, VC_ret, aops_nil, aops_cons, put_some, qop, isQuiet, ASt.eval, AV.need, AV.ac, qbin, binInt, isScalar, avOf, acOf, eInt, List.getD_cons_succ, List.getD_cons_zero, List.set_cons_succ, List.set_cons_zero, List.cons_append, List.nil_append, List.append_nil, decide_eq_true_eq, decide_eq_false_iff_not, Int.not_lt, true_and, and_self, if_true, if_false, Nat.reduceEqDiff, eq_self, Nat.succ_ne_self, tab_3]
        refine ⟨fun h => ?_, fun h => ?_⟩
        · have hk' : k < f.length := by omega
          have g3 := hgood k (by omega)
          unfold bad4 at g3
          have w3 : IntKind.i64.wrap (ou.getD i 0 + inn.getD k 0) = ou.getD i 0 + inn.getD k 0 := i64_in _ (by omega)
          have c3 : cellV f l nx i k = (nx.getD i []).getD k 0 := by unfold cellV at2; rw [if_neg (by omega), if_neg (by omega)]
          by_cases eik : k = i
          · have z2 : ((k : Int) = (i : Int)) = True := eq_true (by omega)
            refine DrawAt.plan tabOK mixed (.take 0 true (.take 1 true (.take 2 true (.take 3 true (.take 4 true (.take 5 true (.take 6 true (.take 7 true (.take 8 true (.take 9 true (.take 10 true (.take 11 true (.take 12 true (.take 13 true (.take 14 true (.take 15 true (.take 16 true (.take 17 true (.take 18 true (.take 19 true (.take 20 true (.take 21 true (.take 22 true (.take 23 true (.take 24 true .done))))))))))))))))))))))))) (by decide +kernel) ?_
            simp only [avc_done, avc_take, qstep, ownLoad, VC_skip, VC_region, VC_seq, VC_cond, VC_ret, aops_nil, aops_cons, put_some, qop, isQuiet, ASt.eval, AV.need, AV.ac, onG, guardOf, qbin, binInt, qpick, qpick0, qindexAddr, qfieldAddr, qload, DV.ac, ofCells, TI.isAgg, isScalar, avOf, acOf, eInt, eList, ePair, List.getD_cons_succ, List.getD_cons_zero, List.set_cons_succ, List.set_cons_zero, List.map_cons, List.map_nil, List.cons_append, List.nil_append, List.length_cons, List.length_nil, List.drop_succ_cons, List.drop_zero, List.take_succ_cons, List.take_zero, List.take_nil, List.headD_cons, List.getElem?_cons_succ, List.getElem?_cons_zero, Option.bind_some, Int.toNat_natCast, implies_true, imp_self, beq_true, true_and, and_self, forall_const, false_implies, not_false_eq_true, Bool.and_false, Bool.false_eq_true, Bool.not_true, cond_false, Nat.zero_add, Nat.reduceAdd, Nat.reduceLeDiff, Nat.le_refl, eq_self, Nat.succ_ne_self, decide_true, or_true, tab_3, tab_26, tab_51, tab_53, tab_74, z2]
            refine ⟨k + 1, ⟨by omega, fun k' hk' => ?_⟩, by omega, ?_⟩
            · by_cases e : k' = k
              · subst e; exact fun ho => ho.1 eik.symm
              · exact hnk k' (by omega)
            · (simp only [LessC, lessS, lessO, belowS, belowO, AV.below, AC.below, List.length_nil, List.all_cons, List.all_nil, Int.cast_ofNat_Int, Int.natCast_add, AV.c.injEq, AC.int.injEq, true_and, and_true, and_self, reduceCtorEq, Bool.and_true, Nat.le_refl, eq_self, or_true, or_false, false_or] <;> try omega)
              all_goals exact i64_in _ (by omega)
          · have z2 : ((k : Int) = (i : Int)) = False := eq_false (by omega)
            refine DrawAt.plan tabOK mixed (.take 0 true (.take 1 true (.take 2 true (.take 3 true (.take 4 true (.take 5 true (.take 6 true (.take 7 true (.take 8 true (.take 9 true (.take 10 true (.take 11 true (.take 12 true (.take 13 true (.take 14 true (.take 15 true (.take 16 true (.take 17 true (.take 18 true (.take 19 true (.take 20 true (.take 21 true (.take 22 true (.take 23 true (.take 24 true .done))))))))))))))))))))))))) (by decide +kernel) ?_
            simp only [avc_done, avc_take, qstep, ownLoad, VC_skip, VC_region, VC_seq, VC_cond, VC_ret, aops_nil, aops_cons, put_some, qop, isQuiet, ASt.eval, AV.need, AV.ac, onG, guardOf, qbin, binInt, qpick, qpick0, qindexAddr, qfieldAddr, qload, DV.ac, ofCells, TI.isAgg, isScalar, avOf, acOf, eInt, eList, ePair, List.getD_cons_succ, List.getD_cons_zero, List.set_cons_succ, List.set_cons_zero, List.map_cons, List.map_nil, List.cons_append, List.nil_append, List.length_cons, List.length_nil, List.drop_succ_cons, List.drop_zero, List.take_succ_cons, List.take_zero, List.take_nil, List.headD_cons, List.getElem?_cons_succ, List.getElem?_cons_zero, Option.bind_some, Int.toNat_natCast, implies_true, decide_eq_true_eq, decide_eq_false_iff_not, Int.not_lt, true_and, and_self, forall_const, not_false_eq_true, Bool.and_true, Bool.not_false, cond_true, beq_self_eq_true, Nat.zero_add, Nat.reduceAdd, Nat.reduceLeDiff, Nat.le_refl, eq_self, Nat.succ_ne_self, decide_false, or_true, tab_3, tab_26, tab_51, tab_53, tab_74, z2, w3]
            refine ⟨⟨by omega, by omega⟩, ⟨by omega, by omega⟩, ⟨by omega, by omega⟩, ⟨by omega, by omega⟩, fun o3 => ?_, fun o3 => ?_⟩
            · (refine RetAt.leaf ?_ ?_ <;> simp only [resOf, tupOf, compOf, ASt.eval, AV.strip, AV.need, AV.map, findIx, AC.ren, List.getD_cons_succ, List.getD_cons_zero, List.map_cons, List.map_nil, and_true, and_self, eq_self])
              rw [hRes_bad (hE_clash l1 l2 hb ⟨i, k, by omega, by omega, by omega, by rw [c3]; exact o3⟩) (by decide)]
              all_goals trivial
            · refine ⟨k + 1, ⟨by omega, fun k' hk' => ?_⟩, by omega, ?_⟩
              · by_cases e : k' = k
                · subst e; exact fun ho => by have := ho.2; rw [c3] at this; omega
                · exact hnk k' (by omega)
              · (simp only [LessC, lessS, lessO, belowS, belowO, AV.below, AC.below, List.length_nil, List.all_cons, List.all_nil, Int.cast_ofNat_Int, Int.natCast_add, AV.c.injEq, AC.int.injEq, true_and, and_true, and_self, reduceCtorEq, Bool.and_true, Nat.le_refl, eq_self, or_true, or_false, false_or] <;> try omega)
                all_goals exact i64_in _ (by omega)
        · refine ⟨i + 1, ⟨by omega, fun j hj => ?_⟩, by omega, ?_⟩
          · by_cases e : j = i
            · subst e
              exact ⟨fun ho => by have := ho.2; rw [c1] at this; omega, fun ho => by have := ho.2; rw [c2] at this; omega, fun k hk => hnk k (by omega)⟩
            · exact hno j (by omega)
          · (simp only [LessC, lessS, lessO, belowS, belowO, AV.below, AC.below, List.length_nil, List.all_cons, List.all_nil, Int.cast_ofNat_Int, Int.natCast_add, AV.c.injEq, AC.int.injEq, true_and, and_true, and_self, reduceCtorEq, Bool.and_true, Nat.le_refl, eq_self, or_true, or_false, false_or] <;> try omega)
            all_goals exact i64_in _ (by omega)
    · have hc : ¬ clash f l nx ou inn := fun ⟨a, b, ha, hb, ho⟩ => by
        by_cases ea : a = f.length
        · rw [ea] at ho
          by_cases eb : b = f.length
          · exact ho.1 eb.symm
          · exact (hno b (by omega)).1 ho
        · by_cases eb : b = f.length
          · rw [eb] at ho
            exact (hno a (by omega)).2.1 ho
          · exact (hno a (by omega)).2.2 b (by omega) ho
      (refine RetAt.leaf ?_ ?_ <;> simp only [resOf, tupOf, compOf, ASt.eval, AV.strip, AV.need, AV.map, findIx, AC.ren, List.getD_cons_succ, List.getD_cons_zero, List.map_cons, List.map_nil, and_true, and_self, eq_self])
      rw [hRes_ok (hE_ok l1 l2 hb hc)]
      all_goals trivial
end Go.Vc.Pc
