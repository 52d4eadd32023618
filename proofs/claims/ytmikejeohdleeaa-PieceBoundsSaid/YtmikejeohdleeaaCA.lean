/- Steps and their weights; the greatest of a list. -/
import Derived.Test.YtmikejeohdleeaaPI
set_option linter.unusedVariables false
set_option linter.unusedSimpArgs false
namespace Go.Vc.Pc
open Go.Proofs Go.IntWalk
set_option maxRecDepth 100000
theorem renumL {P : Program} {body : Code} {Q : Exit → ASt → Prop} {st : ASt} (keep : List Nat) (hk : RenOK st.n0 keep) (h : LoopAt P body Q (st.renum keep)) : LoopAt P body Q st := fun F hs a w hS => h F _ a w (hS.renum hk)
/-- the weight of a step; the number of fragments stands for the beginning and the end -/
def cellV (f l : List Int) (nx : Mat) (i k : Nat) : Int := if i = f.length then f.getD k 0 else if k = f.length then l.getD i 0 else at2 nx i k
theorem cellV_bounds {f l : List Int} {nx : Mat} (ht : Tame l nx f.length) (hf : ∀ i, i < f.length → -1000000 ≤ f.getD i 0 ∧ f.getD i 0 ≤ 1000000) {i k : Nat} (hi : i ≤ f.length) (hk : k ≤ f.length) (hne : i ≠ k) :
    -1000000 ≤ cellV f l nx i k ∧ cellV f l nx i k ≤ 1000000 := by
  unfold cellV
  split
  · exact hf k (by omega)
  · split
    · exact ht.lb i (by omega)
    · exact ht.nb i k (by omega) (by omega)
set_option maxHeartbeats 4000000 in
/-- the law's own step -/
theorem cell_spec (f l : List Int) (nx : Mat) (ht : Tame l nx f.length) (hn : f.length ≤ 12) (i k : Nat) (hi : i ≤ f.length) (hk : k ≤ f.length) :
    ACall Try.prog 44 [tbl f l nx, .c (.int .i64 i), .c (.int .i64 k)] [] (fun r os => r = .tup [(false, [.int .i64 (if i = k then 0 else cellV f l nx i k)]), (false, [.bool (!decide (i = k))])] ∧ os = []) := by
  have hll := ht.ll
  have hnl := ht.nl
  (refine ACall.of_body (nt := 39) (rs := [.tmp 6, .tmp 7]) tabOK Try.func44 rfl rfl rfl rfl ?_; simp only [startSt, List.length_cons, List.length_nil, Nat.reduceAdd, Nat.reduceSub, List.replicate_succ, List.replicate_zero, List.cons_append, List.nil_append])
  simp only [VCp, VC_skip, VC_region, VC_seq, VC_cond, VC_ret, aops_nil, aops_cons, put_some, aop, qop, isQuiet, ASt.eval, AV.need, AV.ac, AV.cells, AV.isTup, qbin, binInt, qlen, qindexAddr, qfieldAddr, qload, ned, AC.fits, newObj, ASt.obj, DV.ac, ofCells, TI.isAgg, isScalar, avOf, acOf, eInt, eList, ePair, List.getD_cons_succ, List.getD_cons_zero, List.set_cons_succ, List.set_cons_zero, List.map_cons, List.map_nil, List.cons_append, List.nil_append, List.length_cons, List.length_nil, List.drop_succ_cons, List.drop_zero, List.take_succ_cons, List.take_zero, List.take_nil, List.headD_cons, List.all_cons, List.all_nil, List.getElem?_cons_succ, List.getElem?_cons_zero, Int.toNat_natCast, decide_eq_true_eq, decide_eq_false_iff_not, true_and, and_self, not_false_eq_true, Bool.and_true, Nat.add_zero, Nat.zero_add, Nat.reduceAdd, Nat.reduceLeDiff, Nat.le_refl, eq_self, Nat.succ_ne_self, tab_3, tab_26, tab_51, tab_53]
  refine ⟨fun h => ?_, fun h => ?_⟩
  · have e : i = k := by omega
    (refine RetAt.leaf ?_ ?_ <;> simp only [resOf, tupOf, compOf, ASt.eval, AV.strip, AV.need, AV.map, findIx, AC.ren, List.getD_cons_succ, List.getD_cons_zero, List.map_cons, List.map_nil, and_true, and_self, eq_self])
    simp [e]
  have e : ¬ i = k := by omega
  rw [if_neg e]
  refine ⟨fun h => ?_, fun h => ⟨fun h' => ?_, fun h' => ?_⟩⟩
  · have e1 : i = f.length := by omega
    have e2 : cellV f l nx i k = f.getD k 0 := if_pos e1
    rw [e2]
    refine ⟨⟨by omega, by omega⟩, ?_⟩
    (refine RetAt.leaf ?_ ?_ <;> simp only [resOf, tupOf, compOf, ASt.eval, AV.strip, AV.need, AV.map, findIx, AC.ren, List.getD_cons_succ, List.getD_cons_zero, List.map_cons, List.map_nil, and_true, and_self, eq_self])
    simp [e]
  · have e2 : cellV f l nx i k = l.getD i 0 := by unfold cellV; rw [if_neg (by omega), if_pos (by omega)]
    rw [e2]
    refine ⟨⟨by omega, by omega⟩, ?_⟩
    (refine RetAt.leaf ?_ ?_ <;> simp only [resOf, tupOf, compOf, ASt.eval, AV.strip, AV.need, AV.map, findIx, AC.ren, List.getD_cons_succ, List.getD_cons_zero, List.map_cons, List.map_nil, and_true, and_self, eq_self])
    simp [e]
  · have e2 : cellV f l nx i k = (nx.getD i []).getD k 0 := by unfold cellV at2; rw [if_neg (by omega), if_neg (by omega)]
    have hr := ht.rl i (by omega)
    rw [e2]
    refine ⟨⟨by omega, by omega⟩, ⟨by omega, by omega⟩, ?_⟩
    (refine RetAt.leaf ?_ ?_ <;> simp only [resOf, tupOf, compOf, ASt.eval, AV.strip, AV.need, AV.map, findIx, AC.ren, List.getD_cons_succ, List.getD_cons_zero, List.map_cons, List.map_nil, and_true, and_self, eq_self])
    simp [e]
/-- what the program's own step says where it is none -/
def cell0 (f : List Int) (nx : Mat) (i : Nat) : Int := if i = f.length then 0 else at2 nx i i
set_option maxHeartbeats 4000000 in
theorem cellP_spec (f l : List Int) (nx : Mat) (ht : Tame l nx f.length) (hn : f.length ≤ 12) (i k : Nat) (hi : i ≤ f.length) (hk : k ≤ f.length) :
    ACall Try.prog 82 [tbl f l nx, .c (.int .i64 i), .c (.int .i64 k)] [] (fun r os => r = .tup [(false, [.int .i64 (if i = k then cell0 f nx i else cellV f l nx i k)]), (false, [.bool (!decide (i = k))])] ∧ os = []) := by
  have hll := ht.ll
  have hnl := ht.nl
  by_cases e1 : i = f.length
  · have z1 : ((i : Int) = (f.length : Int)) = True := eq_true (by omega)
    by_cases e2 : k = f.length
    · have z2 : ((k : Int) = (f.length : Int)) = True := eq_true (by omega)
      (refine ACall.of_body (nt := 50) (rs := [.tmp 6, .tmp 7]) tabOK Try.func82 rfl rfl rfl rfl ?_; simp only [startSt, List.length_cons, List.length_nil, Nat.reduceAdd, Nat.reduceSub, List.replicate_succ, List.replicate_zero, List.cons_append, List.nil_append])
      simp only [VCp, VC_skip, VC_region, VC_seq, VC_cond, VC_block, VC_ret, aops_nil, aops_cons, put_some, aop, qop, isQuiet, ASt.eval, AV.need, AV.ac, AV.cells, AV.isTup, onG, guardOf, qbin, binInt, qpick, qpick0, qlen, qindexAddr, qfieldAddr, qload, ned, AC.fits, newObj, ASt.obj, DV.ac, ofCells, TI.isAgg, isScalar, avOf, acOf, eInt, eList, ePair, List.getD_cons_succ, List.getD_cons_zero, List.set_cons_succ, List.set_cons_zero, List.map_cons, List.map_nil, List.cons_append, List.nil_append, List.length_cons, List.length_nil, List.drop_succ_cons, List.drop_zero, List.take_succ_cons, List.take_zero, List.take_nil, List.headD_cons, List.all_cons, List.all_nil, List.getElem?_cons_succ, List.getElem?_cons_zero, Option.bind_some, Int.toNat_natCast, implies_true, true_and, and_true, and_self, forall_const, false_implies, not_false_eq_true, Bool.and_true, Bool.true_eq_false, cond_true, beq_self_eq_true, Nat.add_zero, Nat.zero_add, Nat.reduceAdd, Nat.reduceLeDiff, Nat.le_refl, eq_self, Nat.succ_ne_self, decide_true, tab_3, tab_26, tab_51, tab_53, z1, z2]
      (refine RetAt.leaf ?_ ?_ <;> simp only [resOf, tupOf, compOf, ASt.eval, AV.strip, AV.need, AV.map, findIx, AC.ren, List.getD_cons_succ, List.getD_cons_zero, List.map_cons, List.map_nil, and_true, and_self, eq_self])
      simp [e1, e2, cell0]
    · have z2 : ((k : Int) = (f.length : Int)) = False := eq_false (by omega)
      have e3 : cellV f l nx i k = f.getD k 0 := if_pos e1
      have e4 : ¬ i = k := by omega
      (refine ACall.of_body (nt := 50) (rs := [.tmp 6, .tmp 7]) tabOK Try.func82 rfl rfl rfl rfl ?_; simp only [startSt, List.length_cons, List.length_nil, Nat.reduceAdd, Nat.reduceSub, List.replicate_succ, List.replicate_zero, List.cons_append, List.nil_append])
      simp only [VCp, VC_skip, VC_region, VC_seq, VC_cond, VC_block, VC_ret, aops_nil, aops_cons, put_some, aop, qop, isQuiet, ASt.eval, AV.need, AV.ac, AV.cells, AV.isTup, onG, guardOf, qbin, binInt, qpick, qpick0, qlen, qindexAddr, qfieldAddr, qload, ned, AC.fits, newObj, ASt.obj, DV.ac, ofCells, TI.isAgg, isScalar, avOf, acOf, eInt, eList, ePair, List.getD_cons_succ, List.getD_cons_zero, List.set_cons_succ, List.set_cons_zero, List.map_cons, List.map_nil, List.cons_append, List.nil_append, List.length_cons, List.length_nil, List.drop_succ_cons, List.drop_zero, List.take_succ_cons, List.take_zero, List.take_nil, List.headD_cons, List.all_cons, List.all_nil, List.getElem?_cons_succ, List.getElem?_cons_zero, Option.bind_some, Int.toNat_natCast, implies_true, true_and, and_true, and_self, forall_const, false_implies, not_false_eq_true, Bool.and_true, Bool.false_eq_true, Bool.true_eq_false, cond_true, beq_self_eq_true, Nat.add_zero, Nat.zero_add, Nat.reduceAdd, Nat.reduceLeDiff, Nat.le_refl, eq_self, Nat.succ_ne_self, decide_true, decide_false, tab_3, tab_26, tab_51, tab_53, z1, z2]
      refine ⟨⟨by omega, by omega⟩, ?_⟩
      (refine RetAt.leaf ?_ ?_ <;> simp only [resOf, tupOf, compOf, ASt.eval, AV.strip, AV.need, AV.map, findIx, AC.ren, List.getD_cons_succ, List.getD_cons_zero, List.map_cons, List.map_nil, and_true, and_self, eq_self])
      simp [e3, e4]
  · have z1 : ((i : Int) = (f.length : Int)) = False := eq_false (by omega)
    by_cases e2 : k = f.length
    · have z2 : ((k : Int) = (f.length : Int)) = True := eq_true (by omega)
      have e3 : cellV f l nx i k = l.getD i 0 := by unfold cellV; rw [if_neg e1, if_pos e2]
      have e4 : ¬ i = k := by omega
      (refine ACall.of_body (nt := 50) (rs := [.tmp 6, .tmp 7]) tabOK Try.func82 rfl rfl rfl rfl ?_; simp only [startSt, List.length_cons, List.length_nil, Nat.reduceAdd, Nat.reduceSub, List.replicate_succ, List.replicate_zero, List.cons_append, List.nil_append])
      simp only [VCp, VC_skip, VC_region, VC_seq, VC_cond, VC_block, VC_ret, aops_nil, aops_cons, put_some, aop, qop, isQuiet, ASt.eval, AV.need, AV.ac, AV.cells, AV.isTup, onG, guardOf, qbin, binInt, qpick, qpick0, qlen, qindexAddr, qfieldAddr, qload, ned, AC.fits, newObj, ASt.obj, DV.ac, ofCells, TI.isAgg, isScalar, avOf, acOf, eInt, eList, ePair, List.getD_cons_succ, List.getD_cons_zero, List.set_cons_succ, List.set_cons_zero, List.map_cons, List.map_nil, List.cons_append, List.nil_append, List.length_cons, List.length_nil, List.drop_succ_cons, List.drop_zero, List.take_succ_cons, List.take_zero, List.take_nil, List.headD_cons, List.all_cons, List.all_nil, List.getElem?_cons_succ, List.getElem?_cons_zero, Option.bind_some, Int.toNat_natCast, implies_true, imp_self, beq_true, true_and, and_true, and_self, forall_const, false_implies, not_false_eq_true, Bool.and_true, Bool.and_false, Bool.false_eq_true, Bool.true_eq_false, cond_false, Nat.add_zero, Nat.zero_add, Nat.reduceAdd, Nat.reduceLeDiff, Nat.le_refl, eq_self, Nat.succ_ne_self, decide_true, decide_false, tab_3, tab_26, tab_51, tab_53, z1, z2]
      refine ⟨⟨by omega, by omega⟩, ?_⟩
      (refine RetAt.leaf ?_ ?_ <;> simp only [resOf, tupOf, compOf, ASt.eval, AV.strip, AV.need, AV.map, findIx, AC.ren, List.getD_cons_succ, List.getD_cons_zero, List.map_cons, List.map_nil, and_true, and_self, eq_self])
      simp [e3, e4]
    · have z2 : ((k : Int) = (f.length : Int)) = False := eq_false (by omega)
      have e3 : cellV f l nx i k = (nx.getD i []).getD k 0 := by unfold cellV at2; rw [if_neg e1, if_neg e2]
      have hr := ht.rl i (by omega)
      (refine ACall.of_body (nt := 50) (rs := [.tmp 6, .tmp 7]) tabOK Try.func82 rfl rfl rfl rfl ?_; simp only [startSt, List.length_cons, List.length_nil, Nat.reduceAdd, Nat.reduceSub, List.replicate_succ, List.replicate_zero, List.cons_append, List.nil_append])
      simp only [VCp, VC_skip, VC_region, VC_seq, VC_cond, VC_block, VC_ret, aops_nil, aops_cons, put_some, aop, qop, isQuiet, ASt.eval, AV.need, AV.ac, AV.cells, AV.isTup, onG, guardOf, qbin, binInt, qpick, qpick0, qlen, qindexAddr, qfieldAddr, qload, ned, AC.fits, newObj, ASt.obj, DV.ac, ofCells, TI.isAgg, isScalar, avOf, acOf, eInt, eList, ePair, List.getD_cons_succ, List.getD_cons_zero, List.set_cons_succ, List.set_cons_zero, List.map_cons, List.map_nil, List.cons_append, List.nil_append, List.length_cons, List.length_nil, List.drop_succ_cons, List.drop_zero, List.take_succ_cons, List.take_zero, List.take_nil, List.headD_cons, List.all_cons, List.all_nil, List.getElem?_cons_succ, List.getElem?_cons_zero, Option.bind_some, Int.toNat_natCast, implies_true, imp_self, beq_true, true_and, and_self, forall_const, false_implies, not_false_eq_true, Bool.and_true, Bool.and_false, Bool.false_eq_true, cond_false, Nat.add_zero, Nat.zero_add, Nat.reduceAdd, Nat.reduceLeDiff, Nat.le_refl, eq_self, Nat.succ_ne_self, decide_false, tab_3, tab_26, tab_51, tab_53, z1, z2]
      refine ⟨⟨by omega, by omega⟩, ⟨by omega, by omega⟩, ?_⟩
      (refine RetAt.leaf ?_ ?_ <;> simp only [resOf, tupOf, compOf, ASt.eval, AV.strip, AV.need, AV.map, findIx, AC.ren, List.getD_cons_succ, List.getD_cons_zero, List.map_cons, List.map_nil, and_true, and_self, eq_self])
      by_cases e4 : i = k
      · subst e4
        simp [cell0, e1, at2]
      · have e5 : ¬ (i : Int) = (k : Int) := by omega
        simp [e4, e5, e3]
/-- the greatest of a list -/
def mxl (xs : List Int) : Int := xs.foldl maxI low
set_option maxHeartbeats 4000000 in
theorem max_spec (xs : List Int) (h1 : 0 < xs.length) (hl : xs.length < 9223372036854775807) (h2 : ∀ x ∈ xs, low ≤ x) : ACall Try.prog 45 [.c (rI xs)] [] (fun r os => r = .c (.int .i64 (mxl xs)) ∧ os = []) := by
  have h0 : mxl (xs.take 1) = xs.getD 0 0 := by
    cases xs with
    | nil => cases h1
    | cons x xs =>
      have := h2 x (by simp)
      simp only [List.take_succ_cons, List.take_zero, mxl, List.foldl_cons, List.foldl_nil, List.getD_cons_zero]
      unfold maxI
      split <;> omega
  (refine ACall.of_body (nt := 25) (rs := [.tmp 2]) tabOK Try.func45 rfl rfl rfl rfl ?_; simp only [startSt, List.length_cons, List.length_nil, Nat.reduceAdd, Nat.reduceSub, List.replicate_succ, List.replicate_zero, List.cons_append, List.nil_append])
  simp only [VCp, VC_skip, VC_region, VC_seq, VC_cond, VC_block, VC_loop, aops_nil, aops_cons, put_some, aop, qop, isQuiet, ASt.eval, AV.need, AV.ac, qbin, binInt, qlen, qindexAddr, qload, DV.ac, ofCells, TI.isAgg, isScalar, avOf, acOf, eInt, eList, List.getD_cons_succ, List.getD_cons_zero, List.set_cons_succ, List.set_cons_zero, List.map_cons, List.map_nil, List.length_cons, List.length_nil, List.take_succ_cons, List.take_nil, List.headD_cons, Int.reduceLE, Int.reduceToNat, decide_eq_true_eq, decide_eq_false_iff_not, Int.not_lt, true_and, and_self, not_false_eq_true, Nat.zero_add, Nat.le_refl, eq_self, Nat.succ_ne_self, tab_3, tab_26]
  refine ⟨fun h => by omega, fun _ => ⟨by omega, ?_⟩⟩
  refine LoopAt.inv (ι := Nat) (T := tab) (fun i => [(4, .c (.int .i64 ((i + 1 : Nat) : Int))), (3, .c (.int .i64 (mxl (xs.take (i + 1)))))]) (fun i => []) (fun i => i < xs.length) (fun i => xs.length - i) tabOK 0 h1 ?_ ?_
  · (simp only [LessC, headSt, dsts, opDsts, resetS, putsS, lessS, lessO, belowS, belowO, AV.below, AC.below, List.set_cons_succ, List.set_cons_zero, List.cons_append, List.nil_append, List.append_nil, List.length_nil, Int.cast_ofNat_Int, AV.c.injEq, AC.int.injEq, true_and, and_true, and_self, reduceCtorEq, Bool.and_true, Nat.zero_add, Nat.le_refl, eq_self, or_true, false_or] <;> try omega)
    all_goals rw [h0]
  · intro i hi
    have e1 : ((i : Int) + 1).toNat = i + 1 := by omega
    simp only [VCp, headSt, dsts, opDsts, resetS, putsS, VC_skip, VC_region, VC_seq, VC_cond, VC_block, VC_exit, VC_ret, aops_nil, aops_cons, put_some, qop, isQuiet, ASt.eval, AV.need, AV.ac, qbin, binInt, qmax, qlen, qindexAddr, qload, DV.ac, ofCells, TI.isAgg, isScalar, avOf, acOf, eInt, eList, List.getD_cons_succ, List.getD_cons_zero, List.set_cons_succ, List.set_cons_zero, List.map_cons, List.map_nil, List.cons_append, List.nil_append, List.append_nil, List.length_cons, List.length_nil, List.take_succ_cons, List.take_nil, List.headD_cons, Int.cast_ofNat_Int, Int.natCast_add, decide_eq_true_eq, decide_eq_false_iff_not, Int.not_lt, true_and, and_self, not_false_eq_true, if_true, Nat.zero_add, Nat.le_refl, eq_self, Nat.succ_ne_self, tab_3, tab_26, e1]
    refine ⟨fun h => ⟨⟨by omega, by omega⟩, i + 1, by omega, by omega, ?_⟩, fun h => ?_⟩
    · have hs : mxl (xs.take (i + 1 + 1)) = if xs.getD (i + 1) 0 > mxl (xs.take (i + 1)) then xs.getD (i + 1) 0 else mxl (xs.take (i + 1)) := by
        rw [take_next xs (i + 1) 0 (by omega)]
        unfold mxl
        rw [List.foldl_append]
        rfl
      rw [hs]
      (simp only [LessC, lessS, lessO, belowS, belowO, AV.below, AC.below, List.length_nil, Int.cast_ofNat_Int, Int.natCast_add, AV.c.injEq, AC.int.injEq, true_and, and_true, and_self, reduceCtorEq, Bool.and_true, Nat.le_refl, eq_self, or_true, or_false, false_or] <;> try omega)
      all_goals exact i64_in _ (by omega)
    · (refine RetAt.leaf ?_ ?_ <;> simp only [resOf, tupOf, ASt.eval, AV.strip, AV.need, AV.map, AC.ren, List.getD_cons_succ, List.getD_cons_zero, AV.c.injEq, AC.int.injEq, true_and, and_true, and_self, eq_self])
      rw [List.take_of_length_le (by omega)]
end Go.Vc.Pc
