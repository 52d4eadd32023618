/- Tables of weights: what the checks compute. -/
import Derived.Test.YtmikejeohdleeaaPA
set_option linter.unusedVariables false
set_option linter.unusedSimpArgs false
namespace Go.Vc.Pc
open Go.Proofs Go.IntWalk
set_option maxRecDepth 100000
abbrev rI (xs : List Int) : AC := .rd 1 Int 0 (fun n => [.int .i64 n]) xs
abbrev rII (xss : List (List Int)) : AC := .rd 1 (List Int) [] (fun xs => [.list 1 Int 0 (fun n => [.int .i64 n]) xs]) xss
abbrev tcells (f l : List Int) (nx : List (List Int)) : List AC := [rI f, rI l, rII nx]
abbrev tbl (f l : List Int) (nx : List (List Int)) : AV := .agg (tcells f l nx)
def rowE (f l : List Int) (nx : List (List Int)) (i : Nat) : Int :=
  if (nx.getD i []).length ≠ f.length then 3 else if bad (f.getD i 0) ∨ bad (l.getD i 0) ∨ ∃ w ∈ nx.getD i [], bad w then 4 else 0
def firstE (f l : List Int) (nx : List (List Int)) : Nat → Int
  | 0 => 0
  | k + 1 => if firstE f l nx k ≠ 0 then firstE f l nx k else rowE f l nx k
def tchk (f l : List Int) (nx : List (List Int)) : Int :=
  if 12 < f.length then 2 else if l.length ≠ f.length ∨ nx.length ≠ f.length then 3 else firstE f l nx f.length
theorem firstE_stick {f l : List Int} {nx : List (List Int)} {k : Nat} (h : firstE f l nx k ≠ 0) : ∀ m, firstE f l nx (k + m) = firstE f l nx k
  | 0 => rfl
  | m + 1 => by
    have := firstE_stick h m
    have e : firstE f l nx (k + (m + 1)) = if firstE f l nx (k + m) ≠ 0 then firstE f l nx (k + m) else rowE f l nx (k + m) := rfl
    rw [e, this, if_pos h]
theorem firstE_at {f l : List Int} {nx : List (List Int)} {k n : Nat} (h0 : firstE f l nx k = 0) (hr : rowE f l nx k ≠ 0) (hk : k < n) : firstE f l nx n = rowE f l nx k := by
  have e : firstE f l nx (k + 1) = rowE f l nx k := by
    show (if firstE f l nx k ≠ 0 then _ else _) = _
    rw [if_neg (by omega)]
  have := firstE_stick (k := k + 1) (by rw [e]; exact hr) (n - (k + 1))
  rw [show k + 1 + (n - (k + 1)) = n by omega] at this
  rw [this, e]
theorem firstE_next {f l : List Int} {nx : List (List Int)} {k : Nat} (h0 : firstE f l nx k = 0) : firstE f l nx (k + 1) = rowE f l nx k := by
  show (if firstE f l nx k ≠ 0 then _ else _) = _
  rw [if_neg (by omega)]
theorem firstE_zero {f l : List Int} {nx : List (List Int)} : ∀ {k : Nat}, firstE f l nx k = 0 → ∀ i, i < k → rowE f l nx i = 0
  | 0, _, i, hi => by omega
  | k + 1, h, i, hi => by
    have h' : (if firstE f l nx k ≠ 0 then firstE f l nx k else rowE f l nx k) = 0 := h
    by_cases h0 : firstE f l nx k = 0
    · rw [if_neg (by omega)] at h'
      by_cases e : i = k
      · subst e; exact h'
      · exact firstE_zero h0 i (by omega)
    · rw [if_pos h0] at h'
      exact absurd h' h0
set_option maxHeartbeats 8000000 in
theorem tableCheck_spec (f l : List Int) (nx : List (List Int)) (h1 : f.length < 9223372036854775807) (h2 : l.length < 9223372036854775807) (h3 : nx.length < 9223372036854775807) (h4 : ∀ r ∈ nx, r.length < 9223372036854775807) :
    ACall Try.prog 29 [tbl f l nx] [] (fun r os => r = .c (.int .i64 (tchk f l nx)) ∧ os = []) := by
  (refine ACall.of_body (nt := 58) (rs := [.tmp 2]) tabOK Try.func29 rfl rfl rfl rfl ?_; simp only [startSt, List.length_cons, List.length_nil, Nat.reduceAdd, Nat.reduceSub, List.replicate_succ, List.replicate_zero, List.cons_append, List.nil_append])
  simp only [VCp, VC_skip, VC_region, VC_seq, VC_cond, VC_block, VC_loop, VC_ret, aops_nil, aops_cons, put_some, aop, qop, isQuiet, ASt.eval, AV.need, AV.ac, AV.cells, AV.isTup, onG, guardOf, qbin, binInt, qpick, qpick0, qlen, qfieldAddr, qload, ned, AC.fits, newObj, ASt.obj, ofCells, TI.isAgg, isScalar, avOf, acOf, eInt, eList, ePair, List.getD_cons_succ, List.getD_cons_zero, List.set_cons_succ, List.set_cons_zero, List.cons_append, List.nil_append, List.length_cons, List.length_nil, List.drop_succ_cons, List.drop_zero, List.take_succ_cons, List.take_zero, List.take_nil, List.headD_cons, List.all_cons, List.all_nil, List.getElem?_cons_succ, List.getElem?_cons_zero, Option.bind_some, implies_true, imp_self, beq_false, decide_eq_true_eq, decide_eq_false_iff_not, Bool.not_eq_true', Bool.cond_true_left, Bool.or_eq_true, Bool.or_eq_false_iff, Int.not_lt, true_and, and_self, not_false_eq_true, Bool.and_true, Bool.true_and, Nat.add_zero, Nat.zero_add, Nat.reduceAdd, Nat.reduceLeDiff, Nat.le_refl, eq_self, Nat.succ_ne_self, tab_3, tab_26, tab_51, tab_53]
  refine ⟨fun h => ?_, fun h => ?_⟩
  · (refine RetAt.leaf ?_ ?_ <;> simp only [resOf, tupOf, ASt.eval, AV.strip, AV.need, AV.map, AC.ren, List.getD_cons_succ, List.getD_cons_zero, AV.c.injEq, AC.int.injEq, true_and, and_true, and_self, eq_self])
    unfold tchk
    rw [if_pos (by omega)]
  refine ⟨fun hc => ?_, fun hc => ?_⟩
  · (refine RetAt.leaf ?_ ?_ <;> simp only [resOf, tupOf, ASt.eval, AV.strip, AV.need, AV.map, AC.ren, List.getD_cons_succ, List.getD_cons_zero, AV.c.injEq, AC.int.injEq, true_and, and_true, and_self, eq_self])
    unfold tchk
    rw [if_neg (by omega), if_pos (by omega)]
  have hc1 : l.length = f.length := by have := hc.1; simp at this; omega
  have hc2 : nx.length = f.length := by have := hc.2; simp at this; omega
  have hk : tchk f l nx = firstE f l nx f.length := by
    unfold tchk
    rw [if_neg (by omega), if_neg (by omega)]
  refine LoopAt.inv (ι := Nat) (T := tab) (fun i => [(27, .c (.int .i64 i))]) (fun i => [.cells 53 (tcells f l nx)])
    (fun i => i ≤ f.length ∧ firstE f l nx i = 0) (fun i => f.length - i) tabOK 0 ⟨Nat.zero_le _, rfl⟩ ?_ ?_
  · (simp only [LessC, headSt, dsts, opDsts, resetS, putsS, lessS, lessO, belowS, belowO, AV.below, AObj.below, AC.below, List.set_cons_succ, List.set_cons_zero, List.cons_append, List.nil_append, List.append_nil, List.length_cons, List.length_nil, List.all_cons, List.all_nil, Nat.reduceLT, Int.cast_ofNat_Int, AV.c.injEq, and_self, reduceCtorEq, Bool.and_true, Nat.zero_add, Nat.reduceLeDiff, eq_self, decide_true, or_true, or_false] <;> try omega)
  rintro i ⟨hi, h0⟩
  simp only [VCp, headSt, dsts, opDsts, resetS, putsS, VC_skip, VC_region, VC_seq, VC_cond, VC_block, VC_exit, VC_ret, aops_nil, aops_cons, put_some, aop, qop, isQuiet, ASt.eval, ASt.ev, AV.strip, AV.need, AV.ac, AV.isTup, qbin, binInt, qlen, qindexAddr, qfieldAddr, qload, ned, ASt.obj, DV.ac, ofCells, TI.isAgg, isScalar, avOf, acOf, eInt, eList, ePair, List.getD_cons_succ, List.getD_cons_zero, List.set_cons_succ, List.set_cons_zero, List.map_cons, List.map_nil, List.cons_append, List.nil_append, List.append_nil, List.length_cons, List.length_nil, List.drop_zero, List.take_succ_cons, List.take_zero, List.take_nil, List.headD_cons, List.getElem?_cons_zero, Int.toNat_natCast, decide_eq_true_eq, decide_eq_false_iff_not, Bool.not_eq_true', Int.not_lt, true_and, and_self, not_false_eq_true, if_true, Nat.add_zero, Nat.zero_add, Nat.reduceAdd, Nat.reduceLeDiff, Nat.le_refl, eq_self, Nat.succ_ne_self, tab_3, tab_26, tab_51, tab_53]
  refine ⟨fun h => ?_, fun h => ?_⟩
  · have hi' : i < f.length := by omega
    have hat := fun hr => firstE_at (n := f.length) h0 hr hi'
    refine ⟨⟨by omega, by omega⟩, fun hl => ?_, fun hl => ?_⟩
    · (refine RetAt.leaf ?_ ?_ <;> simp only [resOf, tupOf, ASt.eval, AV.strip, AV.need, AV.map, AC.ren, List.getD_cons_succ, List.getD_cons_zero, AV.c.injEq, AC.int.injEq, true_and, and_true, and_self, eq_self])
      have e : rowE f l nx i = 3 := if_pos (by omega)
      rw [hk, hat (by rw [e]; decide), e]
    · have hrow : rowE f l nx i = if bad (f.getD i 0) ∨ bad (l.getD i 0) ∨ ∃ w ∈ nx.getD i [], bad w then 4 else 0 := if_neg (by simp only [Bool.not_eq_eq_eq_not, Bool.not_false, decide_eq_true_eq] at hl; omega)
      have hmem : nx.getD i [] ∈ nx := by simp [List.getD, show i < nx.length by omega]
      have hrl := h4 _ hmem
      refine ⟨⟨by omega, by omega⟩, ?_⟩
      refine CallAt.plain (wrong_spec _) rfl ?_
      rintro r os ⟨rfl, rfl⟩
      by_cases b1 : bad (f.getD i 0)
      · simp only [VC_skip, VC_region, VC_seq, VC_cond, VC_ret, aops_nil, aops_cons, put_some, aop, qop, isQuiet, ASt.eval, ASt.ev, AV.strip, AV.need, AV.ac, AV.isTup, onG, guardOf, qbin, binInt, qpick, qindexAddr, qfieldAddr, qload, ned, ASt.obj, AV.map, DV.ac, ofCells, TI.isAgg, isScalar, avOf, acOf, AC.ren, giveBack, afterCall, eInt, eList, ePair, List.getD_cons_succ, List.getD_cons_zero, List.set_cons_succ, List.set_cons_zero, List.map_cons, List.map_nil, List.cons_append, List.nil_append, List.append_nil, List.length_cons, List.length_nil, List.drop_succ_cons, List.drop_zero, List.take_succ_cons, List.take_zero, List.take_nil, List.headD_cons, List.getElem?_cons_succ, List.getElem?_cons_zero, Option.bind_some, Int.toNat_natCast, implies_true, imp_self, beq_false, true_and, and_true, and_self, forall_const, false_implies, not_false_eq_true, Bool.false_eq_true, Bool.true_eq_false, Bool.not_true, Nat.zero_add, Nat.reduceAdd, Nat.reduceLeDiff, Nat.le_refl, eq_self, Nat.succ_ne_self, decide_true, and_false, false_and, tab_3, tab_26, tab_53, b1]
        (refine RetAt.leaf ?_ ?_ <;> simp only [resOf, tupOf, ASt.eval, AV.strip, AV.need, AV.map, AC.ren, List.getD_cons_succ, List.getD_cons_zero, AV.c.injEq, AC.int.injEq, true_and, and_true, and_self, eq_self])
        rw [hk, hat (by rw [hrow, if_pos (.inl b1)]; decide), hrow, if_pos (.inl b1)]
      simp only [aops_cons, put_some, aop, qop, isQuiet, ASt.eval, ASt.ev, AV.strip, AV.need, AV.ac, AV.isTup, onG, guardOf, qpick, qindexAddr, qfieldAddr, qload, ned, ASt.obj, AV.map, DV.ac, ofCells, TI.isAgg, avOf, acOf, AC.ren, giveBack, afterCall, eInt, eList, ePair, List.getD_cons_succ, List.getD_cons_zero, List.set_cons_succ, List.set_cons_zero, List.map_cons, List.map_nil, List.cons_append, List.nil_append, List.append_nil, List.length_cons, List.length_nil, List.drop_succ_cons, List.drop_zero, List.take_succ_cons, List.take_zero, List.take_nil, List.headD_cons, List.getElem?_cons_succ, List.getElem?_cons_zero, Option.bind_some, Int.toNat_natCast, implies_true, imp_self, true_and, and_true, and_self, forall_const, not_false_eq_true, Bool.true_eq_false, beq_self_eq_true, Nat.zero_add, Nat.reduceAdd, Nat.reduceLeDiff, Nat.le_refl, eq_self, Nat.succ_ne_self, decide_false, and_false, tab_3, tab_26, tab_53, b1]
      refine ⟨⟨by omega, by omega⟩, ?_⟩
      refine CallAt.plain (wrong_spec _) rfl ?_
      rintro r os ⟨rfl, rfl⟩
      by_cases b2 : bad (l.getD i 0)
      · simp only [VC_skip, VC_region, VC_seq, VC_cond, VC_ret, aops_nil, aops_cons, put_some, aop, qop, isQuiet, ASt.eval, ASt.ev, AV.strip, AV.need, AV.ac, AV.isTup, onG, guardOf, qbin, binInt, qpick, qpick0, ned, AV.map, isScalar, avOf, acOf, AC.ren, giveBack, afterCall, eInt, List.getD_cons_succ, List.getD_cons_zero, List.set_cons_succ, List.set_cons_zero, List.map_cons, List.map_nil, List.append_nil, List.length_cons, List.length_nil, List.getElem?_cons_succ, List.getElem?_cons_zero, Option.bind_some, implies_true, imp_self, beq_false, true_and, and_true, and_self, forall_const, false_implies, Bool.false_eq_true, Bool.true_eq_false, Bool.not_true, cond_false, Nat.zero_add, eq_self, decide_true, and_false, false_and, tab_3, b2]
        (refine RetAt.leaf ?_ ?_ <;> simp only [resOf, tupOf, ASt.eval, AV.strip, AV.need, AV.map, AC.ren, List.getD_cons_succ, List.getD_cons_zero, AV.c.injEq, AC.int.injEq, true_and, and_true, and_self, eq_self])
        rw [hk, hat (by rw [hrow, if_pos (.inr (.inl b2))]; decide), hrow, if_pos (.inr (.inl b2))]
      simp only [VC_cond, aops_nil, aops_cons, put_some, aop, qop, isQuiet, ASt.eval, ASt.ev, AV.strip, AV.need, AV.ac, AV.isTup, onG, guardOf, qpick, qpick0, ned, AV.map, avOf, acOf, AC.ren, giveBack, afterCall, List.getD_cons_succ, List.getD_cons_zero, List.set_cons_succ, List.set_cons_zero, List.map_cons, List.map_nil, List.append_nil, List.length_cons, List.length_nil, List.getElem?_cons_succ, List.getElem?_cons_zero, Option.bind_some, implies_true, imp_self, true_and, and_true, and_self, forall_const, Bool.true_eq_false, cond_false, beq_self_eq_true, Nat.zero_add, eq_self, decide_false, and_false, b2]
      refine CallAt.plain (containsFunc_spec _ hrl) rfl ?_
      rintro r os ⟨rfl, rfl⟩
      by_cases b3 : ∃ w ∈ nx.getD i [], bad w
      · simp only [VC_skip, VC_region, VC_seq, VC_cond, VC_ret, aops_nil, aops_cons, put_some, qop, isQuiet, ASt.eval, AV.need, AV.ac, qbin, binInt, qpick, qpick0, AV.map, isScalar, avOf, acOf, AC.ren, giveBack, afterCall, eInt, List.getD_cons_succ, List.getD_cons_zero, List.set_cons_succ, List.set_cons_zero, List.map_nil, List.append_nil, List.length_cons, List.length_nil, true_and, and_true, and_self, forall_const, false_implies, Bool.true_eq_false, cond_false, Nat.zero_add, eq_self, decide_true, tab_3, b3]
        (refine RetAt.leaf ?_ ?_ <;> simp only [resOf, tupOf, ASt.eval, AV.strip, AV.need, AV.map, AC.ren, List.getD_cons_succ, List.getD_cons_zero, AV.c.injEq, AC.int.injEq, true_and, and_true, and_self, eq_self])
        rw [hk, hat (by rw [hrow, if_pos (.inr (.inr b3))]; decide), hrow, if_pos (.inr (.inr b3))]
      simp only [VC_skip, VC_region, VC_seq, VC_cond, VC_ret, aops_nil, aops_cons, put_some, qop, isQuiet, ASt.eval, AV.need, AV.ac, qbin, binInt, qpick, qpick0, AV.map, isScalar, avOf, acOf, AC.ren, giveBack, afterCall, eInt, List.getD_cons_succ, List.getD_cons_zero, List.set_cons_succ, List.set_cons_zero, List.map_nil, List.append_nil, List.length_cons, List.length_nil, true_and, and_self, forall_const, false_implies, Bool.false_eq_true, cond_false, Nat.zero_add, eq_self, decide_false, tab_3, b3]
      refine ⟨i + 1, ⟨by omega, ?_⟩, by omega, ?_⟩
      · rw [firstE_next h0, hrow, if_neg (by rintro (h | h | h) <;> contradiction)]
      · (simp only [LessC, lessS, lessO, belowS, belowO, AV.below, AObj.below, AC.below, List.length_cons, List.length_nil, List.all_cons, List.all_nil, Nat.reduceLT, Int.cast_ofNat_Int, Int.natCast_add, AV.c.injEq, AC.int.injEq, true_and, and_true, and_self, reduceCtorEq, Bool.and_true, Nat.zero_add, Nat.reduceLeDiff, eq_self, decide_true, or_true, or_false, false_or] <;> try omega)
        exact i64_in _ (by omega)
  · have : i = f.length := by omega
    subst this
    (refine RetAt.leaf ?_ ?_ <;> simp only [resOf, tupOf, ASt.eval, AV.strip, AV.need, AV.map, AC.ren, List.getD_cons_succ, List.getD_cons_zero, AV.c.injEq, AC.int.injEq, true_and, and_true, and_self, eq_self])
    rw [hk, h0]
set_option maxHeartbeats 8000000 in
theorem check_spec (f l : List Int) (nx : List (List Int)) (h1 : f.length < 9223372036854775807) (h2 : l.length < 9223372036854775807) (h3 : nx.length < 9223372036854775807) (h4 : ∀ r ∈ nx, r.length < 9223372036854775807) :
    ACall Try.prog 31 [tbl f l nx] [] (fun r os => r = .c (.int .i64 (tchk f l nx)) ∧ os = []) := by
  (refine ACall.of_body (nt := 66) (rs := [.tmp 2]) tabOK Try.func31 rfl rfl rfl rfl ?_; simp only [startSt, List.length_cons, List.length_nil, Nat.reduceAdd, Nat.reduceSub, List.replicate_succ, List.replicate_zero, List.cons_append, List.nil_append])
  simp only [VCp, VC_skip, VC_region, VC_seq, VC_cond, VC_block, VC_loop, VC_ret, aops_nil, aops_cons, put_some, aop, qop, isQuiet, ASt.eval, AV.need, AV.ac, AV.cells, AV.isTup, onG, guardOf, qbin, binInt, qpick, qpick0, qlen, qfieldAddr, qload, ned, AC.fits, newObj, ASt.obj, ofCells, TI.isAgg, isScalar, avOf, acOf, eInt, eList, ePair, List.getD_cons_succ, List.getD_cons_zero, List.set_cons_succ, List.set_cons_zero, List.cons_append, List.nil_append, List.length_cons, List.length_nil, List.drop_succ_cons, List.drop_zero, List.take_succ_cons, List.take_zero, List.take_nil, List.headD_cons, List.all_cons, List.all_nil, List.getElem?_cons_succ, List.getElem?_cons_zero, Option.bind_some, Int.reduceNeg, implies_true, imp_self, beq_false, decide_eq_true_eq, decide_eq_false_iff_not, Bool.not_eq_true', Bool.cond_true_left, Bool.or_eq_true, Bool.or_eq_false_iff, Int.not_lt, true_and, and_self, not_false_eq_true, Bool.and_true, Bool.true_and, Nat.add_zero, Nat.zero_add, Nat.reduceAdd, Nat.reduceLeDiff, Nat.le_refl, eq_self, Nat.succ_ne_self, tab_3, tab_26, tab_51, tab_53]
  refine ⟨fun h => ?_, fun h => ?_⟩
  · (refine RetAt.leaf ?_ ?_ <;> simp only [resOf, tupOf, ASt.eval, AV.strip, AV.need, AV.map, AC.ren, List.getD_cons_succ, List.getD_cons_zero, AV.c.injEq, AC.int.injEq, true_and, and_true, and_self, eq_self])
    unfold tchk
    rw [if_pos (by omega)]
  refine ⟨fun hc => ?_, fun hc => ?_⟩
  · (refine RetAt.leaf ?_ ?_ <;> simp only [resOf, tupOf, ASt.eval, AV.strip, AV.need, AV.map, AC.ren, List.getD_cons_succ, List.getD_cons_zero, AV.c.injEq, AC.int.injEq, true_and, and_true, and_self, eq_self])
    unfold tchk
    rw [if_neg (by omega), if_pos (by omega)]
  have hc1 : l.length = f.length := by have := hc.1; simp at this; omega
  have hc2 : nx.length = f.length := by have := hc.2; simp at this; omega
  have hk : tchk f l nx = firstE f l nx f.length := by
    unfold tchk
    rw [if_neg (by omega), if_neg (by omega)]
  refine LoopAt.fix 0 ?_
  simp only [ASt.fix, AC.fixp, ASt.setObj, ASt.obj, ASt.map, AV.map, AObj.map, dvs, AC.dv, List.getD_cons_zero, List.set_cons_zero, List.map_cons, List.map_nil, List.drop_succ_cons, List.drop_zero, Int.reduceNeg, cond_true, beq_self_eq_true]
  refine LoopAt.inv (ι := Nat) (T := tab) (fun i => [(25, .c (.int .i64 i))]) (fun i => [])
    (fun i => i ≤ f.length ∧ firstE f l nx i = 0) (fun i => f.length - i) tabOK 0 ⟨Nat.zero_le _, rfl⟩ ?_ ?_
  · (simp only [LessC, headSt, dsts, opDsts, resetS, putsS, lessS, lessO, belowS, belowO, AV.below, AC.below, List.set_cons_succ, List.set_cons_zero, List.cons_append, List.nil_append, List.append_nil, List.length_nil, List.all_cons, List.all_nil, Int.cast_ofNat_Int, AV.c.injEq, and_self, reduceCtorEq, Bool.and_true, Nat.le_refl, eq_self, or_true, or_false] <;> try omega)
  rintro i ⟨hi, h0⟩
  simp only [VCp, headSt, dsts, opDsts, resetS, putsS, VC_skip, VC_region, VC_draw, VC_seq, VC_cond, VC_block, VC_exit, VC_ret, aops_nil, aops_cons, put_some, qop, isQuiet, ASt.eval, AV.need, AV.ac, qbin, binInt, qlen, qindexAddr, qfieldAddr, qload, DV.ac, ofCells, TI.isAgg, isScalar, avOf, acOf, eInt, eList, ePair, List.getD_cons_succ, List.getD_cons_zero, List.set_cons_succ, List.set_cons_zero, List.map_cons, List.map_nil, List.cons_append, List.nil_append, List.append_nil, List.length_cons, List.length_nil, List.drop_succ_cons, List.drop_zero, List.take_succ_cons, List.take_nil, List.headD_cons, List.getElem?_cons_succ, List.getElem?_cons_zero, Int.reduceNeg, Int.toNat_natCast, decide_eq_true_eq, decide_eq_false_iff_not, Bool.not_eq_true', Int.not_lt, true_and, and_self, not_false_eq_true, if_true, Nat.zero_add, Nat.le_refl, eq_self, Nat.succ_ne_self, tab_3, tab_26, tab_51, tab_53]
  refine ⟨fun h => ?_, fun h => ?_⟩
  · have hi' : i < f.length := by omega
    have hat := fun hr => firstE_at (n := f.length) h0 hr hi'
    refine ⟨⟨by omega, by omega⟩, fun hl => ?_, fun hl => ?_⟩
    · (refine RetAt.leaf ?_ ?_ <;> simp only [resOf, tupOf, ASt.eval, AV.strip, AV.need, AV.map, AC.ren, List.getD_cons_succ, List.getD_cons_zero, AV.c.injEq, AC.int.injEq, true_and, and_true, and_self, eq_self])
      have e : rowE f l nx i = 3 := if_pos (by omega)
      rw [hk, hat (by rw [e]; decide), e]
    · have hrow : rowE f l nx i = if bad (f.getD i 0) ∨ bad (l.getD i 0) ∨ ∃ w ∈ nx.getD i [], bad w then 4 else 0 := if_neg (by simp only [Bool.not_eq_eq_eq_not, Bool.not_false, decide_eq_true_eq] at hl; omega)
      have hmem : nx.getD i [] ∈ nx := by simp [List.getD, show i < nx.length by omega]
      have hrl := h4 _ hmem
      have hrow2 : rowE f l nx i = if ∃ w ∈ f.getD i 0 :: l.getD i 0 :: nx.getD i [], bad w then 4 else 0 := by
        rw [hrow]
        congr 1
        simp
      have hl' : (nx.getD i []).length = f.length := by simp only [Bool.not_eq_eq_eq_not, Bool.not_false, decide_eq_true_eq] at hl; omega
      refine DrawAt.plan tabOK mixed (.take 0 false (.take 1 false (.take 2 false (.take 3 false (.take 4 false (.take 5 false (.take 6 false (.take 7 false (.take 8 false (.take 9 false (.take 11 false (.take 12 false (.take 13 false (.take 14 false (.take 15 false (.take 18 false (.alt 10 (.alt 16 (.take 17 true .done) .stop) .stop))))))))))))))))) (by decide +kernel) ?_
      simp only [ownPart, appRows, avc_done, avc_stop, avc_take, avc_alt, qstep, lstep, ownLoad, VC_block, VC_loop, put_some, aop, qop, isQuiet, ASt.eval, AV.need, AV.ac, AV.cells, AV.isTup, qlen, qindexAddr, qfieldAddr, qload, needAll, ned, partsOf, fitAll, AC.fits, abuildSlice, elems, setPart, appSrc, aappend, newObj, ASt.setObj, ASt.obj, ASt.map, frzRefs, AV.map, AObj.map, AC.kill, dvs, AC.dv, DV.ac, leD, leD1, ofCells, TI.isAgg, avOf, acOf, eInt, eList, ePair, List.getD_cons_succ, List.getD_cons_zero, List.set_cons_succ, List.set_cons_zero, List.map_cons, List.map_nil, List.replicate_succ, List.replicate_zero, List.cons_append, List.nil_append, List.append_nil, List.length_cons, List.length_nil, List.length_append, List.drop_succ_cons, List.drop_zero, List.take_succ_cons, List.take_zero, List.take_nil, List.headD_cons, List.all_cons, List.all_nil, List.flatMap_cons, List.flatMap_nil, List.getElem?_cons_succ, List.getElem?_cons_zero, Int.reduceNeg, Nat.reduceLT, Int.cast_ofNat_Int, Int.natCast_add, ↓ex_rfl, cast_eq, heq_eq_eq, DV.int.injEq, exists_eq_left', Int.toNat_natCast, true_and, and_true, and_self, not_false_eq_true, Bool.and_true, Bool.false_eq_true, cond_true, beq_self_eq_true, Nat.zero_add, Nat.reduceAdd, Nat.reduceMul, Nat.reduceLeDiff, Nat.le_refl, eq_self, Nat.succ_ne_self, or_true, tab_3, tab_26, tab_51, tab_53]
      refine ⟨⟨by omega, by omega⟩, ⟨by omega, by omega⟩, ⟨by omega, by omega⟩, by omega, by omega, ?_⟩
      generalize hW : f.getD i 0 :: l.getD i 0 :: nx.getD i [] = ws at *
      have hwl : ws.length = f.length + 2 := by rw [← hW]; simp only [List.length_cons]; omega
      refine LoopAt.inv (ι := Nat) (T := tab) (fun k => [(54, .c (.int .i64 k))]) (fun k => [.row 3 1 Int 0 (fun n => [.int .i64 n]) ws])
        (fun k => k ≤ ws.length ∧ ¬ ∃ w ∈ ws.take k, bad w) (fun k => ws.length - k) tabOK 0 ⟨Nat.zero_le _, by simp⟩ ?_ ?_
      · (simp only [LessC, headSt, dsts, opDsts, resetS, putsS, lessS, lessO, belowS, belowO, AV.below, AObj.below, AC.below, List.set_cons_succ, List.set_cons_zero, List.cons_append, List.nil_append, List.append_nil, List.length_cons, List.length_nil, List.all_cons, List.all_nil, Nat.reduceLT, Int.cast_ofNat_Int, AV.c.injEq, and_self, reduceCtorEq, Bool.and_true, Nat.zero_add, Nat.reduceLeDiff, eq_self, decide_true, or_true] <;> try omega)
      rintro k ⟨hk1, hk2⟩
      simp only [VCp, headSt, dsts, opDsts, resetS, putsS, VC_skip, VC_region, VC_seq, VC_cond, VC_block, VC_exit, VC_ret, aops_nil, aops_cons, put_some, qop, isQuiet, ASt.eval, AV.need, AV.ac, onG, guardOf, qbin, binInt, qpick, qpick0, qindexAddr, qload, ASt.obj, DV.ac, ofCells, TI.isAgg, isScalar, avOf, acOf, eInt, eList, List.getD_cons_succ, List.getD_cons_zero, List.set_cons_succ, List.set_cons_zero, List.map_cons, List.map_nil, List.cons_append, List.nil_append, List.append_nil, List.drop_zero, List.take_succ_cons, List.take_nil, List.headD_cons, List.getElem?_cons_succ, List.getElem?_cons_zero, Option.bind_some, Int.reduceNeg, Int.toNat_natCast, implies_true, imp_self, beq_false, decide_eq_true_eq, decide_eq_false_iff_not, Bool.not_eq_true', Bool.cond_true_left, Bool.or_eq_true, Bool.or_eq_false_iff, Int.not_lt, true_and, and_true, and_self, reduceCtorEq, not_false_eq_true, Bool.true_and, if_true, if_false, Nat.zero_add, Nat.le_refl, eq_self, Nat.succ_ne_self, tab_3, tab_26]
      have hbd : ∀ w, bad w ↔ w < -1000000 ∨ 1000000 < w := fun w => Iff.rfl
      refine ⟨fun hk3 => ?_, fun hk3 => ?_⟩
      · have hk' : k < ws.length := by omega
        have hmw : ws.getD k 0 ∈ ws := by simp [List.getD, hk']
        refine ⟨⟨by omega, by omega⟩, by omega, fun hb => ?_, fun hb => ⟨k + 1, ⟨by omega, ?_⟩, by omega, ?_⟩⟩
        · (refine RetAt.leaf ?_ ?_ <;> simp only [resOf, tupOf, ASt.eval, AV.strip, AV.need, AV.map, AC.ren, List.getD_cons_succ, List.getD_cons_zero, Int.reduceNeg, AV.c.injEq, AC.int.injEq, true_and, and_true, and_self, eq_self])
          have hx : ∃ w ∈ ws, bad w := ⟨_, hmw, hb⟩
          rw [hk, hat (by rw [hrow2, if_pos hx]; decide), hrow2, if_pos hx]
        · rw [take_next ws k 0 hk']
          rintro ⟨w, hw, hb2⟩
          rcases List.mem_append.1 hw with hw | hw
          · exact hk2 ⟨w, hw, hb2⟩
          · simp only [List.mem_singleton] at hw
            subst hw
            have := (hbd _).1 hb2
            omega
        · (simp only [LessC, lessS, lessO, belowS, belowO, AV.below, AObj.below, AC.below, List.length_cons, List.length_nil, List.all_cons, List.all_nil, Int.reduceNeg, Nat.reduceLT, Int.cast_ofNat_Int, Int.natCast_add, AV.c.injEq, AC.int.injEq, true_and, and_true, and_self, reduceCtorEq, Bool.and_true, Nat.zero_add, Nat.reduceLeDiff, eq_self, decide_true, or_true, or_false, false_or] <;> try omega)
          exact i64_in _ (by omega)
      · have : k = ws.length := by omega
        subst this
        rw [List.take_length] at hk2
        refine ⟨i + 1, ⟨by omega, ?_⟩, by omega, ?_⟩
        · rw [firstE_next h0, hrow2, if_neg hk2]
        · (simp only [LessC, lessS, lessO, belowS, belowO, AV.below, AC.below, List.length_nil, List.all_cons, List.all_nil, Int.cast_ofNat_Int, Int.natCast_add, AV.c.injEq, AC.int.injEq, true_and, and_true, and_self, reduceCtorEq, Bool.and_true, Nat.le_refl, eq_self, or_true, or_false, false_or] <;> try omega)
          exact i64_in _ (by omega)
  · have : i = f.length := by omega
    subst this
    (refine RetAt.leaf ?_ ?_ <;> simp only [resOf, tupOf, ASt.eval, AV.strip, AV.need, AV.map, AC.ren, List.getD_cons_succ, List.getD_cons_zero, AV.c.injEq, AC.int.injEq, true_and, and_true, and_self, eq_self])
    rw [hk, h0]
end Go.Vc.Pc
