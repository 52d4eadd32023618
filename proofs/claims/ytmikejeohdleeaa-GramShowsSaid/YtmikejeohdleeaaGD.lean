/- Automata: acceptance, and where fragments stand. -/
import Derived.Test.YtmikejeohdleeaaGC
set_option linter.unusedVariables false
set_option linter.unusedSimpArgs false
namespace Go.Vc
open Go.Proofs Go.IntWalk
set_option maxRecDepth 100000
theorem u32_ne0 {a : Nat} : (¬ ((a : Nat) : Int) = 0) ↔ a ≠ 0 := by omega
/-- what a check of an automaton and a question come to -/
structure GramQ (ms : List Mv) (es : List Int) (part : List Int) (f i l : Bool) : Prop where
  first : f = true ↔ ∃ q, Clos tgt frm ms (endsF es) q ∧ runF ms 1 part &&& q ≠ 0
  inside : i = true ↔ ∃ q a, Clos tgt frm ms (endsF es) q ∧ Clos frm tgt ms 1 a ∧ runF ms a part &&& q ≠ 0
  last : l = true ↔ ∃ a, Clos frm tgt ms 1 a ∧ runF ms a part &&& endsF es ≠ 0
theorem Clos.unique {a b : Mv → Nat} {ms : List Mv} {m r r' : Nat} (h : Clos a b ms m r) (h' : Clos a b ms m r') : r = r' := by
  apply Nat.eq_of_testBit_eq
  intro i
  have h1 := h.least (fun i => r'.testBit i = true) h'.sub h'.closed i
  have h2 := h'.least (fun i => r.testBit i = true) h.sub h.closed i
  cases h3 : r.testBit i <;> cases h4 : r'.testBit i <;> simp_all
set_option maxHeartbeats 4000000 in
theorem accepts_spec (n : Int) (ms : List Mv) (es part : List Int) (h1 : ms.length < 9223372036854775807) (h2 : es.length < 9223372036854775807) (h3 : part.length < 9223372036854775807) :
    ACall Try.prog 20 [mach n ms es, .c (.rd 1 Int 0 encU8 part)] [] (fun r os => ∃ d : Bool, r = .tup [(false, [.bool d]), (false, [.int .i64 (chk n ms es)])] ∧ os = [] ∧
      (chk n ms es ≠ 0 → d = false) ∧ (chk n ms es = 0 → (d = true ↔ runF ms 1 part &&& endsF es ≠ 0))) := by
  (refine ACall.of_body (nt := 19) (rs := [.tmp 4, .tmp 5]) tabOK Try.func20 rfl rfl rfl rfl ?_; simp only [startSt, List.length_cons, List.length_nil, Nat.reduceAdd, Nat.reduceSub, List.replicate_succ, List.replicate_zero, List.cons_append, List.nil_append])
  simp only [VCp, VC_region, VC_seq, aops_nil, aops_cons, put_some, aop, qop, isQuiet, ASt.eval, ASt.ev, AV.strip, AV.need, AV.ac, AV.cells, AV.isTup, qload, ned, AC.fits, newObj, ASt.obj, ofCells, TI.isAgg, avOf, acOf, eInt, eList, ePair, List.getD_cons_succ, List.getD_cons_zero, List.set_cons_succ, List.set_cons_zero, List.map_cons, List.map_nil, List.cons_append, List.nil_append, List.length_cons, List.length_nil, List.drop_zero, List.take_succ_cons, List.take_nil, List.all_cons, List.all_nil, true_and, and_self, reduceCtorEq, not_false_eq_true, Bool.and_true, Nat.zero_add, Nat.reduceAdd, Nat.le_refl, eq_self, ne_eq, tab_28]
  refine CallAt.plain (check_spec n ms es h1 h2) rfl ?_
  rintro r os ⟨rfl, rfl⟩
  simp only [VC_skip, VC_region, VC_draw, VC_seq, VC_cond, VC_ret, aops_nil, aops_cons, put_some, qop, isQuiet, ASt.eval, AV.need, AV.ac, qbin, binInt, AV.map, isScalar, avOf, acOf, AC.ren, giveBack, afterCall, eInt, List.getD_cons_succ, List.getD_cons_zero, List.set_cons_succ, List.set_cons_zero, List.map_nil, List.append_nil, List.length_cons, List.length_nil, decide_eq_false_iff_not, Bool.not_eq_true', true_and, and_self, Nat.zero_add, eq_self, tab_34]
  refine ⟨fun hc => ?_, fun hc => ?_⟩
  · (refine RetAt.leaf ?_ ?_ <;> simp only [resOf, tupOf, compOf, ASt.eval, AV.strip, AV.need, AV.map, findIx, AC.ren, List.getD_cons_succ, List.getD_cons_zero, List.map_cons, List.map_nil, true_and, and_self, eq_self])
    exact ⟨false, rfl, fun _ => rfl, fun h => absurd h hc⟩
  · have hc0 : chk n ms es = 0 := by simpa using hc
    obtain ⟨g1, g2, g3, g4⟩ := chk_mok hc0
    have e1 := runF_lt g1 (m := 1) (by decide) part
    have e2 : endsF es < 2 ^ 32 := endsF_lt g2
    refine DrawAt.fix 0 ?_
    simp only [ASt.fix, AC.fixp, ASt.setObj, ASt.obj, ASt.map, AV.map, AObj.map, dvs, AC.dv, List.getD_cons_zero, List.set_cons_zero, List.map_cons, List.map_nil, List.drop_zero, cond_true, beq_self_eq_true]
    refine DrawAt.plan tabOK mixed (.take 0 false (.take 1 false (.take 3 false (.alt 2 (.alt 4 (.take 5 true (.take 6 true (.take 7 true (.take 8 true .done)))) .stop) .stop)))) (by decide +kernel) ?_
    simp only [avc_stop, avc_take, avc_alt, qstep, lstep, ownLoad, put_n0, put_some, aop, qop, isQuiet, ASt.eval, ASt.ev, AV.strip, AV.need, AV.ac, AV.isTup, qload, ned, DV.ac, ofCells, TI.isAgg, avOf, acOf, eInt, eList, ePair, List.getD_cons_succ, List.getD_cons_zero, List.set_cons_succ, List.set_cons_zero, List.map_cons, List.map_nil, List.cons_append, List.nil_append, List.length_cons, List.length_nil, List.take_succ_cons, List.take_nil, List.getElem?_cons_succ, List.getElem?_cons_zero, true_and, and_true, and_self, reduceCtorEq, not_false_eq_true, Bool.false_eq_true, Nat.zero_add, Nat.reduceAdd, Nat.le_refl, eq_self, or_true, tab_28]
    refine CallAt.plain (run_spec n ms es 1 part (by decide) g1 g3 h3) rfl ?_
    rintro r os ⟨rfl, rfl⟩
    simp only [avc_stop, avc_alt, lstep, put_n0, put_some, aop, isQuiet, ASt.eval, ASt.ev, AV.strip, AV.need, AV.isTup, ned, AV.map, AC.ren, giveBack, afterCall, List.getD_cons_succ, List.getD_cons_zero, List.set_cons_succ, List.set_cons_zero, List.map_cons, List.map_nil, List.append_nil, List.length_cons, List.length_nil, List.getElem?_cons_succ, List.getElem?_cons_zero, true_and, and_true, and_self, Nat.zero_add, eq_self]
    refine CallAt.plain (ends_spec n ms es g2 g4) rfl ?_
    rintro r os ⟨rfl, rfl⟩
    simp only [avc_done, avc_take, qstep, ownLoad, VC_ret, put_some, qop, isQuiet, ASt.eval, AV.need, AV.ac, qbin, binInt, AV.map, isScalar, avOf, acOf, AC.ren, giveBack, afterCall, eInt, List.getD_cons_succ, List.getD_cons_zero, List.set_cons_succ, List.set_cons_zero, List.map_nil, List.append_nil, List.length_cons, List.length_nil, List.getElem?_cons_succ, List.getElem?_cons_zero, true_and, and_self, Nat.zero_add, eq_self, or_true, tab_108]
    (refine RetAt.leaf ?_ ?_ <;> simp only [resOf, tupOf, compOf, ASt.eval, AV.strip, AV.need, AV.map, findIx, AC.ren, List.getD_cons_succ, List.getD_cons_zero, List.map_cons, List.map_nil, true_and, and_self, eq_self])
    rw [u32_and e1 e2, hc0]
    refine ⟨_, rfl, fun h => absurd rfl h, fun _ => ?_⟩
    simp only [Bool.not_eq_true', decide_eq_false_iff_not, u32_ne0]
set_option maxHeartbeats 8000000 in
theorem gstands_spec (n : Int) (ms : List Mv) (es part : List Int) (h1 : ms.length < 9223372036854775807) (h2 : es.length < 9223372036854775807) (h3 : part.length < 9223372036854775807) :
    ACall Try.prog 19 [mach n ms es, .c (.rd 1 Int 0 encU8 part)] [] (fun r os => ∃ f i l : Bool, r = .tup [(false, [.bool f]), (false, [.bool i]), (false, [.bool l]), (false, [.int .i64 (chk n ms es)])] ∧ os = [] ∧
      (chk n ms es ≠ 0 → f = false ∧ i = false ∧ l = false) ∧ (chk n ms es = 0 → GramQ ms es part f i l)) := by
  (refine ACall.of_body (nt := 46) (rs := [.tmp 4, .tmp 5, .tmp 6, .tmp 7]) tabOK Try.func19 rfl rfl rfl rfl ?_; simp only [startSt, List.length_cons, List.length_nil, Nat.reduceAdd, Nat.reduceSub, List.replicate_succ, List.replicate_zero, List.cons_append, List.nil_append])
  simp only [VCp, VC_region, VC_seq, aops_nil, aops_cons, put_some, aop, qop, isQuiet, ASt.eval, ASt.ev, AV.strip, AV.need, AV.ac, AV.cells, AV.isTup, qload, ned, AC.fits, newObj, ASt.obj, ofCells, TI.isAgg, avOf, acOf, eInt, eList, ePair, List.getD_cons_succ, List.getD_cons_zero, List.set_cons_succ, List.set_cons_zero, List.map_cons, List.map_nil, List.cons_append, List.nil_append, List.length_cons, List.length_nil, List.drop_zero, List.take_succ_cons, List.take_nil, List.all_cons, List.all_nil, true_and, and_self, reduceCtorEq, not_false_eq_true, Bool.and_true, Nat.zero_add, Nat.reduceAdd, Nat.le_refl, eq_self, ne_eq, tab_28]
  refine CallAt.plain (check_spec n ms es h1 h2) rfl ?_
  rintro r os ⟨rfl, rfl⟩
  simp only [VC_skip, VC_region, VC_draw, VC_seq, VC_cond, VC_ret, aops_nil, aops_cons, put_some, qop, isQuiet, ASt.eval, AV.need, AV.ac, qbin, binInt, AV.map, isScalar, avOf, acOf, AC.ren, giveBack, afterCall, eInt, List.getD_cons_succ, List.getD_cons_zero, List.set_cons_succ, List.set_cons_zero, List.map_nil, List.append_nil, List.length_cons, List.length_nil, decide_eq_false_iff_not, Bool.not_eq_true', true_and, and_self, Nat.zero_add, eq_self, tab_34]
  refine ⟨fun hc => ?_, fun hc => ?_⟩
  · (refine RetAt.leaf ?_ ?_ <;> simp only [resOf, tupOf, compOf, ASt.eval, AV.strip, AV.need, AV.map, findIx, AC.ren, List.getD_cons_succ, List.getD_cons_zero, List.map_cons, List.map_nil, true_and, and_self, eq_self])
    exact ⟨false, false, false, rfl, fun _ => ⟨rfl, rfl, rfl⟩, fun h => absurd h hc⟩
  · have hc0 : chk n ms es = 0 := by simpa using hc
    obtain ⟨g1, g2, g3, g4⟩ := chk_mok hc0
    have e2 : endsF es < 2 ^ 32 := endsF_lt g2
    refine DrawAt.fix 0 ?_
    simp only [ASt.fix, AC.fixp, ASt.setObj, ASt.obj, ASt.map, AV.map, AObj.map, dvs, AC.dv, List.getD_cons_zero, List.set_cons_zero, List.map_cons, List.map_nil, List.drop_zero, cond_true, beq_self_eq_true]
    refine DrawAt.plan tabOK mixed (.take 0 false (.take 1 false (.alt 2 (.alt 3 (.take 4 true .done) .stop) .stop))) (by decide +kernel) ?_
    simp only [avc_stop, avc_take, avc_alt, qstep, lstep, ownLoad, put_n0, put_some, aop, qop, isQuiet, ASt.eval, ASt.ev, AV.strip, AV.need, AV.ac, AV.isTup, qload, ned, DV.ac, ofCells, TI.isAgg, eInt, eList, ePair, List.getD_cons_succ, List.getD_cons_zero, List.set_cons_succ, List.set_cons_zero, List.map_cons, List.map_nil, List.cons_append, List.nil_append, List.length_cons, List.length_nil, List.take_succ_cons, List.take_nil, List.getElem?_cons_succ, List.getElem?_cons_zero, true_and, and_true, and_self, reduceCtorEq, not_false_eq_true, Bool.false_eq_true, Nat.zero_add, Nat.reduceAdd, Nat.le_refl, eq_self, or_true, tab_28]
    refine CallAt.plain (ends_spec n ms es g2 g4) rfl ?_
    rintro r os ⟨rfl, rfl⟩
    simp only [avc_stop, avc_alt, lstep, put_n0, put_some, aop, isQuiet, ASt.eval, ASt.ev, AV.strip, AV.need, AV.isTup, ned, AV.map, AC.ren, giveBack, afterCall, List.getD_cons_succ, List.getD_cons_zero, List.set_cons_succ, List.set_cons_zero, List.map_cons, List.map_nil, List.append_nil, List.length_cons, List.length_nil, List.getElem?_cons_succ, List.getElem?_cons_zero, true_and, and_true, and_self, Nat.zero_add, eq_self]
    refine CallAt.plain (lead_spec n ms es (endsF es) e2 g1 g3) rfl ?_
    rintro r os ⟨q, rfl, hq, rfl⟩
    simp only [avc_done, avc_take, qstep, ownLoad, VC_region, VC_seq, aops_cons, put_some, aop, qop, isQuiet, ASt.eval, ASt.ev, AV.strip, AV.need, AV.ac, AV.isTup, qload, ned, AV.map, DV.ac, ofCells, TI.isAgg, avOf, acOf, AC.ren, giveBack, afterCall, eInt, eList, ePair, List.getD_cons_succ, List.getD_cons_zero, List.set_cons_succ, List.set_cons_zero, List.map_cons, List.map_nil, List.cons_append, List.nil_append, List.append_nil, List.length_cons, List.length_nil, List.take_succ_cons, List.take_nil, List.getElem?_cons_succ, List.getElem?_cons_zero, true_and, and_self, reduceCtorEq, not_false_eq_true, Nat.zero_add, Nat.reduceAdd, Nat.le_refl, eq_self, or_true, tab_28]
    refine CallAt.plain (reach_spec n ms es 1 (by decide) g1 g3) rfl ?_
    rintro r os ⟨a, rfl, ha, rfl⟩
    simp only [VC_region, VC_seq, aops_nil, aops_cons, put_some, aop, qop, isQuiet, ASt.eval, ASt.ev, AV.strip, AV.need, AV.ac, AV.isTup, qload, ned, AV.map, DV.ac, ofCells, TI.isAgg, avOf, acOf, AC.ren, giveBack, afterCall, eInt, eList, ePair, List.getD_cons_succ, List.getD_cons_zero, List.set_cons_succ, List.set_cons_zero, List.map_cons, List.map_nil, List.cons_append, List.nil_append, List.append_nil, List.length_cons, List.length_nil, List.take_succ_cons, List.take_nil, true_and, and_self, reduceCtorEq, not_false_eq_true, Nat.zero_add, Nat.reduceAdd, Nat.le_refl, eq_self, tab_28]
    have e1 := runF_lt g1 (m := 1) (by decide) part
    have e3 := runF_lt g1 (m := a) ha.lt part
    refine CallAt.plain (run_spec n ms es 1 part (by decide) g1 g3 h3) rfl ?_
    rintro r os ⟨rfl, rfl⟩
    simp only [VC_region, VC_seq, aops_nil, aops_cons, put_some, aop, qop, isQuiet, ASt.eval, ASt.ev, AV.strip, AV.need, AV.ac, AV.isTup, qbin, binInt, qload, ned, AV.map, DV.ac, ofCells, TI.isAgg, isScalar, avOf, acOf, AC.ren, giveBack, afterCall, eInt, eList, ePair, List.getD_cons_succ, List.getD_cons_zero, List.set_cons_succ, List.set_cons_zero, List.map_cons, List.map_nil, List.cons_append, List.nil_append, List.append_nil, List.length_cons, List.length_nil, List.take_succ_cons, List.take_nil, true_and, and_self, reduceCtorEq, not_false_eq_true, Nat.zero_add, Nat.reduceAdd, Nat.le_refl, eq_self, tab_28, tab_108]
    refine CallAt.plain (run_spec n ms es a part ha.lt g1 g3 h3) rfl ?_
    rintro r os ⟨rfl, rfl⟩
    simp only [VC_draw, VC_seq, aops_nil, aops_cons, put_some, qop, isQuiet, ASt.eval, AV.need, AV.ac, qbin, binInt, AV.map, isScalar, avOf, acOf, AC.ren, giveBack, afterCall, eInt, List.getD_cons_succ, List.getD_cons_zero, List.set_cons_succ, List.set_cons_zero, List.map_nil, List.append_nil, List.length_cons, List.length_nil, true_and, and_self, Nat.zero_add, eq_self, tab_108]
    refine DrawAt.plan tabOK mixed (.take 0 false (.take 1 false (.take 2 false (.take 4 false (.alt 3 (.alt 5 (.take 6 true (.take 7 true (.take 8 true .done))) .stop) .stop))))) (by decide +kernel) ?_
    simp only [avc_stop, avc_take, avc_alt, qstep, lstep, ownLoad, put_n0, put_some, aop, qop, isQuiet, ASt.eval, ASt.ev, AV.strip, AV.need, AV.ac, AV.isTup, qload, ned, DV.ac, ofCells, TI.isAgg, eInt, eList, ePair, List.getD_cons_succ, List.getD_cons_zero, List.set_cons_succ, List.set_cons_zero, List.map_cons, List.map_nil, List.cons_append, List.nil_append, List.length_cons, List.length_nil, List.take_succ_cons, List.take_nil, List.getElem?_cons_succ, List.getElem?_cons_zero, true_and, and_true, and_self, reduceCtorEq, not_false_eq_true, Bool.false_eq_true, Nat.zero_add, Nat.reduceAdd, Nat.le_refl, eq_self, or_true, tab_28]
    refine CallAt.plain (run_spec n ms es a part ha.lt g1 g3 h3) rfl ?_
    rintro r os ⟨rfl, rfl⟩
    simp only [avc_stop, avc_alt, lstep, put_n0, put_some, aop, isQuiet, ASt.eval, ASt.ev, AV.strip, AV.need, AV.isTup, ned, AV.map, AC.ren, giveBack, afterCall, List.getD_cons_succ, List.getD_cons_zero, List.set_cons_succ, List.set_cons_zero, List.map_cons, List.map_nil, List.append_nil, List.length_cons, List.length_nil, List.getElem?_cons_succ, List.getElem?_cons_zero, true_and, and_true, and_self, Nat.zero_add, eq_self]
    refine CallAt.plain (ends_spec n ms es g2 g4) rfl ?_
    rintro r os ⟨rfl, rfl⟩
    simp only [avc_done, avc_take, qstep, ownLoad, VC_region, VC_seq, VC_ret, aops_nil, aops_cons, put_some, qop, isQuiet, ASt.eval, AV.need, AV.ac, qbin, binInt, AV.map, isScalar, avOf, acOf, AC.ren, giveBack, afterCall, eInt, List.getD_cons_succ, List.getD_cons_zero, List.set_cons_succ, List.set_cons_zero, List.map_nil, List.append_nil, List.length_cons, List.length_nil, List.getElem?_cons_succ, List.getElem?_cons_zero, true_and, and_self, Nat.zero_add, eq_self, or_true, tab_108]
    (refine RetAt.leaf ?_ ?_ <;> simp only [resOf, tupOf, compOf, ASt.eval, AV.strip, AV.need, AV.map, findIx, AC.ren, List.getD_cons_succ, List.getD_cons_zero, List.map_cons, List.map_nil, true_and, and_self, eq_self])
    rw [u32_and e1 hq.lt, u32_and e3 hq.lt, u32_and e3 e2, hc0]
    refine ⟨_, _, _, rfl, fun h => absurd rfl h, fun _ => ⟨?_, ?_, ?_⟩⟩
    · simp only [Bool.not_eq_true', decide_eq_false_iff_not, u32_ne0]
      exact ⟨fun h => ⟨q, hq, h⟩, fun ⟨q', hq', h⟩ => by rw [hq.unique hq']; exact h⟩
    · simp only [Bool.not_eq_true', decide_eq_false_iff_not, u32_ne0]
      exact ⟨fun h => ⟨q, a, hq, ha, h⟩, fun ⟨q', a', hq', ha', h⟩ => by rw [hq.unique hq', ha.unique ha']; exact h⟩
    · simp only [Bool.not_eq_true', decide_eq_false_iff_not, u32_ne0]
      exact ⟨fun h => ⟨a, ha, h⟩, fun ⟨a', ha', h⟩ => by rw [ha.unique ha']; exact h⟩
end Go.Vc
