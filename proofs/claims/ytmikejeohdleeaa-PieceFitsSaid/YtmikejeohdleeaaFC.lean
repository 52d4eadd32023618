/- Join. -/
import Derived.Test.YtmikejeohdleeaaFB
set_option linter.unusedVariables false
set_option linter.unusedSimpArgs false
namespace Go.Vc.Pc
open Go.Proofs Go.IntWalk
set_option maxRecDepth 100000
/-- what overlaps at place i -/
def jn (ls : List (List Int)) (o : List Int) (most : Int) (i : Nat) : Int := if 0 < i then fitF (ls.getD (o.getD (i - 1) 0).toNat []) (ls.getD (o.getD i 0).toNat []) most else 0
def outTo (ls : List (List Int)) (o : List Int) (most : Int) : Nat → List Int
  | 0 => []
  | i + 1 => outTo ls o most i ++ (ls.getD (o.getD i 0).toNat []).drop (jn ls o most i).toNat
def jE (ls : List (List Int)) (o : List Int) (most : Int) (i : Nat) : Int := if o.getD i 0 < 0 ∨ (ls.length : Int) ≤ o.getD i 0 then 4 else if 65536 < (outTo ls o most (i + 1)).length then 2 else 0
def firstJ (ls : List (List Int)) (o : List Int) (most : Int) : Nat → Int
  | 0 => 0
  | k + 1 => if firstJ ls o most k ≠ 0 then firstJ ls o most k else jE ls o most k
def joinErr (ls : List (List Int)) (o : List Int) (most : Int) : Int := if most < 0 ∨ 64 < most then 1 else firstJ ls o most o.length
theorem firstJ_stick {ls : List (List Int)} {o : List Int} {most : Int} {k : Nat} (h : firstJ ls o most k ≠ 0) : ∀ m, firstJ ls o most (k + m) = firstJ ls o most k
  | 0 => rfl
  | m + 1 => by
    have := firstJ_stick h m
    have e : firstJ ls o most (k + (m + 1)) = if firstJ ls o most (k + m) ≠ 0 then firstJ ls o most (k + m) else jE ls o most (k + m) := rfl
    rw [e, this, if_pos h]
theorem firstJ_next {ls : List (List Int)} {o : List Int} {most : Int} {k : Nat} (h0 : firstJ ls o most k = 0) : firstJ ls o most (k + 1) = jE ls o most k := by
  show (if firstJ ls o most k ≠ 0 then _ else _) = _
  rw [if_neg (by omega)]
theorem firstJ_at {ls : List (List Int)} {o : List Int} {most : Int} {k n : Nat} (h0 : firstJ ls o most k = 0) (hr : jE ls o most k ≠ 0) (hk : k < n) : firstJ ls o most n = jE ls o most k := by
  have e := firstJ_next h0
  have := firstJ_stick (k := k + 1) (by rw [e]; exact hr) (n - (k + 1))
  rw [show k + 1 + (n - (k + 1)) = n by omega] at this
  rw [this, e]
theorem firstJ_zero {ls : List (List Int)} {o : List Int} {most : Int} : ∀ {k : Nat}, firstJ ls o most k = 0 → ∀ i, i < k → jE ls o most i = 0
  | 0, _, i, hi => by omega
  | k + 1, h, i, hi => by
    have h' : (if firstJ ls o most k ≠ 0 then firstJ ls o most k else jE ls o most k) = 0 := h
    by_cases h0 : firstJ ls o most k = 0
    · rw [if_neg (by omega)] at h'
      by_cases e : i = k
      · subst e; exact h'
      · exact firstJ_zero h0 i (by omega)
    · rw [if_pos h0] at h'
      exact absurd h' h0
/-- what holds at a place without an error before it -/
theorem firstJ_in {ls : List (List Int)} {o : List Int} {most : Int} {k i : Nat} (h : firstJ ls o most k = 0) (hi : i < k) : 0 ≤ o.getD i 0 ∧ o.getD i 0 < (ls.length : Int) ∧ (outTo ls o most (i + 1)).length ≤ 65536 := by
  have h1 := firstJ_zero h i hi
  unfold jE at h1
  split at h1
  · cases h1
  rename_i h2
  split at h1
  · cases h1
  exact ⟨by omega, by omega, by omega⟩
theorem outTo_le {ls : List (List Int)} {o : List Int} {most : Int} : ∀ {k : Nat}, firstJ ls o most k = 0 → (outTo ls o most k).length ≤ 65536
  | 0, _ => by simp [outTo]
  | k + 1, h => (firstJ_in h (Nat.lt_succ_self k)).2.2
theorem jn_bounds {ls : List (List Int)} {o : List Int} {most : Int} {i : Nat} : 0 ≤ jn ls o most i ∧ jn ls o most i ≤ (ls.getD (o.getD i 0).toNat []).length := by
  unfold jn
  split
  · have h1 := fitTo_le (ls.getD (o.getD (i - 1) 0).toNat []) (ls.getD (o.getD i 0).toNat []) (minL (ls.getD (o.getD (i - 1) 0).toNat []) (ls.getD (o.getD i 0).toNat []) most)
    have h2 := minL_le (a := ls.getD (o.getD (i - 1) 0).toNat []) (b := ls.getD (o.getD i 0).toNat []) (most := most)
    unfold fitF
    omega
  · omega
set_option maxHeartbeats 8000000 in
theorem join_spec (ls : List (List Int)) (o : List Int) (most : Int) (h1 : ls.length < 9223372036854775807) (h2 : ∀ r ∈ ls, r.length ≤ 140737488351232) (h3 : o.length < 9223372036854775807) :
    ACall Try.prog 35 [.c (rBB ls), .c (rI o), .c (.int .i64 most)] [] (fun r os =>
      if joinErr ls o most ≠ 0 then r = .tup [(false, [.nil]), (false, [.int .i64 (joinErr ls o most)])] ∧ os = []
      else r = .tup [(false, [.sl 0]), (false, [.int .i64 0])] ∧ os = [.row 5 1 Int 0 encU8 (outTo ls o most o.length)]) := by
  (refine ACall.of_body (nt := 62) (rs := [.tmp 6, .tmp 7]) tabOK Try.func35 rfl rfl rfl rfl ?_; simp only [startSt, List.length_cons, List.length_nil, Nat.reduceAdd, Nat.reduceSub, List.replicate_succ, List.replicate_zero, List.cons_append, List.nil_append])
  unfold encU8
  simp only [VCp, VC_skip, VC_region, VC_seq, VC_cond, VC_block, VC_loop, VC_ret, aops_nil, aops_cons, put_some, qop, isQuiet, ASt.eval, AV.need, AV.ac, onG, guardOf, qbin, binInt, qpick, qpick0, qlen, isScalar, avOf, acOf, eInt, eList, List.getD_cons_succ, List.getD_cons_zero, List.set_cons_succ, List.set_cons_zero, List.getElem?_cons_succ, List.getElem?_cons_zero, Option.bind_some, implies_true, imp_self, beq_false, decide_eq_true_eq, decide_eq_false_iff_not, Bool.not_eq_true', Bool.cond_true_left, Bool.or_eq_true, Bool.or_eq_false_iff, Int.not_lt, true_and, and_self, Bool.and_true, Bool.true_and, cond_true, beq_self_eq_true, eq_self, ne_eq, tab_3, tab_26]
  refine ⟨fun h => ?_, fun h => ?_⟩
  · (refine RetAt.leaf ?_ ?_ <;> simp only [resOf, tupOf, compOf, ASt.eval, AV.strip, AV.need, AV.map, findIx, AC.ren, List.getD_cons_succ, List.getD_cons_zero, List.map_cons, List.map_nil, and_true, and_self, reduceCtorEq, eq_self, and_false])
    have e : joinErr ls o most = 1 := if_pos (by omega)
    rw [e, if_pos (by decide)]
    all_goals trivial
  have he : joinErr ls o most = firstJ ls o most o.length := if_neg (by omega)
  refine LoopAt.adopt 8 5 1 Int 0 (fun n => [.int .u8 n]) rfl (fun _ => rfl) ?_
  simp only [newObj, adopt, List.set_cons_succ, List.set_cons_zero, List.nil_append, List.length_nil]
  refine LoopAt.inv (ι := Nat) (T := tab) (fun i => [(20, .c (.int .i64 i)), (8, .c (.sl 0))]) (fun i => [.row 5 1 Int 0 (fun n => [.int .u8 n]) (outTo ls o most i)])
    (fun i => i ≤ o.length ∧ firstJ ls o most i = 0) (fun i => o.length - i) tabOK 0 ⟨Nat.zero_le _, rfl⟩ ?_ ?_
  · (simp only [LessC, headSt, dsts, opDsts, resetS, putsS, lessS, lessO, belowS, belowO, AV.below, AObj.below, AC.below, List.set_cons_succ, List.set_cons_zero, List.cons_append, List.nil_append, List.append_nil, List.length_cons, List.length_nil, Nat.reduceLT, Int.cast_ofNat_Int, AV.c.injEq, AObj.row.injEq, heq_eq_eq, true_and, and_true, and_self, reduceCtorEq, Bool.and_true, Nat.zero_add, Nat.reduceLeDiff, eq_self, decide_true, or_true, or_false] <;> try omega)
    rfl
  rintro i ⟨hi, h0⟩
  have hol := outTo_le h0
  simp only [VCp, headSt, dsts, opDsts, resetS, putsS, appRows, VC_skip, VC_region, VC_draw, VC_seq, VC_cond, VC_block, VC_exit, VC_ret, aops_nil, aops_cons, put_some, aop, qop, isQuiet, ASt.eval, AV.need, AV.ac, AV.isTup, onG, guardOf, qbin, binInt, qpick, qpick0, qlen, qindexAddr, qload, qslice, cutLo, cutHi, needAll, ned, appSrc, aappend, ASt.setObj, ASt.obj, ASt.map, AV.map, AObj.map, AC.kill, DV.ac, ofCells, TI.isAgg, isScalar, avOf, acOf, eInt, eList, List.getD_cons_succ, List.getD_cons_zero, List.set_cons_succ, List.set_cons_zero, List.map_cons, List.map_nil, List.cons_append, List.nil_append, List.append_nil, List.length_cons, List.length_nil, List.length_append, List.drop_zero, List.take_succ_cons, List.take_nil, List.headD_cons, List.getElem?_cons_succ, List.getElem?_cons_zero, Option.bind_some, Option.map_some, Option.map_none, Option.toList_some, Option.toList_none, Int.reduceLE, Int.natCast_add, ↓ex_rfl, cast_eq, heq_eq_eq, Int.toNat_natCast, Int.reduceToNat, implies_true, imp_self, beq_false, decide_eq_true_eq, decide_eq_false_iff_not, Bool.not_eq_true', Bool.cond_true_left, Bool.or_eq_true, Bool.or_eq_false_iff, Int.not_lt, Int.not_le, true_and, and_self, not_false_eq_true, Bool.and_true, Bool.true_and, cond_true, beq_self_eq_true, if_true, Nat.zero_add, Nat.le_refl, eq_self, Nat.succ_ne_self, tab_3, tab_5, tab_26, tab_29, tab_59]
  refine ⟨fun h => ?_, fun h => ?_⟩
  · have hi' : i < o.length := by omega
    have hat := fun hr => firstJ_at (n := o.length) h0 hr hi'
    have hnx := firstJ_next h0
    refine ⟨⟨by omega, by omega⟩, fun hx => ?_, fun hx => ?_⟩
    · (refine RetAt.leaf ?_ ?_ <;> simp only [resOf, tupOf, compOf, ASt.eval, AV.strip, AV.need, AV.map, findIx, AC.ren, List.getD_cons_succ, List.getD_cons_zero, List.map_cons, List.map_nil, and_true, and_self, reduceCtorEq, eq_self, and_false])
      have e : jE ls o most i = 4 := if_pos (by omega)
      rw [he, hat (by rw [e]; decide), e, if_pos (by decide)]
      all_goals trivial
    have hx1 : ¬ (o.getD i 0 < 0 ∨ (ls.length : Int) ≤ o.getD i 0) := by omega
    have hje : jE ls o most i = if 65536 < (outTo ls o most (i + 1)).length then 2 else 0 := if_neg hx1
    have hjb := jn_bounds (ls := ls) (o := o) (most := most) (i := i)
    have mi : ls.getD (o.getD i 0).toNat [] ∈ ls := by
      have : (o.getD i 0).toNat < ls.length := by omega
      generalize (o.getD i 0).toNat = t at *
      simp [List.getD, this]
    have hli := h2 _ mi
    have hou : outTo ls o most (i + 1) = outTo ls o most i ++ (ls.getD (o.getD i 0).toNat []).drop (jn ls o most i).toNat := rfl
    have hT : ((ls.getD (o.getD i 0).toNat []).drop (jn ls o most i).toNat).take ((ls.getD (o.getD i 0).toNat []).length - (jn ls o most i).toNat) = (ls.getD (o.getD i 0).toNat []).drop (jn ls o most i).toNat := List.take_of_length_le (by simp)
    have hdl : ((ls.getD (o.getD i 0).toNat []).drop (jn ls o most i).toNat).length ≤ (ls.getD (o.getD i 0).toNat []).length := by rw [List.length_drop]; omega
    have houl : (outTo ls o most (i + 1)).length = (outTo ls o most i).length + ((ls.getD (o.getD i 0).toNat []).drop (jn ls o most i).toNat).length := by rw [hou, List.length_append]
    refine ⟨fun hp => ?_, fun hp => ?_⟩
    · have hjn : jn ls o most i = fitF (ls.getD (o.getD (i - 1) 0).toNat []) (ls.getD (o.getD i 0).toNat []) most := if_pos (by omega)
      obtain ⟨p1, p2, -⟩ := firstJ_in h0 (i := i - 1) (by omega)
      have mp : ls.getD (o.getD (i - 1) 0).toNat [] ∈ ls := by
        have : (o.getD (i - 1) 0).toNat < ls.length := by omega
        generalize (o.getD (i - 1) 0).toNat = t at *
        simp [List.getD, this]
      have hlp := h2 _ mp
      have w3 : IntKind.i64.wrap ((i : Int) - 1) = ((i - 1 : Nat) : Int) := by rw [i64_in _ (by omega)]; omega
      refine DrawAt.plan tabOK mixed (.take 0 false (.take 1 false (.take 2 false (.take 3 false (.take 4 false (.take 5 false (.take 6 false (.take 7 true (.take 8 false (.take 9 false (.take 10 false (.take 11 true (.take 12 true (.alt 13 (.take 14 true .done) .stop)))))))))))))) (by decide +kernel) ?_
      simp only [avc_stop, avc_take, avc_alt, qstep, lstep, ownLoad, put_n0, put_some, aop, qop, isQuiet, ASt.eval, ASt.ev, AV.strip, AV.need, AV.ac, AV.isTup, qbin, binInt, qindexAddr, qload, ned, DV.ac, ofCells, TI.isAgg, isScalar, avOf, acOf, eInt, eList, List.getD_cons_succ, List.getD_cons_zero, List.set_cons_succ, List.set_cons_zero, List.map_cons, List.map_nil, List.length_cons, List.length_nil, List.take_succ_cons, List.take_nil, List.headD_cons, List.getElem?_cons_succ, List.getElem?_cons_zero, Int.toNat_natCast, true_and, and_true, and_self, not_false_eq_true, Bool.false_eq_true, Nat.zero_add, Nat.le_refl, eq_self, Nat.succ_ne_self, or_true, tab_3, tab_26, tab_29, tab_59, w3, Int.toNat_natCast]
      refine ⟨⟨by omega, by omega⟩, ⟨by omega, by omega⟩, ⟨by omega, by omega⟩, ?_⟩
      refine CallAt.plain (fit_spec (ls.getD (o.getD (i - 1) 0).toNat []) (ls.getD (o.getD i 0).toNat []) most (by omega) (by omega)) rfl ?_
      rintro r os ⟨rfl, rfl⟩
      rw [← hjn]
      simp only [appRows, avc_done, avc_take, qstep, ownLoad, VC_skip, VC_region, VC_seq, VC_cond, VC_ret, aops_nil, aops_cons, put_some, aop, qop, isQuiet, ASt.eval, AV.need, AV.ac, AV.isTup, qbin, binInt, qlen, qindexAddr, qload, qslice, cutLo, cutHi, needAll, ned, appSrc, aappend, ASt.setObj, ASt.obj, ASt.map, AV.map, AObj.map, AC.kill, DV.ac, ofCells, TI.isAgg, isScalar, avOf, acOf, AC.ren, giveBack, afterCall, eInt, eList, List.getD_cons_succ, List.getD_cons_zero, List.set_cons_succ, List.set_cons_zero, List.map_cons, List.map_nil, List.append_nil, List.length_cons, List.length_nil, List.length_append, List.take_succ_cons, List.take_nil, List.headD_cons, List.getElem?_cons_succ, List.getElem?_cons_zero, Option.map_some, Option.map_none, Option.toList_some, Option.toList_none, Int.natCast_add, ↓ex_rfl, cast_eq, heq_eq_eq, Int.toNat_natCast, decide_eq_true_eq, decide_eq_false_iff_not, Int.not_lt, true_and, and_self, not_false_eq_true, Bool.and_true, cond_true, beq_self_eq_true, Nat.zero_add, Nat.le_refl, eq_self, Nat.succ_ne_self, or_true, tab_3, tab_5, tab_29, tab_59, hT]
      generalize hdd : (ls.getD (o.getD i 0).toNat []).drop (jn ls o most i).toNat = dd at *
      refine ⟨by omega, by omega, by omega, by omega, fun hbig => ?_, fun hsm => ⟨i + 1, ⟨by omega, ?_⟩, by omega, ?_⟩⟩
      · (refine RetAt.leaf ?_ ?_ <;> simp only [resOf, tupOf, compOf, ASt.eval, AV.strip, AV.need, AV.map, findIx, AC.ren, List.getD_cons_succ, List.getD_cons_zero, List.map_cons, List.map_nil, and_true, and_self, reduceCtorEq, eq_self, and_false])
        have e : jE ls o most i = 2 := by rw [hje, if_pos (by omega)]
        rw [he, hat (by rw [e]; decide), e, if_pos (by decide)]
        all_goals trivial
      · rw [hnx, hje, if_neg (by omega)]
      · rw [hou]
        (simp only [LessC, lessS, lessO, belowS, belowO, AV.below, AObj.below, AC.below, List.length_cons, List.length_nil, Nat.reduceLT, Int.cast_ofNat_Int, Int.natCast_add, AV.c.injEq, AC.int.injEq, true_and, and_true, and_self, reduceCtorEq, Bool.and_true, Nat.zero_add, Nat.reduceLeDiff, eq_self, decide_true, or_true, or_false, false_or] <;> try omega)
        all_goals exact i64_in _ (by omega)
    · have hjn : jn ls o most i = 0 := if_neg (by omega)
      have hT0 : (ls.getD (o.getD i 0).toNat []).take ((ls.getD (o.getD i 0).toNat []).length - 0) = (ls.getD (o.getD i 0).toNat []).drop (jn ls o most i).toNat := by
        rw [hjn]
        exact List.take_of_length_le (by simp)
      simp only [hT0]
      generalize hdd : (ls.getD (o.getD i 0).toNat []).drop (jn ls o most i).toNat = dd at *
      refine ⟨by omega, by omega, by omega, by omega, fun hbig => ?_, fun hsm => ⟨i + 1, ⟨by omega, ?_⟩, by omega, ?_⟩⟩
      · (refine RetAt.leaf ?_ ?_ <;> simp only [resOf, tupOf, compOf, ASt.eval, AV.strip, AV.need, AV.map, findIx, AC.ren, List.getD_cons_succ, List.getD_cons_zero, List.map_cons, List.map_nil, and_true, and_self, reduceCtorEq, eq_self, and_false])
        have e : jE ls o most i = 2 := by rw [hje, if_pos (by omega)]
        rw [he, hat (by rw [e]; decide), e, if_pos (by decide)]
        all_goals trivial
      · rw [hnx, hje, if_neg (by omega)]
      · rw [hou]
        (simp only [LessC, lessS, lessO, belowS, belowO, AV.below, AObj.below, AC.below, List.length_cons, List.length_nil, Nat.reduceLT, Int.cast_ofNat_Int, Int.natCast_add, AV.c.injEq, AC.int.injEq, true_and, and_true, and_self, reduceCtorEq, Bool.and_true, Nat.zero_add, Nat.reduceLeDiff, eq_self, decide_true, or_true, or_false, false_or] <;> try omega)
        all_goals exact i64_in _ (by omega)
  · have hin : i = o.length := by omega
    rw [hin] at h0 ⊢
    refine RetAt.keeping [0] (by decide) ?_ ?_ <;> simp only [resOf, tupOf, compOf, keepObjs, keepObjs, XObj.amap, ASt.eval, AV.strip, AV.need, AV.map, AObj.map, findIx, AC.ren, List.getD_cons_succ, List.getD_cons_zero, List.map_cons, List.map_nil, and_self, reduceCtorEq, cond_true, beq_self_eq_true, eq_self, and_false]
    rw [he, h0, if_neg (by decide)]
    all_goals trivial
end Go.Vc.Pc
