/- StatNears: the law's walk. -/
import Derived.Test.YtcjcfpbbhmhlbaaRS
set_option linter.unusedVariables false
set_option linter.unusedSimpArgs false
namespace Go.Vc.Sn
open Go.Proofs Go.IntWalk Go.Vc
set_option maxRecDepth 100000
theorem LearnQ.good {nm : ByteArray} {xs : List Int} {r : AV} {os : List AObj} (h : LearnQ nm xs r os) (h1 : ¬ (xs.length = 0 ∨ 65535 < xs.length)) : r = .tup [(true, [.str nm, .rd 1 Int 0 (fun n => [.int .i64 n]) (counts xs)]), (false, [.int .i64 0])] ∧ os = [] := by
  unfold LearnQ at h
  rw [if_neg h1] at h
  exact h
theorem LearnQ.bad {nm : ByteArray} {xs : List Int} {r : AV} {os : List AObj} (h : LearnQ nm xs r os) (h1 : xs.length = 0 ∨ 65535 < xs.length) : r = .tup [(true, [.str ⟨#[]⟩, .nil]), (false, [.int .i64 (learnF xs).2])] ∧ os = [] := by
  unfold LearnQ at h
  rw [if_pos h1] at h
  obtain ⟨e, rfl, h⟩ := h
  exact h
theorem dist_ab : distF [97] (counts [97, 98]) = (2, 2, 0) := by decide +kernel
/-- the distances, as pairs -/
def far2 (b : List Int) (l : List Pf) (k : Nat) : List (Int × Int) := (List.range k).map fun (i : Nat) => ((distF b (l.getD i zP).2).1, (distF b (l.getD i zP).2).2.1)
theorem far2_len (b : List Int) (l : List Pf) (k : Nat) : (far2 b l k).length = k := by simp [far2]
theorem far2_succ (b : List Int) (l : List Pf) (k : Nat) : far2 b l (k + 1) = far2 b l k ++ [((distF b (l.getD k zP).2).1, (distF b (l.getD k zP).2).2.1)] := by
  unfold far2
  rw [List.range_succ, List.map_append]
  rfl
theorem far2_get (b : List Int) (l : List Pf) {k i : Nat} (h : i < k) : (far2 b l k).getD i (0, 0) = ((distF b (l.getD i zP).2).1, (distF b (l.getD i zP).2).2.1) := by
  simp [far2, List.getD, h]
theorem mfind_none {es : List (Nat × List KA × Bool)} {k : List KA} (h : ∀ e ∈ es, ¬ e.2.1 = k) : mfind k es = none := by
  induction es with
  | nil => rfl
  | cons e es ih =>
    unfold mfind
    rw [if_neg (h e (by simp))]
    exact ih fun x hx => h x (by simp [hx])
/-- the keys that a set holds -/
def KeysOf (O : List Int) (i : Nat) (es : List (Nat × List KA × Bool)) : Prop := ∀ e ∈ es, ∃ j, j < i ∧ e.2.1 = [.int .i64 (O.getD j 0)]
theorem KeysOf.fresh {O : List Int} {i : Nat} {es : List (Nat × List KA × Bool)} (h : KeysOf O i es) (hn : ∀ j, j < i → ¬ O.getD j 0 = O.getD i 0) :
    mget false es [.int .i64 (O.getD i 0)] = false ∧ ∀ c, KeysOf O (i + 1) (mput c es [.int .i64 (O.getD i 0)] true) := by
  have h0 : mfind [KA.int .i64 (O.getD i 0)] es = none := mfind_none fun e he hk => by
    obtain ⟨j, hj, hx⟩ := h e he
    rw [hx] at hk
    simp at hk
    exact hn j hj hk
  refine ⟨by unfold mget; rw [h0]; rfl, fun c e he => ?_⟩
  unfold mput mhas at he
  rw [h0] at he
  simp only [Option.isSome_none, Bool.false_eq_true, if_false] at he
  rcases List.mem_append.1 he with he | he
  · obtain ⟨j, hj, hx⟩ := h e he
    exact ⟨j, by omega, hx⟩
  · simp at he
    subst he
    exact ⟨i, by omega, rfl⟩
theorem RF_irr {x : F3} : ¬ RF x x := by
  rintro ⟨_, h | ⟨_, h⟩⟩ <;> omega
theorem ord_get {s : List F3} {i : Nat} (h : i < s.length) : (s.map fun x => x.1).getD i 0 = (s.getD i zF).1 := by simp [List.getD, h]
theorem srt_get {s : List F3} (h : Srt RF s) {i j : Nat} (hi : i < j) (hj : j < s.length) : RF (s.getD i zF) (s.getD j zF) := by
  have := (List.pairwise_iff_getElem.1 h) i j (by omega) hj hi
  simpa [List.getD, hj, show i < s.length by omega] using this
abbrev setO (c : Nat) (m : List (Nat × List KA × Bool)) : AObj := .ext (.map 3 4 (.int .i64) false Bool false (fun b => [.bool b]) c m)
theorem equal_same (xs : List Int) (hx : xs.length < 9223372036854775807) : ACall Try.prog 9 [.c (.rd 1 Int 0 (fun n => [.int .i64 n]) xs), .c (.rd 1 Int 0 (fun n => [.int .i64 n]) xs)] [] (fun r os => r = .c (.bool true) ∧ os = []) :=
  (equal_spec xs xs hx).mono fun r os h => ⟨h.1 rfl, h.2.1⟩
set_option maxHeartbeats 64000000 in
theorem statNears_spec (b : List Int) (nm : ByteArray) (xss : List (List Int)) (l : List Pf) (h8 : U8s b) (hb : b.length ≤ 1048576) (hxn : xss.length ≤ 1048576) (hxl : ∀ x ∈ xss, x.length ≤ 1048576) (hx8 : ∀ x ∈ xss, U8s x)
    (hf : xss.flatten.length ≤ 70368744177664) (hn : l.length ≤ 1048576) (hl : ∀ i, (l.getD i zP).2.length ≤ 140737488355328) :
    ACall Try.prog 3 [.c (.rd 1 Int 0 encU8 b), .c (.str nm), .c (.rd 1 (List Int) [] encLL xss), .c (.rd 2 Pf zP encP l)] [] (fun r os => r = .c (.bool true) ∧ os = []) := by
  (refine ACall.of_body (nt := 216) (rs := [.tmp 8]) tabOK Try.func3 rfl rfl rfl rfl ?_; simp only [startSt, List.length_cons, List.length_nil, Nat.reduceAdd, Nat.reduceSub, List.replicate_succ, List.replicate_zero, List.cons_append, List.nil_append])
  simp only [VCp, ownSl, ownPart, VC_region, VC_seq, aops_nil, aops_cons, put_some, aop, qop, isQuiet, ASt.eval, ASt.ev, AV.strip, AV.need, AV.ac, AV.cells, AV.isTup, needAll, ned, partsOf, fitAll, AC.fits, abuildSlice, elems, setPart, aconv, newObj, ASt.setObj, ASt.obj, ASt.map, ASt.freeze, frzRefs, AV.map, AObj.map, AC.frz, dvs, AC.dv, leD, leD1, isScalar, avOf, acOf, eInt, eList, List.getD_cons_succ, List.getD_cons_zero, List.set_cons_succ, List.set_cons_zero, List.map_cons, List.map_nil, List.replicate_succ, List.replicate_zero, List.cons_append, List.nil_append, List.append_nil, List.length_cons, List.length_nil, List.all_cons, List.all_nil, List.flatMap_cons, List.flatMap_nil, Nat.reduceLT, DV.int.injEq, exists_eq_left', true_and, and_true, and_self, not_false_eq_true, Bool.and_true, Bool.and_false, cond_true, beq_self_eq_true, Nat.zero_add, Nat.reduceAdd, Nat.reduceMul, Nat.reduceLeDiff, eq_self, Nat.succ_ne_self, tab_5, tab_22, tab_23]
  refine ⟨[97, 98], rfl, ?_⟩
  refine CallAt.freeze 1 ?_
  simp only [ASt.setObj, ASt.obj, ASt.map, ASt.freeze, AV.map, AObj.map, AC.frz, frzF, List.getD_cons_succ, List.getD_cons_zero, List.set_cons_succ, List.set_cons_zero, List.map_cons, List.map_nil, cond_true, beq_self_eq_true]
  refine CallAt.plain (learn_spec ⟨#[112]⟩ [[97, 98]] (by simp) (by simp) (by unfold U8s; simp)) rfl ?_
  intro r os hr
  obtain ⟨rfl, rfl⟩ := hr.good (by simp)
  have hab : ([[97, 98]] : List (List Int)).flatten = [97, 98] := rfl
  simp only [ownSl, ownPart, VC_region, VC_seq, aops_nil, aops_cons, put_some, put_none, aop, qop, isQuiet, ASt.eval, ASt.ev, AV.strip, AV.need, AV.ac, AV.cells, AV.isTup, qload, qextract, splice, needAll, ned, partsOf, fitAll, AC.fits, astore, abuildSlice, elems, setPart, aconv, newObj, ASt.setObj, ASt.obj, ASt.map, ASt.freeze, frzRefs, AV.map, AObj.map, AC.frz, dvs, AC.dv, leD, leD1, ofCells, TI.isAgg, isScalar, avOf, acOf, AC.ren, giveBack, afterCall, eInt, eStr, eList, ePair, List.getD_cons_succ, List.getD_cons_zero, List.set_cons_succ, List.set_cons_zero, List.map_cons, List.map_nil, List.replicate_succ, List.replicate_zero, List.cons_append, List.nil_append, List.append_nil, List.length_cons, List.length_nil, List.drop_succ_cons, List.drop_zero, List.drop_nil, List.take_succ_cons, List.take_zero, List.take_nil, List.headD_cons, List.all_cons, List.all_nil, List.flatMap_cons, List.flatMap_nil, List.getElem?_cons_succ, List.getElem?_cons_zero, Nat.reduceLT, DV.int.injEq, exists_eq_left', true_and, and_true, and_self, reduceCtorEq, not_false_eq_true, Bool.and_true, Bool.and_false, cond_true, beq_self_eq_true, Nat.zero_add, Nat.reduceAdd, Nat.reduceMul, Nat.reduceLeDiff, Nat.le_refl, eq_self, Nat.succ_ne_self, tab_5, tab_22, tab_27, hab]
  refine CallAt.plain (distance_spec ⟨#[112]⟩ [97] (counts [97, 98]) (by unfold U8s; simp) (by simp) (by rw [counts_len]; omega)) rfl ?_
  rintro r os ⟨rfl, rfl⟩
  simp only [VC_region, VC_seq, aops_nil, aops_cons, put_some, aop, qop, isQuiet, ASt.eval, AV.need, qextract, ned, AV.map, AC.ren, giveBack, afterCall, List.getD_cons_succ, List.getD_cons_zero, List.set_cons_succ, List.set_cons_zero, List.map_cons, List.map_nil, List.append_nil, List.length_cons, List.length_nil, List.headD_cons, List.getElem?_cons_succ, List.getElem?_cons_zero, true_and, Nat.zero_add, Nat.reduceAdd, eq_self, dist_ab]
  refine CallAt.plain counted_spec rfl ?_
  rintro r os ⟨rfl, rfl⟩
  simp only [VC_skip, VC_region, VC_seq, VC_cond, VC_ret, aops_nil, aops_cons, put_some, aop, qop, isQuiet, ASt.eval, ASt.ev, AV.strip, AV.need, AV.ac, AV.isTup, onG, guardOf, qbin, binInt, qpick, qpick0, qun, ned, AV.map, isScalar, avOf, acOf, AC.ren, giveBack, afterCall, eInt, List.getD_cons_succ, List.getD_cons_zero, List.set_cons_succ, List.set_cons_zero, List.map_cons, List.map_nil, List.append_nil, List.length_cons, List.length_nil, List.getElem?_cons_succ, List.getElem?_cons_zero, Option.bind_some, implies_true, true_and, and_self, forall_const, false_implies, Bool.and_true, Bool.false_eq_true, Bool.not_true, Bool.not_false, cond_true, cond_false, beq_self_eq_true, Nat.zero_add, Nat.reduceAdd, eq_self, decide_true, tab_3, tab_28]
  refine CallAt.plain (join_spec xss hxn hf) rfl ?_
  rintro r os ⟨rfl, rfl⟩
  simp only [VC_region, VC_seq, aops_nil, aops_cons, put_some, aop, qop, isQuiet, ASt.eval, ASt.ev, AV.strip, AV.need, AV.isTup, ned, AV.map, AC.ren, giveBack, afterCall, List.getD_cons_succ, List.getD_cons_zero, List.set_cons_succ, List.set_cons_zero, List.map_cons, List.map_nil, List.append_nil, List.length_cons, List.length_nil, true_and, and_self, Nat.zero_add, Nat.reduceAdd, eq_self]
  refine CallAt.plain (learn_spec nm xss hxn hxl hx8) rfl ?_
  intro r os hr
  have ha8 : U8s xss.flatten := by
    have := U8s.flat hx8 xss.length
    rw [List.take_length] at this
    exact this
  generalize xss.flatten = A at *
  by_cases hA : A.length = 0 ∨ 65535 < A.length
  · obtain ⟨rfl, rfl⟩ := hr.bad hA
    simp only [VC_skip, VC_region, VC_draw, VC_seq, VC_cond, VC_block, VC_ret, aops_nil, aops_cons, put_some, put_none, aop, qop, isQuiet, ASt.eval, ASt.ev, AV.strip, AV.need, AV.ac, AV.cells, AV.isTup, qbin, binInt, qlen, qextract, splice, ned, AC.fits, astore, ASt.setObj, ASt.obj, AV.map, isScalar, avOf, acOf, AC.ren, giveBack, afterCall, eInt, eStr, eList, ePair, List.getD_cons_succ, List.getD_cons_zero, List.set_cons_succ, List.set_cons_zero, List.map_cons, List.map_nil, List.cons_append, List.nil_append, List.append_nil, List.length_cons, List.length_nil, List.drop_succ_cons, List.drop_nil, List.take_zero, List.headD_cons, List.all_cons, List.all_nil, List.getElem?_cons_succ, List.getElem?_cons_zero, decide_eq_true_eq, decide_eq_false_iff_not, Int.not_lt, true_and, and_self, reduceCtorEq, not_false_eq_true, Bool.and_true, Nat.zero_add, Nat.reduceAdd, Nat.le_refl, eq_self, tab_3, tab_22, tab_27, tab_28]
    have l2 : 65535 < A.length → (learnF A).2 = 2 := fun h => by unfold learnF; rw [if_pos h]
    have l15 : ¬ 65535 < A.length → A.length = 0 → (learnF A).2 = 15 := fun h h' => by unfold learnF; rw [if_neg h, if_pos h']
    refine ⟨fun h1 => ?_, fun h1 => ⟨fun h2 => ?_, fun h2 => by omega⟩⟩
    · (refine RetAt.leaf ?_ ?_ <;> simp only [resOf, tupOf, ASt.eval, AV.strip, AV.need, AV.map, AC.ren, List.getD_cons_succ, List.getD_cons_zero, AV.c.injEq, AC.bool.injEq, decide_eq_true_eq, and_true, and_self, eq_self])
      rw [l2 (by omega)]
    · (refine RetAt.leaf ?_ ?_ <;> simp only [resOf, tupOf, ASt.eval, AV.strip, AV.need, AV.map, AC.ren, List.getD_cons_succ, List.getD_cons_zero, AV.c.injEq, AC.bool.injEq, decide_eq_true_eq, and_true, and_self, eq_self])
      rw [l15 (by omega) (by omega)]
  · obtain ⟨rfl, rfl⟩ := hr.good hA
    simp only [VC_skip, VC_region, VC_draw, VC_seq, VC_cond, VC_block, VC_ret, aops_nil, aops_cons, put_some, put_none, aop, qop, isQuiet, ASt.eval, ASt.ev, AV.strip, AV.need, AV.ac, AV.cells, AV.isTup, qbin, binInt, qlen, qextract, splice, ned, AC.fits, astore, ASt.setObj, ASt.obj, AV.map, isScalar, avOf, acOf, AC.ren, giveBack, afterCall, eInt, eStr, eList, ePair, List.getD_cons_succ, List.getD_cons_zero, List.set_cons_succ, List.set_cons_zero, List.map_cons, List.map_nil, List.cons_append, List.nil_append, List.append_nil, List.length_cons, List.length_nil, List.drop_succ_cons, List.drop_nil, List.take_zero, List.headD_cons, List.all_cons, List.all_nil, List.getElem?_cons_succ, List.getElem?_cons_zero, Int.reduceEq, decide_eq_true_eq, decide_eq_false_iff_not, Int.not_lt, true_and, and_self, reduceCtorEq, not_false_eq_true, Bool.and_true, Nat.zero_add, Nat.reduceAdd, Nat.le_refl, eq_self, decide_false, tab_3, tab_22, tab_27, tab_28]
    refine ⟨fun h => by omega, fun _ => ⟨fun h => by omega, fun _ => ?_⟩⟩
    apply DrawAt.to
    · refine DrawAt.plan tabOK mixed (.take 0 false (.take 1 false (.take 2 false (.take 3 false (.take 5 false (.alt 4 (.take 6 false (.take 7 false (.take 8 true (.take 9 false (.take 11 false (.alt 10 (.alt 12 (.alt 13 (.take 14 true (.take 15 true .done)) .stop) .stop) (.alt 12 (.take 10 true (.alt 13 (.take 14 true (.take 15 true .done)) .stop)) .stop))))))) .stop)))))) (by decide +kernel) ?_
      simp only [avc_done, avc_stop, avc_take, avc_alt, qstep, lstep, ownLoad, put_n0, put_some, aop, qop, isQuiet, ASt.eval, ASt.ev, AV.strip, AV.need, AV.ac, AV.isTup, onG, guardOf, qbin, binInt, binStr, qpick, qpick0, qun, qfieldAddr, qload, ned, ASt.obj, ofCells, TI.isAgg, isScalar, avOf, acOf, eInt, eStr, eList, ePair, List.getD_cons_succ, List.getD_cons_zero, List.set_cons_succ, List.set_cons_zero, List.map_cons, List.map_nil, List.cons_append, List.nil_append, List.length_cons, List.length_nil, List.drop_succ_cons, List.drop_zero, List.take_succ_cons, List.take_zero, List.take_nil, List.headD_cons, List.getElem?_cons_succ, List.getElem?_cons_zero, Option.bind_some, implies_true, imp_self, true_and, and_true, and_self, forall_const, false_implies, not_false_eq_true, Bool.and_true, Bool.false_eq_true, Bool.true_eq_false, Bool.not_true, Bool.not_false, cond_false, beq_self_eq_true, Nat.add_zero, Nat.zero_add, Nat.reduceAdd, Nat.reduceLeDiff, Nat.le_refl, eq_self, Nat.succ_ne_self, decide_true, and_false, false_and, or_true, or_false, tab_9, tab_25, tab_27, tab_28]
      refine ⟨?_, ?_⟩
      all_goals
        refine CallAt.plain (counts_spec A ha8 (by omega)) rfl ?_
        rintro r os ⟨rfl, rfl⟩
        simp only [avc_done, avc_stop, avc_take, avc_alt, qstep, lstep, ownLoad, put_n0, put_some, aop, qop, isQuiet, ASt.eval, ASt.ev, AV.strip, AV.need, AV.ac, AV.isTup, onG, guardOf, qpick, qun, qload, ned, ASt.obj, AV.map, AObj.map, ofCells, TI.isAgg, avOf, acOf, AC.ren, backIx, giveBack, afterCall, eInt, eList, List.getD_cons_succ, List.getD_cons_zero, List.set_cons_succ, List.set_cons_zero, List.map_cons, List.map_nil, List.cons_append, List.nil_append, List.length_cons, List.length_nil, List.drop_succ_cons, List.drop_zero, List.take_succ_cons, List.take_nil, List.headD_cons, List.getElem?_cons_succ, List.getElem?_cons_zero, List.getElem?_nil, Option.bind_some, implies_true, imp_self, true_and, and_true, and_self, forall_const, not_false_eq_true, Bool.and_true, Bool.true_eq_false, Bool.not_false, beq_self_eq_true, Nat.add_zero, Nat.zero_add, Nat.reduceAdd, Nat.reduceSub, Nat.le_refl, eq_self, Nat.succ_ne_self, and_false, false_and, or_true, or_false, tab_25]
        refine CallAt.view [4] (equal_same (counts A) (by rw [counts_len]; omega)) rfl (fun r os h => by obtain ⟨rfl, rfl⟩ := h; exact ⟨trivial, fun _ h => by cases h⟩) ?_
        rintro r os ⟨rfl, rfl⟩
        simp only [avc_done, avc_take, qstep, ownLoad, put_some, qop, isQuiet, ASt.eval, AV.need, AV.ac, onG, guardOf, qpick, qpick0, qun, AV.map, avOf, acOf, AC.ren, giveBack, afterCall, List.getD_cons_succ, List.getD_cons_zero, List.set_cons_succ, List.set_cons_zero, List.map_nil, List.append_nil, List.length_cons, List.length_nil, List.getElem?_cons_succ, List.getElem?_cons_zero, Option.bind_some, implies_true, true_and, and_self, Bool.and_true, Bool.not_true, Bool.not_false, cond_false, beq_self_eq_true, Nat.zero_add, Nat.reduceAdd, eq_self, or_true]
        all_goals with_reducible rfl
    simp only [VC_skip, VC_region, VC_seq, VC_cond, VC_ret, aops_nil, aops_cons, put_some, aop, qop, isQuiet, ASt.eval, ASt.ev, AV.strip, AV.need, AV.isTup, ned, avOf, acOf, List.getD_cons_succ, List.getD_cons_zero, List.set_cons_succ, List.set_cons_zero, List.map_cons, List.map_nil, true_and, and_self, forall_const, false_implies, Bool.false_eq_true, eq_self]
    refine CallAt.plain (nearest_spec b l h8 hb hn hl) rfl ?_
    intro r os hr
    rcases hr with ⟨i0, hi0, hfine, hbad, rfl, rfl⟩ | ⟨hfine, s, hp, hs, rfl, rfl⟩
    · simp only [VC_region, VC_seq, VC_block, VC_loop, aops_nil, aops_cons, put_some, qop, isQuiet, ASt.eval, AV.need, AV.ac, qlen, qextract, AV.map, avOf, acOf, AC.ren, giveBack, afterCall, eInt, eStr, eList, ePair, List.getD_cons_succ, List.getD_cons_zero, List.set_cons_succ, List.set_cons_zero, List.map_cons, List.map_nil, List.cons_append, List.nil_append, List.append_nil, List.length_cons, List.length_nil, List.headD_cons, List.getElem?_cons_succ, List.getElem?_cons_zero, true_and, and_self, Bool.and_true, cond_true, beq_self_eq_true, Nat.zero_add, Nat.reduceAdd, eq_self, tab_24]
      refine LoopAt.adopt 16 40 2 (Int × Int) (0, 0) (fun x => [.int .i64 x.1, .int .i64 x.2]) rfl (fun _ => rfl) ?_
      simp only [newObj, adopt, List.set_cons_succ, List.set_cons_zero, List.cons_append, List.nil_append, List.length_cons, List.length_nil, Nat.zero_add, Nat.reduceAdd]
      refine LoopAt.inv (ι := Nat) (T := tab) (fun i => [(106, .c (.int .i64 i)), (16, .c (.sl 5))]) (fun i => [.gone, .gone, .cells 27 [.str nm, .rd 1 Int 0 (fun n => [.int .i64 n]) (counts A)], .gone, .row 3 1 Int 0 (fun n => [.int .i64 n]) (counts A), .row 40 2 (Int × Int) (0, 0) (fun x => [.int .i64 x.1, .int .i64 x.2]) (far2 b l i)]) (fun i => i ≤ i0) (fun i => i0 - i) tabOK 0 (Nat.zero_le _) ?_ ?_
      · (simp only [LessC, headSt, dsts, opDsts, resetS, putsS, lessS, lessO, belowS, belowO, AV.below, AObj.below, AC.below, List.set_cons_succ, List.set_cons_zero, List.cons_append, List.nil_append, List.append_nil, List.length_cons, List.length_nil, List.all_cons, List.all_nil, Nat.reduceLT, Int.cast_ofNat_Int, AV.c.injEq, AObj.row.injEq, heq_eq_eq, true_and, and_true, and_self, reduceCtorEq, Bool.and_true, Nat.zero_add, Nat.reduceAdd, Nat.reduceLeDiff, eq_self, decide_true, or_true, or_false] <;> try omega)
        all_goals rfl
      intro i hi
      have hcl := hl i
      have hfl := far2_len b l i
      have hsu := far2_succ b l i
      simp only [VCp, headSt, dsts, opDsts, resetS, putsS, kshOf, amakeMap, VC_skip, VC_region, VC_seq, VC_cond, VC_block, VC_loop, VC_exit, VC_ret, aops_nil, aops_cons, put_some, put_none, aop, qop, isQuiet, ASt.eval, ASt.ev, AV.strip, AV.need, AV.ac, AV.cells, AV.isTup, onG, guardOf, qbin, binInt, qpick, qpick0, qlen, qindexAddr, qload, splice, ned, AC.fits, astore, newObj, ASt.setObj, ASt.obj, DV.ac, ofCells, TI.isAgg, isScalar, avOf, acOf, eInt, eBool, eStr, eList, ePair, List.getD_cons_succ, List.getD_cons_zero, List.set_cons_succ, List.set_cons_zero, List.map_cons, List.map_nil, List.cons_append, List.nil_append, List.append_nil, List.length_cons, List.length_nil, List.drop_succ_cons, List.drop_zero, List.drop_nil, List.take_succ_cons, List.take_zero, List.take_nil, List.all_cons, List.all_nil, List.getElem?_cons_succ, List.getElem?_cons_zero, Option.bind_some, Int.toNat_natCast, implies_true, imp_self, beq_false, decide_eq_true_eq, decide_eq_false_iff_not, Bool.not_eq_true', Bool.cond_true_left, Bool.or_eq_true, Bool.or_eq_false_iff, Int.not_lt, true_and, and_self, reduceCtorEq, not_false_eq_true, Bool.and_true, Bool.true_and, if_true, Nat.zero_add, Nat.reduceAdd, Nat.le_refl, eq_self, Nat.succ_ne_self, tab_3, tab_4, tab_24, tab_25, tab_27, tab_28, tab_41]
      refine ⟨fun hlt => ?_, fun hge => by omega⟩
      refine ⟨⟨by omega, by omega⟩, ?_⟩
      refine CallAt.plain (refDistance_spec (l.getD i zP).1 b (l.getD i zP).2 h8 hb hcl) rfl ?_
      rintro r os ⟨rfl, rfl⟩
      simp only [VC_region, VC_seq, aops_nil, aops_cons, put_some, aop, qop, isQuiet, ASt.eval, ASt.ev, AV.strip, AV.need, AV.ac, AV.isTup, qload, qextract, ned, ASt.obj, AV.map, ofCells, TI.isAgg, AC.ren, giveBack, afterCall, eInt, eStr, eList, ePair, List.getD_cons_succ, List.getD_cons_zero, List.set_cons_succ, List.set_cons_zero, List.map_cons, List.map_nil, List.cons_append, List.nil_append, List.append_nil, List.length_cons, List.length_nil, List.drop_zero, List.take_succ_cons, List.take_nil, List.headD_cons, List.getElem?_cons_succ, List.getElem?_cons_zero, true_and, and_self, reduceCtorEq, not_false_eq_true, Nat.zero_add, Nat.reduceAdd, Nat.le_refl, eq_self, tab_27]
      refine CallAt.plain (distance_spec (l.getD i zP).1 b (l.getD i zP).2 h8 hb hcl) rfl ?_
      rintro r os ⟨rfl, rfl⟩
      by_cases hii : i = i0
      · subst hii
        have hz : ¬ (distF b (l.getD i zP).2).2.2 = 0 := hbad
        simp only [ownSl, ownPart, appRows, VC_skip, VC_region, VC_seq, VC_cond, VC_ret, aops_nil, aops_cons, put_some, aop, qop, isQuiet, ASt.eval, AV.need, AV.ac, AV.cells, AV.isTup, onG, guardOf, qbin, binInt, qpick, qpick0, qlen, qextract, qbuild, fillParts, splice, needAll, ned, partsOf, fitAll, AC.fits, abuildSlice, elems, setPart, appSrc, aappend, newObj, ASt.setObj, ASt.obj, ASt.map, frzRefs, AV.map, AObj.map, AC.kill, dvs, AC.dv, leD, leD1, isScalar, avOf, acOf, AC.ren, giveBack, afterCall, eInt, eList, ePair, List.getD_cons_succ, List.getD_cons_zero, List.set_cons_succ, List.set_cons_zero, List.map_cons, List.map_nil, List.replicate_succ, List.replicate_zero, List.cons_append, List.nil_append, List.append_nil, List.length_cons, List.length_nil, List.drop_succ_cons, List.drop_zero, List.drop_nil, List.take_succ_cons, List.take_zero, List.headD_cons, List.all_cons, List.all_nil, List.flatMap_cons, List.flatMap_nil, List.getElem?_cons_succ, List.getElem?_cons_zero, Option.bind_some, Nat.reduceLT, ↓ex_rfl, cast_eq, heq_eq_eq, DV.int.injEq, implies_true, true_and, and_true, and_self, forall_const, reduceCtorEq, false_implies, not_false_eq_true, Bool.and_true, Bool.false_eq_true, Bool.true_eq_false, Bool.not_true, Bool.not_false, cond_true, cond_false, beq_self_eq_true, Nat.zero_add, Nat.reduceAdd, Nat.reduceMul, Nat.reduceBEq, Nat.reduceLeDiff, Nat.le_refl, eq_self, decide_true, decide_false, tab_3, tab_25, tab_28, tab_39, tab_40, hz]
        (refine RetAt.leaf ?_ ?_ <;> simp only [resOf, tupOf, ASt.eval, AV.strip, AV.need, AV.map, AC.ren, List.getD_cons_succ, List.getD_cons_zero, and_self, eq_self])
      · have hz : (distF b (l.getD i zP).2).2.2 = 0 := hfine i (by omega)
        simp only [ownSl, ownPart, appRows, VC_skip, VC_region, VC_seq, VC_cond, VC_ret, aops_nil, aops_cons, put_some, aop, qop, isQuiet, ASt.eval, AV.need, AV.ac, AV.cells, AV.isTup, onG, guardOf, qbin, binInt, qpick, qpick0, qlen, qextract, qbuild, fillParts, splice, needAll, ned, partsOf, fitAll, AC.fits, abuildSlice, elems, setPart, appSrc, aappend, newObj, ASt.setObj, ASt.obj, ASt.map, frzRefs, AV.map, AObj.map, AC.kill, dvs, AC.dv, leD, leD1, isScalar, avOf, acOf, AC.ren, giveBack, afterCall, eInt, eList, ePair, List.getD_cons_succ, List.getD_cons_zero, List.set_cons_succ, List.set_cons_zero, List.map_cons, List.map_nil, List.replicate_succ, List.replicate_zero, List.cons_append, List.nil_append, List.append_nil, List.length_cons, List.length_nil, List.drop_succ_cons, List.drop_zero, List.drop_nil, List.take_succ_cons, List.take_zero, List.headD_cons, List.all_cons, List.all_nil, List.flatMap_cons, List.flatMap_nil, List.getElem?_cons_succ, List.getElem?_cons_zero, Option.bind_some, Nat.reduceLT, ↓ex_rfl, cast_eq, heq_eq_eq, DV.int.injEq, implies_true, imp_self, beq_true, decide_eq_true_eq, Bool.cond_false_right, true_and, and_true, and_self, forall_const, reduceCtorEq, false_implies, not_false_eq_true, Bool.and_true, Bool.true_and, Bool.false_eq_true, Bool.not_true, Bool.not_false, cond_true, cond_false, beq_self_eq_true, Nat.zero_add, Nat.reduceAdd, Nat.reduceMul, Nat.reduceBEq, Nat.reduceLeDiff, Nat.le_refl, eq_self, decide_true, tab_3, tab_25, tab_28, tab_39, tab_40, hz]
        refine ⟨((distF b (l.getD i zP).2).1, (distF b (l.getD i zP).2).2.1), ⟨rfl, rfl⟩, .inl (by omega), by omega, i + 1, by omega, by omega, ?_⟩
        rw [hsu]
        (simp only [LessC, lessS, lessO, belowS, belowO, AV.below, AObj.below, AC.below, List.length_cons, List.length_nil, List.all_cons, List.all_nil, Nat.reduceLT, Int.cast_ofNat_Int, Int.natCast_add, AV.c.injEq, AC.int.injEq, true_and, and_true, and_self, reduceCtorEq, Bool.and_true, Nat.zero_add, Nat.reduceAdd, Nat.reduceLeDiff, eq_self, decide_true, or_true, or_false, false_or] <;> try omega)
        all_goals exact i64_in _ (by omega)
    · have hsn : s.length = l.length := by rw [hp.length_eq, farsT_len]
      simp only [VC_region, VC_seq, VC_block, VC_loop, aops_nil, aops_cons, put_some, qop, isQuiet, ASt.eval, AV.need, AV.ac, qlen, qextract, AV.map, avOf, acOf, AC.ren, giveBack, afterCall, eInt, eStr, eList, ePair, List.getD_cons_succ, List.getD_cons_zero, List.set_cons_succ, List.set_cons_zero, List.map_cons, List.map_nil, List.cons_append, List.nil_append, List.append_nil, List.length_cons, List.length_nil, List.headD_cons, List.getElem?_cons_succ, List.getElem?_cons_zero, true_and, and_self, Bool.and_true, cond_true, beq_self_eq_true, Nat.zero_add, Nat.reduceAdd, eq_self, tab_24]
      refine LoopAt.adopt 16 40 2 (Int × Int) (0, 0) (fun x => [.int .i64 x.1, .int .i64 x.2]) rfl (fun _ => rfl) ?_
      simp only [newObj, adopt, List.set_cons_succ, List.set_cons_zero, List.cons_append, List.nil_append, List.length_cons, List.length_nil, Nat.zero_add, Nat.reduceAdd]
      refine LoopAt.thenFreeze 5 ?_
      refine LoopAt.inv (ι := Nat) (T := tab) (fun i => [(106, .c (.int .i64 i)), (16, .c (.sl 5))]) (fun i => [.gone, .gone, .cells 27 [.str nm, .rd 1 Int 0 (fun n => [.int .i64 n]) (counts A)], .gone, .row 3 1 Int 0 (fun n => [.int .i64 n]) (counts A), .row 40 2 (Int × Int) (0, 0) (fun x => [.int .i64 x.1, .int .i64 x.2]) (far2 b l i)]) (fun i => i ≤ l.length) (fun i => l.length - i) tabOK 0 (Nat.zero_le _) ?_ ?_
      · (simp only [LessC, headSt, dsts, opDsts, resetS, putsS, lessS, lessO, belowS, belowO, AV.below, AObj.below, AC.below, List.set_cons_succ, List.set_cons_zero, List.cons_append, List.nil_append, List.append_nil, List.length_cons, List.length_nil, List.all_cons, List.all_nil, Nat.reduceLT, Int.cast_ofNat_Int, AV.c.injEq, AObj.row.injEq, heq_eq_eq, true_and, and_true, and_self, reduceCtorEq, Bool.and_true, Nat.zero_add, Nat.reduceAdd, Nat.reduceLeDiff, eq_self, decide_true, or_true, or_false] <;> try omega)
        all_goals rfl
      intro i hi
      have hcl := hl i
      have hfl := far2_len b l i
      have hsu := far2_succ b l i
      simp only [VCp, headSt, dsts, opDsts, resetS, putsS, kshOf, amakeMap, VC_skip, VC_region, VC_seq, VC_cond, VC_block, VC_loop, VC_exit, VC_ret, aops_nil, aops_cons, put_some, put_none, aop, qop, isQuiet, ASt.eval, ASt.ev, AV.strip, AV.need, AV.ac, AV.cells, AV.isTup, onG, guardOf, qbin, binInt, qpick, qpick0, qlen, qindexAddr, qload, splice, ned, AC.fits, astore, newObj, ASt.setObj, ASt.obj, ASt.map, ASt.freeze, AV.map, AObj.map, AC.frz, DV.ac, ofCells, TI.isAgg, isScalar, avOf, acOf, eInt, eBool, eStr, eList, ePair, List.getD_cons_succ, List.getD_cons_zero, List.set_cons_succ, List.set_cons_zero, List.map_cons, List.map_nil, List.cons_append, List.nil_append, List.append_nil, List.length_cons, List.length_nil, List.drop_succ_cons, List.drop_zero, List.drop_nil, List.take_succ_cons, List.take_zero, List.take_nil, List.all_cons, List.all_nil, List.getElem?_cons_succ, List.getElem?_cons_zero, Option.bind_some, Int.toNat_natCast, implies_true, decide_eq_true_eq, decide_eq_false_iff_not, Bool.not_eq_true', Int.not_lt, true_and, and_self, reduceCtorEq, not_false_eq_true, Bool.and_true, Bool.not_true, Bool.not_false, cond_true, cond_false, beq_self_eq_true, if_true, Nat.zero_add, Nat.reduceAdd, Nat.reduceBEq, Nat.le_refl, eq_self, Nat.succ_ne_self, decide_true, tab_3, tab_4, tab_24, tab_25, tab_27, tab_28, tab_41]
      refine ⟨fun hlt => ?_, fun hge => ?_⟩
      · have hz : (distF b (l.getD i zP).2).2.2 = 0 := hfine i (by omega)
        refine ⟨⟨by omega, by omega⟩, ?_⟩
        refine CallAt.plain (refDistance_spec (l.getD i zP).1 b (l.getD i zP).2 h8 hb hcl) rfl ?_
        rintro r os ⟨rfl, rfl⟩
        simp only [VC_region, VC_seq, aops_nil, aops_cons, put_some, aop, qop, isQuiet, ASt.eval, ASt.ev, AV.strip, AV.need, AV.ac, AV.isTup, qload, qextract, ned, ASt.obj, AV.map, ofCells, TI.isAgg, AC.ren, giveBack, afterCall, eInt, eStr, eList, ePair, List.getD_cons_succ, List.getD_cons_zero, List.set_cons_succ, List.set_cons_zero, List.map_cons, List.map_nil, List.cons_append, List.nil_append, List.append_nil, List.length_cons, List.length_nil, List.drop_zero, List.take_succ_cons, List.take_nil, List.headD_cons, List.getElem?_cons_succ, List.getElem?_cons_zero, true_and, and_self, reduceCtorEq, not_false_eq_true, Nat.zero_add, Nat.reduceAdd, Nat.le_refl, eq_self, tab_27]
        refine CallAt.plain (distance_spec (l.getD i zP).1 b (l.getD i zP).2 h8 hb hcl) rfl ?_
        rintro r os ⟨rfl, rfl⟩
        simp only [ownSl, ownPart, appRows, VC_skip, VC_region, VC_seq, VC_cond, VC_ret, aops_nil, aops_cons, put_some, aop, qop, isQuiet, ASt.eval, AV.need, AV.ac, AV.cells, AV.isTup, onG, guardOf, qbin, binInt, qpick, qpick0, qlen, qextract, qbuild, fillParts, splice, needAll, ned, partsOf, fitAll, AC.fits, abuildSlice, elems, setPart, appSrc, aappend, newObj, ASt.setObj, ASt.obj, ASt.map, frzRefs, AV.map, AObj.map, AC.frz, AC.kill, dvs, AC.dv, leD, leD1, isScalar, avOf, acOf, AC.ren, giveBack, afterCall, eInt, eList, ePair, List.getD_cons_succ, List.getD_cons_zero, List.set_cons_succ, List.set_cons_zero, List.map_cons, List.map_nil, List.replicate_succ, List.replicate_zero, List.cons_append, List.nil_append, List.append_nil, List.length_cons, List.length_nil, List.drop_succ_cons, List.drop_zero, List.drop_nil, List.take_succ_cons, List.take_zero, List.headD_cons, List.all_cons, List.all_nil, List.flatMap_cons, List.flatMap_nil, List.getElem?_cons_succ, List.getElem?_cons_zero, Option.bind_some, Nat.reduceLT, ↓ex_rfl, cast_eq, heq_eq_eq, DV.int.injEq, implies_true, true_and, and_true, and_self, forall_const, reduceCtorEq, false_implies, not_false_eq_true, Bool.and_true, Bool.false_eq_true, Bool.not_true, Bool.not_false, cond_true, cond_false, beq_self_eq_true, Nat.zero_add, Nat.reduceAdd, Nat.reduceMul, Nat.reduceBEq, Nat.reduceLeDiff, Nat.le_refl, eq_self, decide_true, tab_3, tab_25, tab_28, tab_39, tab_40, hz]
        refine ⟨((distF b (l.getD i zP).2).1, (distF b (l.getD i zP).2).2.1), ⟨rfl, rfl⟩, .inl (by omega), by omega, i + 1, by omega, by omega, ?_⟩
        rw [hsu]
        (simp only [LessC, lessS, lessO, belowS, belowO, AV.below, AObj.below, AC.below, List.length_cons, List.length_nil, List.all_cons, List.all_nil, Nat.reduceLT, Int.cast_ofNat_Int, Int.natCast_add, AV.c.injEq, AC.int.injEq, true_and, and_true, and_self, reduceCtorEq, Bool.and_true, Nat.zero_add, Nat.reduceAdd, Nat.reduceLeDiff, eq_self, decide_true, or_true, or_false, false_or] <;> try omega)
        all_goals exact i64_in _ (by omega)
      · have : i = l.length := by omega
        subst this
        have hol : (s.map fun x => x.1).length = l.length := by rw [List.length_map, hsn]
        refine ⟨fun hne => by omega, fun _ => ?_⟩
        refine LoopAt.inv (ι := Nat × Nat × List (Nat × List KA × Bool)) (T := tab) (fun s => [(166, .c (.int .i64 s.1))]) (fun s => [.gone, .gone, .cells 27 [.str nm, .rd 1 Int 0 (fun n => [.int .i64 n]) (counts A)], .gone, .row 3 1 Int 0 (fun n => [.int .i64 n]) (counts A), .gone, setO s.2.1 s.2.2]) (fun q => q.1 ≤ s.length ∧ KeysOf (s.map fun x => x.1) q.1 q.2.2) (fun q => s.length - q.1) tabOK (0, 0, []) ⟨Nat.zero_le _, fun e he => by simp at he⟩ ?_ ?_
        · (simp only [LessC, headSt, dsts, opDsts, resetS, putsS, lessS, lessO, belowS, belowO, AV.below, AObj.below, AC.below, XObj.below, List.set_cons_succ, List.set_cons_zero, List.cons_append, List.nil_append, List.append_nil, List.length_cons, List.length_nil, List.all_cons, List.all_nil, Nat.reduceLT, Int.cast_ofNat_Int, AV.c.injEq, and_self, reduceCtorEq, Bool.and_true, Nat.zero_add, Nat.reduceAdd, Nat.reduceLeDiff, eq_self, decide_true, or_true] <;> try omega)
        rintro ⟨i, c, es⟩ ⟨hi, hk⟩
        simp only at hi hk
        have mem : ∀ j, j < s.length → ∃ k : Nat, k < l.length ∧ s.getD j zF = ((k : Int), (distF b (l.getD k zP).2).1, (distF b (l.getD k zP).2).2.1) := fun j hj => farsT_mem (hp.mem_iff.1 (mem_get hj))
        have og : ∀ j, j < s.length → (s.map fun x => x.1).getD j 0 = (s.getD j zF).1 := fun j hj => ord_get hj
        have nw : ∀ j, j < i → i < s.length → ¬ (s.map fun x => x.1).getD j 0 = (s.map fun x => x.1).getD i 0 := fun j hj hi' e => by
          rw [og j (by omega), og i hi'] at e
          obtain ⟨k, _, ek⟩ := mem j (by omega)
          obtain ⟨k2, _, ek2⟩ := mem i hi'
          have hr := srt_get hs hj hi'
          rw [ek, ek2] at e hr
          simp only at e
          have : k = k2 := by omega
          subst this
          exact RF_irr hr
        simp only [VCp, headSt, dsts, opDsts, resetS, putsS, qlookup, lookRes, keyOf, kshOf, encIs, AV.isA, amapUpdate, VC_skip, VC_region, VC_draw, VC_seq, VC_cond, VC_block, VC_exit, VC_ret, aops_nil, aops_cons, put_some, put_none, aop, qop, isQuiet, ASt.eval, ASt.ev, AV.strip, AV.need, AV.ac, AV.cells, AV.isTup, onG, guardOf, qbin, binInt, qpick, qpick0, qlen, qindexAddr, qload, ned, ASt.setObj, ASt.obj, frzRefs, dvs, AC.dv, DV.ac, leD, leD1, ofCells, TI.isAgg, isScalar, avOf, acOf, eInt, eBool, eStr, eList, ePair, List.getD_cons_succ, List.getD_cons_zero, List.set_cons_succ, List.set_cons_zero, List.map_cons, List.map_nil, List.cons_append, List.nil_append, List.append_nil, List.length_cons, List.length_nil, List.take_succ_cons, List.take_nil, List.headD_cons, List.getElem?_cons_succ, List.getElem?_cons_zero, Option.bind_some, ↓ex_rfl, heq_eq_eq, DV.bool.injEq, exists_eq_left', Int.toNat_natCast, implies_true, imp_self, beq_false, decide_eq_true_eq, decide_eq_false_iff_not, Bool.not_eq_true', Bool.cond_true_left, Bool.or_eq_true, Bool.or_eq_false_iff, Int.not_lt, Int.not_le, true_and, and_true, and_self, not_false_eq_true, Bool.true_and, Bool.not_true, if_true, if_false, Nat.zero_add, Nat.le_refl, eq_self, Nat.succ_ne_self, decide_true, tab_3, tab_4, tab_24, tab_25, tab_41, hol]
        refine ⟨fun hlt => ?_, fun hge => ?_⟩
        · have hi' : i < s.length := by omega
          obtain ⟨hg, hput⟩ := hk.fresh fun j hj => nw j hj hi'
          have hput := hput c
          have eO := og i hi'
          obtain ⟨k, hkl, ek⟩ := mem i hi'
          rw [ek] at eO
          simp only at eO
          rw [eO] at hg hput ⊢
          simp only [hg]
          refine ⟨⟨by omega, by omega⟩, fun hbad => by simp at hbad; omega, fun _ => ⟨fun h0 => ?_, fun h0 => ?_⟩⟩
          · refine ⟨(i + 1, mtick c es [.int .i64 (k : Int)], mput c es [.int .i64 (k : Int)] true), ⟨by simp only []; omega, hput⟩, by simp only []; omega, ?_⟩
            (simp only [LessC, lessS, lessO, belowS, belowO, AV.below, AObj.below, AC.below, XObj.below, List.length_cons, List.length_nil, List.all_cons, List.all_nil, Nat.reduceLT, Int.cast_ofNat_Int, Int.natCast_add, AV.c.injEq, AC.int.injEq, true_and, and_true, and_self, reduceCtorEq, Bool.and_true, Nat.zero_add, Nat.reduceAdd, Nat.reduceLeDiff, eq_self, decide_true, or_true, or_false, false_or] <;> try omega)
            all_goals exact i64_in _ (by omega)
          · have hi1 : i - 1 < s.length := by omega
            have w1 : IntKind.i64.wrap ((i : Int) - 1) = ((i - 1 : Nat) : Int) := by rw [i64_in _ (by omega)]; omega
            have eP := og (i - 1) hi1
            obtain ⟨k', hkl', ek'⟩ := mem (i - 1) hi1
            rw [ek'] at eP
            simp only at eP
            have hr := srt_get hs (show i - 1 < i by omega) hi'
            rw [ek, ek'] at hr
            have F1 := far2_get b l hkl
            have F2 := far2_get b l hkl'
            have fin1 := distF_in (hfine k hkl)
            have fin2 := distF_in (hfine k' hkl')
            generalize hq : i - 1 = i1 at *
            refine DrawAt.plan tabOK mixed (.take 0 false (.take 1 false (.take 2 false (.take 3 false (.take 4 false (.take 5 false (.take 6 false (.take 7 true (.take 8 false (.take 9 false (.take 10 false (.take 11 true (.alt 12 (.take 13 true .done) .stop))))))))))))) (by decide +kernel) ?_
            simp only [avc_stop, avc_take, avc_alt, qstep, lstep, ownLoad, put_n0, put_some, aop, qop, isQuiet, ASt.eval, ASt.ev, AV.strip, AV.need, AV.ac, AV.isTup, qbin, binInt, qindexAddr, qload, ned, DV.ac, ofCells, TI.isAgg, isScalar, avOf, acOf, eInt, eList, ePair, List.getD_cons_succ, List.getD_cons_zero, List.set_cons_succ, List.set_cons_zero, List.map_cons, List.map_nil, List.cons_append, List.nil_append, List.length_cons, List.length_nil, List.take_succ_cons, List.take_nil, List.headD_cons, List.getElem?_cons_succ, List.getElem?_cons_zero, Int.toNat_natCast, true_and, and_true, and_self, reduceCtorEq, not_false_eq_true, Bool.false_eq_true, Nat.zero_add, Nat.reduceAdd, Nat.le_refl, eq_self, Nat.succ_ne_self, or_true, tab_3, tab_25, tab_39, tab_40, w1, eP, F1, F2, hol]
            refine ⟨⟨by omega, by omega⟩, ⟨by omega, by rw [far2_len]; omega⟩, ⟨by omega, by rw [far2_len]; omega⟩, ?_⟩
            refine CallAt.plain (fraction_spec (distF b (l.getD k' zP).2).1 (distF b (l.getD k' zP).2).2.1 (distF b (l.getD k zP).2).1 (distF b (l.getD k zP).2).2.1 (by omega) (by omega) (by omega) (by omega)) rfl ?_
            rintro r os ⟨rfl, rfl⟩
            obtain ⟨_, hr⟩ := hr
            simp only at hr
            rcases hr with hr | ⟨hr, hkk⟩
            · rw [sgn_lt hr]
              simp only [avc_done, avc_take, qstep, ownLoad, VC_skip, VC_region, VC_seq, VC_cond, VC_block, VC_ret, aops_nil, aops_cons, put_some, qop, isQuiet, ASt.eval, AV.need, AV.ac, onG, guardOf, qbin, binInt, qpick, qpick0, qindexAddr, qload, AV.map, DV.ac, ofCells, TI.isAgg, isScalar, avOf, acOf, AC.ren, giveBack, afterCall, eInt, eList, List.getD_cons_succ, List.getD_cons_zero, List.set_cons_succ, List.set_cons_zero, List.map_cons, List.map_nil, List.append_nil, List.length_cons, List.length_nil, List.take_succ_cons, List.take_nil, List.headD_cons, List.getElem?_cons_succ, List.getElem?_cons_zero, Option.bind_some, Int.reduceLT, Int.reduceNeg, Int.toNat_natCast, implies_true, imp_self, beq_true, true_and, and_self, forall_const, reduceCtorEq, false_implies, not_false_eq_true, Bool.and_false, Bool.false_eq_true, cond_false, Nat.zero_add, Nat.reduceAdd, Nat.le_refl, eq_self, Nat.succ_ne_self, decide_false, or_true, tab_3, tab_25, w1, eP, hol]
              refine ⟨(i + 1, mtick c es [.int .i64 (k : Int)], mput c es [.int .i64 (k : Int)] true), ⟨by simp only []; omega, hput⟩, by simp only []; omega, ?_⟩
              (simp only [LessC, lessS, lessO, belowS, belowO, AV.below, AObj.below, AC.below, XObj.below, List.length_cons, List.length_nil, List.all_cons, List.all_nil, Int.reduceNeg, Nat.reduceLT, Int.cast_ofNat_Int, Int.natCast_add, AV.c.injEq, AC.int.injEq, true_and, and_true, and_self, reduceCtorEq, Bool.and_true, Nat.zero_add, Nat.reduceAdd, Nat.reduceLeDiff, eq_self, decide_true, or_true, or_false, false_or] <;> try omega)
              all_goals exact i64_in _ (by omega)
            · rw [sgn_eq hr]
              have nk : ¬ ((k : Int) < (k' : Int)) := by omega
              simp only [avc_done, avc_take, qstep, ownLoad, VC_skip, VC_region, VC_seq, VC_cond, VC_block, VC_ret, aops_nil, aops_cons, put_some, qop, isQuiet, ASt.eval, AV.need, AV.ac, onG, guardOf, qbin, binInt, qpick, qpick0, qindexAddr, qload, AV.map, DV.ac, ofCells, TI.isAgg, isScalar, avOf, acOf, AC.ren, giveBack, afterCall, eInt, eList, List.getD_cons_succ, List.getD_cons_zero, List.set_cons_succ, List.set_cons_zero, List.map_cons, List.map_nil, List.append_nil, List.length_cons, List.length_nil, List.take_succ_cons, List.take_nil, List.headD_cons, List.getElem?_cons_succ, List.getElem?_cons_zero, Option.bind_some, Int.reduceLT, Int.toNat_natCast, implies_true, true_and, and_self, forall_const, false_implies, not_false_eq_true, Bool.and_true, Bool.false_eq_true, cond_true, beq_self_eq_true, Nat.zero_add, Nat.reduceAdd, Nat.le_refl, eq_self, Nat.succ_ne_self, decide_true, decide_false, or_true, tab_3, tab_25, w1, eP, hol, nk]
              repeat' (first | (with_reducible apply And.intro) | (with_reducible intro _))
              all_goals first | omega | skip
              refine ⟨(i + 1, mtick c es [.int .i64 (k : Int)], mput c es [.int .i64 (k : Int)] true), ⟨by simp only []; omega, hput⟩, by simp only []; omega, ?_⟩
              (simp only [LessC, lessS, lessO, belowS, belowO, AV.below, AObj.below, AC.below, XObj.below, List.length_cons, List.length_nil, List.all_cons, List.all_nil, Nat.reduceLT, Int.cast_ofNat_Int, Int.natCast_add, AV.c.injEq, AC.int.injEq, true_and, and_true, and_self, reduceCtorEq, Bool.and_true, Nat.zero_add, Nat.reduceAdd, Nat.reduceLeDiff, eq_self, decide_true, or_true, or_false, false_or] <;> try omega)
              all_goals exact i64_in _ (by omega)
        · (refine RetAt.leaf ?_ ?_ <;> simp only [resOf, tupOf, ASt.eval, AV.strip, AV.need, AV.map, AC.ren, List.getD_cons_succ, List.getD_cons_zero, and_self, eq_self])
end Go.Vc.Sn
