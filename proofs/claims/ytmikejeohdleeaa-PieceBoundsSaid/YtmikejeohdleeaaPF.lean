/- Best in the program. -/
import Derived.Test.YtmikejeohdleeaaPE
set_option linter.unusedVariables false
set_option linter.unusedSimpArgs false
namespace Go.Vc.Pc
open Go.Proofs Go.IntWalk
set_option maxRecDepth 100000
abbrev rowI (xs : List Int) : AObj := .row 3 1 Int 0 (fun n => [.int .i64 n]) xs
abbrev bestM (f l : List Int) (nx : Mat) : Mat := restsM l nx f.length (2 ^ f.length) (2 ^ f.length)
theorem bestM_bounds {f l : List Int} {nx : Mat} (ht : Tame l nx f.length) (hn : f.length ≤ 12) {t k : Nat} (h1 : t < 2 ^ f.length) (h2 : k < f.length) : low ≤ at2 (bestM f l nx) t k ∧ at2 (bestM f l nx) t k ≤ 4096000000 := by
  have h := restsM_bounds ht (2 ^ f.length) (Nat.le_refl _) t k (by omega) h1 h2
  have hN1 : 2 ^ f.length ≤ 4096 := Nat.le_trans (Nat.pow_le_pow_right (by decide) hn) (by decide : 2 ^ 12 ≤ 4096)
  show low ≤ at2 (restsM l nx f.length (2 ^ f.length) (2 ^ f.length)) t k ∧ at2 (restsM l nx f.length (2 ^ f.length) (2 ^ f.length)) t k ≤ _
  generalize 2 ^ f.length = N at *
  omega
theorem sumB_bounds {f B : List Int} {M : Mat} (hf : ∀ i, i < f.length → -1000000 ≤ f.getD i 0 ∧ f.getD i 0 ≤ 1000000) (hM : ∀ k, k < f.length → at2 M (2 ^ k) k ≤ 4096000000) : ∀ k, k ≤ f.length → low ≤ sumB f M k ∧ sumB f M k ≤ 4097000000
  | 0, _ => by simp [sumB, low]
  | k + 1, hk => by
    have ih := sumB_bounds (B := B) hf hM k (by omega)
    have h1 := hf k (by omega)
    have h2 := hM k (by omega)
    unfold sumB
    rcases maxI_cases (sumB f M k) (f.getD k 0 + at2 M (2 ^ k) k) with ⟨h3, h4⟩ | ⟨h3, h4⟩ <;> rw [h4] <;> omega
theorem runB_ok {f l : List Int} {nx : Mat} (ht : Tame l nx f.length) (hn : f.length ≤ 12) (hf : ∀ i, i < f.length → -1000000 ≤ f.getD i 0 ∧ f.getD i 0 ≤ 1000000)
    (hfound : ∀ j, j < f.length → ∃ i, firstOk f nx (bestM f l nx) (runB f nx (bestM f l nx) f.length j) f.length = some i) : ∀ j, j ≤ f.length → StOK f.length j (runB f nx (bestM f l nx) f.length j)
  | 0, _ => by
    have h := sumB_bounds (B := l) (M := bestM f l nx) hf (fun k hk => (bestM_bounds ht hn (Nat.pow_lt_pow_right (by omega) hk) hk).2) f.length (Nat.le_refl _)
    refine ⟨rfl, fun x hx => (by cases hx), Nat.one_le_two_pow, ?_⟩
    show _ ≤ sumB f (bestM f l nx) f.length ∧ sumB f (bestM f l nx) f.length ≤ _
    unfold low at h
    omega
  | j + 1, hj => by
    have ih := runB_ok ht hn hf hfound j (by omega)
    obtain ⟨i, hi⟩ := hfound j (by omega)
    have hi' := (firstOk_some hi).1
    show StOK f.length (j + 1) (stepB f nx (bestM f l nx) f.length (runB f nx (bestM f l nx) f.length j))
    unfold stepB
    rw [hi]
    exact stepB_ok (B := bestM f l nx) ht hf ih hi'
set_option maxHeartbeats 8000000 in
theorem best_spec (f l : List Int) (nx : List (List Int)) (h0 : tchk f l nx = 0) (hpos : 0 < f.length)
    (hfound : ∀ j, j < f.length → ∃ i, firstOk f nx (bestM f l nx) (runB f nx (bestM f l nx) f.length j) f.length = some i) :
    ACall Try.prog 37 [tbl f l nx] [] (fun r os => r = .tup [(false, [.sl 0]), (false, [.int .i64 (sumB f (bestM f l nx) f.length)]), (false, [.int .i64 0])] ∧ os = [rowI (runB f nx (bestM f l nx) f.length f.length).1]) := by
  obtain ⟨hn, ht, hf⟩ := tchk_ok h0
  have hll := ht.ll
  have hnl := ht.nl
  have hrl : ∀ r ∈ nx, r.length < 9223372036854775807 := fun r hr => by
    obtain ⟨i, hi, e⟩ := List.getElem_of_mem hr
    have := ht.rl i (by omega)
    rw [show nx.getD i [] = r by simp [List.getD, hi, e]] at this
    omega
  (refine ACall.of_body (nt := 113) (rs := [.tmp 2, .tmp 3, .tmp 4]) tabOK Try.func37 rfl rfl rfl rfl ?_; simp only [startSt, List.length_cons, List.length_nil, Nat.reduceAdd, Nat.reduceSub, List.replicate_succ, List.replicate_zero, List.cons_append, List.nil_append])
  simp only [VCp, VC_region, VC_seq, aops_nil, aops_cons, put_some, aop, qop, isQuiet, ASt.eval, ASt.ev, AV.strip, AV.need, AV.ac, AV.cells, AV.isTup, qload, ned, AC.fits, newObj, ASt.obj, ofCells, TI.isAgg, avOf, acOf, eInt, eList, ePair, List.getD_cons_succ, List.getD_cons_zero, List.set_cons_succ, List.set_cons_zero, List.map_cons, List.map_nil, List.cons_append, List.nil_append, List.length_cons, List.length_nil, List.drop_zero, List.take_succ_cons, List.take_nil, List.all_cons, List.all_nil, Int.reduceNeg, true_and, and_self, reduceCtorEq, not_false_eq_true, Bool.and_true, cond_true, beq_self_eq_true, Nat.zero_add, Nat.reduceAdd, Nat.le_refl, eq_self, tab_53]
  refine CallAt.plain (check_spec f l nx (by omega) (by omega) (by omega) hrl) rfl ?_
  rintro r os ⟨rfl, rfl⟩
  simp only [VC_skip, VC_region, VC_seq, VC_cond, VC_ret, aops_nil, aops_cons, put_some, aop, qop, isQuiet, ASt.eval, ASt.ev, AV.strip, AV.need, AV.ac, AV.isTup, qbin, binInt, qlen, qfieldAddr, qload, ned, ASt.obj, AV.map, ofCells, TI.isAgg, isScalar, avOf, acOf, AC.ren, giveBack, afterCall, eInt, eList, ePair, List.getD_cons_succ, List.getD_cons_zero, List.set_cons_succ, List.set_cons_zero, List.map_cons, List.map_nil, List.cons_append, List.nil_append, List.append_nil, List.length_cons, List.length_nil, List.drop_zero, List.take_succ_cons, List.take_zero, List.take_nil, List.headD_cons, List.getElem?_cons_zero, Int.reduceNeg, decide_eq_true_eq, decide_eq_false_iff_not, true_and, and_self, forall_const, reduceCtorEq, false_implies, not_false_eq_true, Bool.and_true, Bool.false_eq_true, Bool.not_true, cond_true, beq_self_eq_true, Nat.add_zero, Nat.zero_add, Nat.reduceAdd, Nat.reduceLeDiff, Nat.le_refl, eq_self, Nat.succ_ne_self, decide_true, tab_3, tab_26, tab_34, tab_53, h0]
  refine ⟨fun h => by omega, fun _ => ?_⟩
  have hrs : ACall Try.prog 79 [tbl f l nx] [] (fun r os => r = .c (.xr 0 .whole) ∧ os = [rowsI (bestM f l nx)]) := rests_spec f l nx ht hn
  refine CallAt.plain hrs rfl ?_
  rintro r os ⟨rfl, rfl⟩
  simp only [XObj.amap, VC_region, VC_seq, VC_block, VC_loop, aops_nil, aops_cons, put_some, qop, isQuiet, ASt.eval, AV.need, AV.map, AObj.map, avOf, acOf, AC.ren, backIx, giveBack, afterCall, List.getD_cons_succ, List.getD_cons_zero, List.set_cons_succ, List.set_cons_zero, List.map_cons, List.map_nil, List.cons_append, List.nil_append, List.length_cons, List.length_nil, List.getElem?_nil, Int.reduceNeg, true_and, Bool.and_true, cond_true, beq_self_eq_true, Nat.add_zero, Nat.zero_add, Nat.reduceSub]
  refine LoopAt.fix 0 (LoopAt.freeze 1 ?_)
  simp only [ASt.fix, AC.fixp, XObj.amap, ASt.setObj, ASt.obj, ASt.map, ASt.freeze, AV.map, AObj.map, AC.frz, dvs, AC.dv, List.getD_cons_succ, List.getD_cons_zero, List.set_cons_succ, List.set_cons_zero, List.map_cons, List.map_nil, List.drop_zero, Int.reduceNeg, cond_true, beq_self_eq_true]
  have hB := fun t k => bestM_bounds (t := t) (k := k) ht hn
  have hBr : ∀ t, t < 2 ^ f.length → ((bestM f l nx).getD t []).length = f.length := fun t h => restsM_row (Nat.le_refl _) (by omega) h
  have hBl : (bestM f l nx).length = 2 ^ f.length := restsM_len _ _ _ _ _
  have hok := runB_ok ht hn hf hfound
  have hN1 : 2 ^ f.length ≤ 4096 := Nat.le_trans (Nat.pow_le_pow_right (by decide) hn) (by decide : 2 ^ 12 ≤ 4096)
  have hsum := sumB_bounds (B := l) (M := bestM f l nx) hf (fun k hk => (hB _ _ (Nat.pow_lt_pow_right (by omega) hk) hk).2)
  have hpow : ∀ i, i < f.length → 2 ^ i < 2 ^ f.length := fun i hi => Nat.pow_lt_pow_right (by omega) hi
  have hor : ∀ s i, s < 2 ^ f.length → i < f.length → s ||| 2 ^ i < 2 ^ f.length := fun s i hs hi => or_lt hs hi
  have hrun : ∀ j, runB f nx (bestM f l nx) f.length (j + 1) = stepB f nx (bestM f l nx) f.length (runB f nx (bestM f l nx) f.length j) := fun j => rfl
  have hrun0 : runB f nx (bestM f l nx) f.length 0 = ([], 0, sumB f (bestM f l nx) f.length) := rfl
  have hok' : ∀ j, j ≤ f.length → (runB f nx (bestM f l nx) f.length j).2.1 < 2 ^ f.length := fun j hj => (hok j hj).us
  clear hrs
  generalize bestM f l nx = B at *
  generalize hNN : 2 ^ f.length = N at *
  refine LoopAt.inv (ι := Nat) (T := tab) (fun k => [(28, .c (.int .i64 k)), (10, .c (.int .i64 (sumB f B k)))]) (fun k => [])
    (fun k => k ≤ f.length) (fun k => f.length - k) tabOK 0 (Nat.zero_le _) ?_ ?_
  · (simp only [LessC, headSt, dsts, opDsts, resetS, putsS, lessS, lessO, belowS, belowO, AV.below, AC.below, List.set_cons_succ, List.set_cons_zero, List.cons_append, List.nil_append, List.append_nil, List.length_nil, List.all_cons, List.all_nil, Int.reduceNeg, Int.cast_ofNat_Int, AV.c.injEq, AC.int.injEq, true_and, and_true, and_self, reduceCtorEq, Bool.and_true, Nat.le_refl, eq_self, or_true, false_or] <;> try omega)
    rfl
  intro k hk
  simp only [VCp, headSt, dsts, opDsts, resetS, putsS, VC_skip, VC_region, VC_draw, VC_seq, VC_cond, VC_block, VC_loop, VC_exit, aops_nil, aops_cons, put_some, qop, isQuiet, ASt.eval, AV.need, AV.ac, qbin, binInt, isScalar, eInt, List.getD_cons_succ, List.getD_cons_zero, List.set_cons_succ, List.set_cons_zero, List.cons_append, List.nil_append, List.append_nil, Int.reduceNeg, decide_eq_true_eq, decide_eq_false_iff_not, Int.not_lt, true_and, and_self, if_true, eq_self, tab_3]
  refine ⟨fun h => ?_, fun h => ?_⟩
  · have hk' : k < f.length := by omega
    have e2 := i64_one (k := k) (by omega)
    have hp := hpow k hk'
    have b1 := hsum k hk
    have b2 := hB _ k hp hk'
    have b3 := hf k hk'
    have b4 := hBr _ hp
    have e5 : (List.getD B (2 ^ k) []).getD k 0 = at2 B (2 ^ k) k := rfl
    have e6 : IntKind.i64.wrap (f.getD k 0 + at2 B (2 ^ k) k) = f.getD k 0 + at2 B (2 ^ k) k := i64_in _ (by unfold low at b2; omega)
    have e7 : (if f.getD k 0 + at2 B (2 ^ k) k > sumB f B k then f.getD k 0 + at2 B (2 ^ k) k else sumB f B k) = sumB f B (k + 1) := rfl
    refine DrawAt.plan tabOK mixed (.take 0 true (.take 1 true (.take 2 true (.take 3 true (.take 4 true (.take 5 true (.take 6 true (.take 7 true (.take 8 true (.take 9 true (.take 10 true (.take 11 true (.take 12 true (.take 13 true (.take 14 true (.take 15 true (.take 16 true .done))))))))))))))))) (by decide +kernel) ?_
    simp only [encL, avc_done, avc_take, qstep, ownLoad, VC_region, aops_nil, aops_cons, put_some, qop, isQuiet, ASt.eval, AV.need, AV.ac, qbin, binInt, qmax, qindexAddr, qfieldAddr, qload, DV.ac, ofCells, TI.isAgg, isScalar, avOf, acOf, eInt, eList, ePair, List.getD_cons_succ, List.getD_cons_zero, List.set_cons_succ, List.set_cons_zero, List.map_cons, List.map_nil, List.cons_append, List.nil_append, List.length_cons, List.length_nil, List.drop_zero, List.take_succ_cons, List.take_zero, List.take_nil, List.headD_cons, List.getElem?_cons_succ, List.getElem?_cons_zero, Int.toNat_natCast, true_and, and_self, not_false_eq_true, Nat.zero_add, Nat.reduceAdd, Nat.reduceLeDiff, Nat.le_refl, eq_self, Nat.succ_ne_self, or_true, tab_3, tab_26, tab_51, tab_53, e2, e5, e6, e7, b4, hBl, Int.toNat_natCast]
    generalize 2 ^ k = p at *
    refine ⟨⟨by omega, by omega⟩, by omega, ⟨by omega, by omega⟩, ⟨by omega, by omega⟩, k + 1, by omega, by omega, ?_⟩
    (simp only [LessC, lessS, lessO, belowS, belowO, AV.below, AC.below, List.length_nil, List.all_cons, List.all_nil, Int.cast_ofNat_Int, Int.natCast_add, AV.c.injEq, AC.int.injEq, true_and, and_true, and_self, reduceCtorEq, Bool.and_true, Nat.le_refl, eq_self, or_true, or_false, false_or] <;> try omega)
    all_goals exact i64_in _ (by omega)
  have : k = f.length := by omega
  subst this
  refine LoopAt.adopt 8 3 1 Int 0 (fun n => [.int .i64 n]) rfl (fun _ => rfl) ?_
  simp only [newObj, adopt, List.set_cons_succ, List.set_cons_zero, List.nil_append, List.length_nil]
  refine LoopAt.inv (ι := Nat) (T := tab) (fun j => [(8, .c (.sl 0)), (9, .c (.int .i64 ((runB f nx B f.length j).2.1 : Nat))), (12, .c (.int .i64 (runB f nx B f.length j).2.2))]) (fun j => [rowI (runB f nx B f.length j).1])
    (fun j => j ≤ f.length) (fun j => f.length - j) tabOK 0 (Nat.zero_le _) ?_ ?_
  · (simp only [LessC, headSt, dsts, opDsts, resetS, putsS, lessS, lessO, belowS, belowO, AV.below, AObj.below, AC.below, List.set_cons_succ, List.set_cons_zero, List.cons_append, List.nil_append, List.append_nil, List.length_cons, List.length_nil, List.all_cons, List.all_nil, Nat.reduceLT, AV.c.injEq, AC.int.injEq, AObj.row.injEq, heq_eq_eq, true_and, and_true, and_self, reduceCtorEq, Bool.and_true, Nat.zero_add, Nat.reduceLeDiff, eq_self, decide_true, or_true, false_or] <;> try omega)
    rw [hrun0]
    exact ⟨⟨rfl, rfl⟩, rfl⟩
  intro j hj
  have hst := hok j hj
  have hu := hok' j hj
  have hfj := hfound j
  have hrj := hrun j
  generalize hSS : runB f nx B f.length j = st at *
  obtain ⟨o, u, lf⟩ := st
  obtain ⟨ol, om, -, lb⟩ := hst
  dsimp only at *
  simp only [VCp, headSt, dsts, opDsts, resetS, putsS, VC_skip, VC_region, VC_seq, VC_cond, VC_block, VC_loop, VC_exit, VC_ret, aops_nil, aops_cons, put_some, qop, isQuiet, ASt.eval, AV.need, AV.ac, qbin, binInt, qlen, ASt.obj, isScalar, avOf, acOf, eInt, eList, List.getD_cons_succ, List.getD_cons_zero, List.set_cons_succ, List.set_cons_zero, List.cons_append, List.nil_append, List.append_nil, decide_eq_true_eq, decide_eq_false_iff_not, Int.not_lt, true_and, and_self, if_true, eq_self, tab_3, tab_26, ol]
  refine ⟨fun h => ?_, fun h => ?_⟩
  · have hj' : j < f.length := by omega
    refine LoopAt.inv (ι := Nat) (T := tab) (fun i => [(54, .c (.int .i64 i)), (8, .c (.sl 0)), (9, .c (.int .i64 (u : Nat))), (12, .c (.int .i64 lf))]) (fun i => [rowI o])
      (fun i => i ≤ f.length ∧ ∀ i', i' < i → okAt f nx B (o, u, lf) i' = false) (fun i => f.length - i) tabOK 0 ⟨Nat.zero_le _, fun i hi => by omega⟩ ?_ ?_
    · (simp only [LessC, headSt, dsts, opDsts, resetS, putsS, lessS, lessO, belowS, belowO, AV.below, AObj.below, AC.below, List.set_cons_succ, List.set_cons_zero, List.cons_append, List.nil_append, List.append_nil, List.length_cons, List.length_nil, List.all_cons, List.all_nil, Nat.reduceLT, Int.cast_ofNat_Int, AV.c.injEq, and_self, reduceCtorEq, Bool.and_true, Nat.zero_add, Nat.reduceLeDiff, eq_self, decide_true, or_true] <;> try omega)
    rintro i ⟨hi, hno⟩
    simp only [VCp, headSt, dsts, opDsts, resetS, putsS, encL, VC_skip, VC_region, VC_draw, VC_seq, VC_cond, VC_block, VC_exit, VC_ret, aops_nil, aops_cons, put_some, qop, isQuiet, ASt.eval, AV.need, AV.ac, onG, guardOf, qbin, binInt, qpick, qpick0, qlen, qindexAddr, qfieldAddr, qload, ASt.obj, DV.ac, ofCells, TI.isAgg, isScalar, avOf, acOf, eInt, eList, ePair, List.getD_cons_succ, List.getD_cons_zero, List.set_cons_succ, List.set_cons_zero, List.map_cons, List.map_nil, List.cons_append, List.nil_append, List.append_nil, List.length_cons, List.length_nil, List.drop_zero, List.take_succ_cons, List.take_zero, List.take_nil, List.headD_cons, List.getElem?_cons_succ, List.getElem?_cons_zero, Option.bind_some, Int.toNat_natCast, implies_true, imp_self, beq_true, decide_eq_true_eq, decide_eq_false_iff_not, Bool.cond_false_right, Bool.and_eq_true, Bool.and_eq_false_iff, Int.not_lt, true_and, and_self, not_false_eq_true, Bool.true_and, if_true, if_false, Nat.zero_add, Nat.reduceAdd, Nat.reduceEqDiff, Nat.reduceLeDiff, Nat.le_refl, eq_self, Nat.succ_ne_self, tab_3, tab_26, tab_51, tab_53, ol]
    refine ⟨fun h => ?_, fun h => ?_⟩
    · have hi' : i < f.length := by omega
      have hw := wOf_bounds ht hf om hi'
      have e1 := i64_bit (m := u) (k := i) (by omega) (by omega)
      have e2 := i64_one (k := i) (by omega)
      have e3 := i64_or (a := u) (b := 2 ^ i) (by omega) (by have := hpow i hi'; omega)
      have hlt := hor u i hu hi'
      have hrow := hBr _ hlt
      have hMb := hB _ i hlt hi'
      have e5 : (List.getD B (u ||| 2 ^ i) []).getD i 0 = at2 B (u ||| 2 ^ i) i := rfl
      have e6 : IntKind.i64.wrap (wOf f nx o i + at2 B (u ||| 2 ^ i) i) = wOf f nx o i + at2 B (u ||| 2 ^ i) i := i64_in _ (by unfold low at hMb; omega)
      have e8 : IntKind.i64.wrap (lf - wOf f nx o i) = lf - wOf f nx o i := i64_in _ (by omega)
      have hoke : okAt f nx B (o, u, lf) i = (!u.testBit i && decide (wOf f nx o i + at2 B (u ||| 2 ^ i) i = lf)) := rfl
      refine ⟨fun hc => ?_, fun hc => ?_⟩
      · have hwe : f.getD i 0 = wOf f nx o i := by
          unfold wOf
          rw [if_pos (by omega)]
        simp only [hwe, e1, e2, e3, e5, e6, hrow, hBl, Int.toNat_natCast]
        cases hb : u.testBit i with
        | true =>
          simp only [Int.reduceEq, true_and, forall_const, false_implies, not_false_eq_true, Bool.false_and, if_true, eq_self, decide_false, false_and, true_or]
          refine ⟨by omega, by omega, i + 1, ⟨by omega, fun i' h' => ?_⟩, by omega, ?_⟩
          · by_cases e : i' = i
            · subst e
              rw [hoke, hb]
              rfl
            · exact hno i' (by omega)
          · (simp only [LessC, lessS, lessO, belowS, belowO, AV.below, AObj.below, AC.below, List.length_cons, List.length_nil, List.all_cons, List.all_nil, Nat.reduceLT, Int.cast_ofNat_Int, Int.natCast_add, AV.c.injEq, AC.int.injEq, true_and, and_true, and_self, reduceCtorEq, Bool.and_true, Nat.zero_add, Nat.reduceLeDiff, eq_self, decide_true, or_true, or_false, false_or] <;> try omega)
            all_goals exact i64_in _ (by omega)
        | false =>
          simp only [true_and, forall_const, Bool.true_and, Bool.false_eq_true, if_false, eq_self, decide_true]
          refine ⟨by omega, by omega, by omega, ⟨Int.natCast_nonneg _, by exact_mod_cast hlt⟩, by omega, fun heq => ?_, fun hne => ?_⟩
          · have hokT : okAt f nx B (o, u, lf) i = true := by
              rw [hoke, hb]
              simpa using heq
            have hs : stepB f nx B f.length (o, u, lf) = (o ++ [(i : Int)], u ||| 2 ^ i, lf - wOf f nx o i) := by
              unfold stepB
              rw [firstOk_at hno hokT hi']
            refine DrawAt.plan tabOK mixed (.take 0 false (.take 1 false (.take 4 false (.take 5 false (.take 6 false (.take 7 false (.take 8 false (.take 9 false (.take 10 false (.alt 2 (.alt 3 (.take 11 true (.take 12 true (.take 13 true .done))) .stop) .stop)))))))))) (by decide +kernel) ?_
            simp only [ownSl, ownPart, appRows, avc_done, avc_stop, avc_take, avc_alt, qstep, lstep, ownLoad, VC_region, VC_seq, VC_exit, VC_ret, aops_nil, aops_cons, put_some, aop, qop, isQuiet, ASt.eval, AV.need, AV.ac, AV.cells, AV.isTup, qbin, binInt, needAll, ned, partsOf, fitAll, AC.fits, abuildSlice, elems, setPart, appSrc, aappend, newObj, ASt.setObj, ASt.obj, ASt.map, frzRefs, AV.map, AObj.map, AC.kill, dvs, AC.dv, leD, leD1, isScalar, avOf, acOf, eInt, eList, List.getD_cons_succ, List.getD_cons_zero, List.set_cons_succ, List.set_cons_zero, List.map_cons, List.map_nil, List.replicate_succ, List.replicate_zero, List.cons_append, List.nil_append, List.append_nil, List.length_cons, List.length_nil, List.all_cons, List.all_nil, List.flatMap_cons, List.flatMap_nil, List.getElem?_cons_succ, List.getElem?_cons_zero, Nat.reduceLT, ↓ex_rfl, cast_eq, heq_eq_eq, DV.int.injEq, exists_eq_left', true_and, and_true, and_self, not_false_eq_true, Bool.and_true, Bool.false_eq_true, cond_true, cond_false, beq_self_eq_true, if_true, if_false, Nat.zero_add, Nat.reduceMul, Nat.reduceBEq, Nat.reduceEqDiff, Nat.reduceLeDiff, Nat.le_refl, eq_self, Nat.succ_ne_self, or_true, tab_3, tab_26, e2, e3, e8, ol]
            refine ⟨by omega, by omega, by omega, j + 1, by omega, by omega, ?_⟩
            rw [hrj, hs]
            (simp only [LessC, lessS, lessO, belowS, belowO, AV.below, AObj.below, AC.below, List.length_cons, List.length_nil, List.all_cons, List.all_nil, Nat.reduceLT, AV.c.injEq, and_self, reduceCtorEq, Bool.and_true, Nat.zero_add, Nat.reduceLeDiff, eq_self, decide_true, or_true, or_false] <;> try omega)
          · refine ⟨i + 1, ⟨by omega, fun i' h' => ?_⟩, by omega, ?_⟩
            · by_cases e : i' = i
              · subst e
                rw [hoke, hb]
                simpa using hne
              · exact hno i' (by omega)
            · (simp only [LessC, lessS, lessO, belowS, belowO, AV.below, AObj.below, AC.below, List.length_cons, List.length_nil, List.all_cons, List.all_nil, Nat.reduceLT, Int.cast_ofNat_Int, Int.natCast_add, AV.c.injEq, AC.int.injEq, true_and, and_true, and_self, reduceCtorEq, Bool.and_true, Nat.zero_add, Nat.reduceLeDiff, eq_self, decide_true, or_true, or_false, false_or] <;> try omega)
              all_goals exact i64_in _ (by omega)
      · have hj1 : IntKind.i64.wrap ((j : Int) - 1) = ((j - 1 : Nat) : Int) := by rw [i64_in _ (by omega)]; omega
        have hmo : o.getD (j - 1) 0 ∈ o := by simp [List.getD, show j - 1 < o.length by omega]
        have hob := om _ hmo
        have hnr := ht.rl (o.getD (j - 1) 0).toNat (by omega)
        have hwe : (nx.getD (o.getD (j - 1) 0).toNat []).getD i 0 = wOf f nx o i := by
          unfold wOf
          rw [if_neg (by omega), ol]
          rfl
        refine DrawAt.plan tabOK mixed (.take 0 true (.take 1 true (.take 2 true (.take 3 true (.take 4 true (.take 5 true (.take 6 true (.take 7 true (.take 8 true (.take 9 true (.take 10 true (.take 11 true (.take 12 true (.take 13 true .done)))))))))))))) (by decide +kernel) ?_
        simp only [encL, avc_done, avc_take, qstep, ownLoad, VC_skip, VC_region, VC_draw, VC_seq, VC_cond, aops_nil, aops_cons, put_some, qop, isQuiet, ASt.eval, AV.need, AV.ac, onG, guardOf, qbin, binInt, qpick, qpick0, qlen, qindexAddr, qfieldAddr, qload, ASt.obj, DV.ac, ofCells, TI.isAgg, isScalar, avOf, acOf, eInt, eList, ePair, List.getD_cons_succ, List.getD_cons_zero, List.set_cons_succ, List.set_cons_zero, List.map_cons, List.map_nil, List.cons_append, List.nil_append, List.length_cons, List.length_nil, List.drop_succ_cons, List.drop_zero, List.take_succ_cons, List.take_nil, List.headD_cons, List.getElem?_cons_succ, List.getElem?_cons_zero, Option.bind_some, Int.toNat_natCast, implies_true, imp_self, beq_true, decide_eq_true_eq, decide_eq_false_iff_not, Bool.cond_false_right, Bool.and_eq_true, Bool.and_eq_false_iff, true_and, and_true, and_self, not_false_eq_true, Bool.true_and, Bool.true_eq_false, Nat.zero_add, Nat.le_refl, eq_self, Nat.succ_ne_self, or_true, or_false, tab_3, tab_26, tab_51, tab_53, hj1, hwe, e1, e2, e3, e5, e6, hrow, hBl, hnr, ol, Int.toNat_natCast]
        refine ⟨⟨by omega, by omega⟩, by omega, ⟨by omega, by omega⟩, ?_⟩
        cases hb : u.testBit i with
        | true =>
          simp only [Int.reduceEq, true_and, forall_const, false_implies, not_false_eq_true, Bool.false_and, if_true, eq_self, decide_false, false_and, true_or]
          refine ⟨by omega, by omega, i + 1, ⟨by omega, fun i' h' => ?_⟩, by omega, ?_⟩
          · by_cases e : i' = i
            · subst e
              rw [hoke, hb]
              rfl
            · exact hno i' (by omega)
          · (simp only [LessC, lessS, lessO, belowS, belowO, AV.below, AObj.below, AC.below, List.length_cons, List.length_nil, List.all_cons, List.all_nil, Nat.reduceLT, Int.cast_ofNat_Int, Int.natCast_add, AV.c.injEq, AC.int.injEq, true_and, and_true, and_self, reduceCtorEq, Bool.and_true, Nat.zero_add, Nat.reduceLeDiff, eq_self, decide_true, or_true, or_false, false_or] <;> try omega)
            all_goals exact i64_in _ (by omega)
        | false =>
          simp only [true_and, forall_const, Bool.true_and, Bool.false_eq_true, if_false, eq_self, decide_true]
          refine ⟨by omega, by omega, by omega, ⟨Int.natCast_nonneg _, by exact_mod_cast hlt⟩, by omega, fun heq => ?_, fun hne => ?_⟩
          · have hokT : okAt f nx B (o, u, lf) i = true := by
              rw [hoke, hb]
              simpa using heq
            have hs : stepB f nx B f.length (o, u, lf) = (o ++ [(i : Int)], u ||| 2 ^ i, lf - wOf f nx o i) := by
              unfold stepB
              rw [firstOk_at hno hokT hi']
            refine DrawAt.plan tabOK mixed (.take 0 false (.take 1 false (.take 4 false (.take 5 false (.take 6 false (.take 7 false (.take 8 false (.take 9 false (.take 10 false (.alt 2 (.alt 3 (.take 11 true (.take 12 true (.take 13 true .done))) .stop) .stop)))))))))) (by decide +kernel) ?_
            simp only [ownSl, ownPart, appRows, avc_done, avc_stop, avc_take, avc_alt, qstep, lstep, ownLoad, VC_region, VC_seq, VC_exit, VC_ret, aops_nil, aops_cons, put_some, aop, qop, isQuiet, ASt.eval, AV.need, AV.ac, AV.cells, AV.isTup, qbin, binInt, needAll, ned, partsOf, fitAll, AC.fits, abuildSlice, elems, setPart, appSrc, aappend, newObj, ASt.setObj, ASt.obj, ASt.map, frzRefs, AV.map, AObj.map, AC.kill, dvs, AC.dv, leD, leD1, isScalar, avOf, acOf, eInt, eList, List.getD_cons_succ, List.getD_cons_zero, List.set_cons_succ, List.set_cons_zero, List.map_cons, List.map_nil, List.replicate_succ, List.replicate_zero, List.cons_append, List.nil_append, List.append_nil, List.length_cons, List.length_nil, List.all_cons, List.all_nil, List.flatMap_cons, List.flatMap_nil, List.getElem?_cons_succ, List.getElem?_cons_zero, Nat.reduceLT, ↓ex_rfl, cast_eq, heq_eq_eq, DV.int.injEq, exists_eq_left', true_and, and_true, and_self, not_false_eq_true, Bool.and_true, Bool.false_eq_true, cond_true, cond_false, beq_self_eq_true, if_true, if_false, Nat.zero_add, Nat.reduceMul, Nat.reduceBEq, Nat.reduceEqDiff, Nat.reduceLeDiff, Nat.le_refl, eq_self, Nat.succ_ne_self, or_true, tab_3, tab_26, e2, e3, e8, ol]
            refine ⟨by omega, by omega, by omega, j + 1, by omega, by omega, ?_⟩
            rw [hrj, hs]
            (simp only [LessC, lessS, lessO, belowS, belowO, AV.below, AObj.below, AC.below, List.length_cons, List.length_nil, List.all_cons, List.all_nil, Nat.reduceLT, AV.c.injEq, and_self, reduceCtorEq, Bool.and_true, Nat.zero_add, Nat.reduceLeDiff, eq_self, decide_true, or_true, or_false] <;> try omega)
          · refine ⟨i + 1, ⟨by omega, fun i' h' => ?_⟩, by omega, ?_⟩
            · by_cases e : i' = i
              · subst e
                rw [hoke, hb]
                simpa using hne
              · exact hno i' (by omega)
            · (simp only [LessC, lessS, lessO, belowS, belowO, AV.below, AObj.below, AC.below, List.length_cons, List.length_nil, List.all_cons, List.all_nil, Nat.reduceLT, Int.cast_ofNat_Int, Int.natCast_add, AV.c.injEq, AC.int.injEq, true_and, and_true, and_self, reduceCtorEq, Bool.and_true, Nat.zero_add, Nat.reduceLeDiff, eq_self, decide_true, or_true, or_false, false_or] <;> try omega)
              all_goals exact i64_in _ (by omega)
    · have hie : i = f.length := by omega
      subst hie
      obtain ⟨i, hfi⟩ := hfj hj'
      rw [firstOk_none.2 hno] at hfi
      cases hfi
  · have hje : j = f.length := by omega
    subst hje
    refine RetAt.keeping [0] (by decide) ?_ ?_ <;> simp only [resOf, tupOf, compOf, keepObjs, keepObjs, XObj.amap, ASt.eval, AV.strip, AV.need, AV.map, AObj.map, findIx, AC.ren, List.getD_cons_succ, List.getD_cons_zero, List.map_cons, List.map_nil, true_and, and_self, cond_true, beq_self_eq_true, eq_self]
    rw [hSS]
end Go.Vc.Pc
