/- Rests in the program. -/
import Derived.Test.YtmikejeohdleeaaPC
set_option linter.unusedVariables false
set_option linter.unusedSimpArgs false
namespace Go.Vc.Pc
open Go.Proofs Go.IntWalk
set_option maxRecDepth 100000
theorem zeros_len {α : Type} (n : Nat) (z : α) : (zeros n z).length = n := by simp [zeros]
theorem set_get {β : Type} {l : List β} {i : Nat} {x z : β} (h : i < l.length) : (l.set i x).getD i z = x := by simp [List.getD, h]
theorem set_get_ne {β : Type} {l : List β} {i j : Nat} {x z : β} (h : ¬ i = j) : (l.set i x).getD j z = l.getD j z := by simp [List.getD, h]
abbrev rowsI (M : Mat) : AObj := .ext (.rows 26 3 1 Int 0 (fun n => [.int .i64 n]) M)
set_option maxHeartbeats 8000000 in
theorem rests_spec (f l : List Int) (nx : List (List Int)) (ht : Tame l nx f.length) (hn : f.length ≤ 12) :
    ACall Try.prog 79 [tbl f l nx] [] (fun r os => r = .c (.xr 0 .whole) ∧ os = [rowsI (restsM l nx f.length (2 ^ f.length) (2 ^ f.length))]) := by
  (refine ACall.of_body (nt := 97) (rs := [.tmp 2]) tabOK Try.func79 rfl rfl rfl rfl ?_; simp only [startSt, List.length_cons, List.length_nil, Nat.reduceAdd, Nat.reduceSub, List.replicate_succ, List.replicate_zero, List.cons_append, List.nil_append])
  have hN := i64_one (k := f.length) (by omega)
  have hN1 : 2 ^ f.length ≤ 4096 := Nat.le_trans (Nat.pow_le_pow_right (by decide) hn) (by decide : 2 ^ 12 ≤ 4096)
  have hN2 : 1 ≤ 2 ^ f.length := Nat.one_le_two_pow
  simp only [VCp, nilZero, VC_region, VC_seq, VC_block, VC_loop, aops_nil, aops_cons, put_some, aop, qop, isQuiet, ASt.eval, AV.need, AV.ac, AV.cells, AV.isTup, qbin, binInt, qlen, qfieldAddr, qload, ned, AC.fits, amake, newObj, ASt.obj, ofCells, TI.isAgg, isScalar, avOf, acOf, eInt, eList, ePair, List.getD_cons_succ, List.getD_cons_zero, List.set_cons_succ, List.set_cons_zero, List.cons_append, List.nil_append, List.length_cons, List.length_nil, List.drop_zero, List.take_succ_cons, List.take_zero, List.headD_cons, List.all_cons, List.all_nil, List.getElem?_cons_zero, Int.reduceNeg, Int.cast_ofNat_Int, Int.toNat_natCast, true_and, and_self, not_false_eq_true, Bool.and_true, cond_true, beq_self_eq_true, Nat.add_zero, Nat.zero_add, Nat.reduceAdd, Nat.reduceLeDiff, eq_self, Nat.succ_ne_self, tab_3, tab_26, tab_51, tab_53, hN]
  generalize hNN : 2 ^ f.length = N at *
  simp only [zeros_len]
  have w1 : IntKind.i64.wrap ((N : Int) - 1) = N - 1 := i64_in _ (by omega)
  simp only [w1]
  refine ⟨by omega, by omega, by omega, by omega, by omega, ?_⟩
  refine LoopAt.fix 0 ?_
  simp only [ASt.fix, AC.fixp, XObj.amap, ASt.setObj, ASt.obj, ASt.map, AV.map, AObj.map, dvs, AC.dv, List.getD_cons_zero, List.set_cons_zero, List.map_cons, List.map_nil, List.drop_zero, Int.reduceNeg, cond_true, beq_self_eq_true]
  refine LoopAt.inv (ι := Nat) (T := tab) (fun j => [(5, .c (.int .i64 ((N : Int) - 1 - j)))]) (fun j => [.gone, rowsI (restsM l nx f.length N j)])
    (fun j => j ≤ N) (fun j => N - j) tabOK 0 (Nat.zero_le _) ?_ ?_
  · (simp only [LessC, headSt, dsts, opDsts, resetS, putsS, lessS, lessO, belowS, belowO, AV.below, AObj.below, AC.below, XObj.below, List.set_cons_succ, List.set_cons_zero, List.cons_append, List.nil_append, List.append_nil, List.length_cons, List.length_nil, List.all_cons, List.all_nil, Nat.reduceLT, Int.cast_ofNat_Int, AV.c.injEq, AC.int.injEq, true_and, and_true, and_self, reduceCtorEq, Bool.and_true, Nat.zero_add, Nat.reduceAdd, Nat.reduceLeDiff, eq_self, decide_true, or_true, false_or] <;> try omega)
    exact ⟨by omega, rfl⟩
  intro j hj
  have hlen := restsM_len l nx f.length N j
  have hbd := restsM_bounds ht j (by omega)
  rw [hNN] at hbd
  have hrl := fun s => restsM_row (l := l) (nx := nx) (n := f.length) (N := N) (j := j) (s := s) hj
  have hnext : restsM l nx f.length N (j + 1) = (restsM l nx f.length N j).set (N - 1 - j) (vrow l nx (restsM l nx f.length N j) f.length N (N - 1 - j)) := rfl
  generalize hMM : restsM l nx f.length N j = M at *
  simp only [VCp, headSt, dsts, opDsts, resetS, putsS, xabsorb, ownSl, AC.absorb, XObj.amap, amakePlain, VC_skip, VC_region, VC_seq, VC_cond, VC_block, VC_loop, VC_exit, VC_ret, aops_nil, aops_cons, put_some, put_none, aop, qop, isQuiet, ASt.eval, AV.need, AV.ac, AV.isTup, qbin, binInt, qindexAddr, ned, amake, newObj, ASt.setObj, ASt.obj, ASt.map, AV.map, AObj.map, isScalar, avOf, acOf, eInt, eList, List.getD_cons_succ, List.getD_cons_zero, List.set_cons_succ, List.set_cons_zero, List.map_cons, List.map_nil, List.cons_append, List.nil_append, List.append_nil, List.length_cons, List.length_nil, Int.reduceNeg, Int.cast_ofNat_Int, ↓ex_rfl, cast_eq, heq_eq_eq, Int.toNat_natCast, decide_eq_true_eq, decide_eq_false_iff_not, Int.not_le, true_and, and_self, not_false_eq_true, cond_true, cond_false, beq_self_eq_true, if_true, Nat.zero_add, Nat.reduceAdd, Nat.reduceBEq, Nat.reduceLeDiff, eq_self, Nat.succ_ne_self, tab_3, tab_26, tab_51, hlen]
  refine ⟨fun h => ?_, fun h => ?_⟩
  · obtain ⟨s, hs, hs'⟩ : ∃ s : Nat, N - 1 - j = s ∧ (N : Int) - 1 - j = s := ⟨N - 1 - j, rfl, by omega⟩
    rw [hs] at hnext
    have hsN : s < N := by omega
    simp only [hs', Int.toNat_natCast]
    have hsM : s < List.length M := by omega
    have hsn : s < 2 ^ f.length := by omega
    refine ⟨by omega, by omega, by omega, by omega, ⟨by omega, by omega⟩, by omega, ?_⟩
    refine LoopAt.inv (ι := Nat × List Int) (T := tab) (fun x => [(27, .c (.int .i64 x.1))]) (fun x => [.gone, rowsI (M.set s x.2)])
      (fun x => x.1 ≤ f.length ∧ x.2.length = f.length ∧ ∀ i, i < x.1 → x.2.getD i 0 = vcell l nx M N s i f.length) (fun x => f.length - x.1) tabOK (0, zeros f.length 0) ⟨Nat.zero_le _, zeros_len _ _, fun i hi => by omega⟩ ?_ ?_
    · (simp only [LessC, headSt, dsts, opDsts, resetS, putsS, lessS, lessO, belowS, belowO, AV.below, AObj.below, AC.below, XObj.below, List.set_cons_succ, List.set_cons_zero, List.cons_append, List.nil_append, List.append_nil, List.length_cons, List.length_nil, List.all_cons, List.all_nil, Nat.reduceLT, Int.cast_ofNat_Int, AV.c.injEq, and_self, reduceCtorEq, Bool.and_true, Nat.zero_add, Nat.reduceAdd, Nat.reduceLeDiff, eq_self, decide_true, or_true] <;> try omega)
    rintro ⟨i, r⟩ ⟨hi, hr, hri⟩
    dsimp only at hi hr hri ⊢
    have g1 : ∀ q : List Int, List.getD (List.set M s q) s [] = q := fun q => set_get hsM
    simp only [VCp, headSt, dsts, opDsts, resetS, putsS, xstore, VC_skip, VC_region, VC_draw, VC_seq, VC_cond, VC_block, VC_loop, VC_exit, VC_ret, aops_nil, aops_cons, put_some, put_none, aop, qop, isQuiet, ASt.eval, ASt.ev, AV.strip, AV.need, AV.ac, AV.cells, AV.isTup, qbin, binInt, qlen, qindexAddr, qload, splice, ned, ASt.setObj, ASt.obj, frzRefs, dvs, AC.dv, leD, leD1, TI.isAgg, isScalar, avOf, acOf, eInt, eList, List.getD_cons_succ, List.getD_cons_zero, List.set_cons_succ, List.set_cons_zero, List.cons_append, List.nil_append, List.append_nil, List.length_cons, List.length_nil, List.drop_succ_cons, List.drop_nil, List.take_zero, Int.reduceNeg, DV.int.injEq, exists_eq_left', Int.toNat_natCast, List.length_set, decide_eq_true_eq, decide_eq_false_iff_not, Int.not_lt, true_and, and_true, and_self, reduceCtorEq, not_false_eq_true, if_true, if_false, Nat.zero_add, Nat.le_refl, eq_self, Nat.succ_ne_self, tab_3, tab_26, tab_51, List.length_set, hlen, g1, hr, List.set_set, w1, Int.toNat_natCast]
    refine ⟨fun h => ?_, fun h => ?_⟩
    · have hi' : i < f.length := by omega
      have hli := ht.lb i hi'
      have hll := ht.ll
      have hnl := ht.nl
      have hri2 := ht.rl i hi'
      have hv0 : vcell l nx M N s i 0 = if s + 1 = N then l.getD i 0 else low := rfl
      have hvb := vcell_bounds (M := M) ht hsn hi' ((j : Int) * 1000000 + 1000000) (by omega) (fun t k h1 h2 h3 => by
        have := hbd t k (by omega) (by omega) h3
        unfold low at *
        omega)
      rw [hNN] at hvb
      refine ⟨⟨by omega, by omega⟩, by omega, ⟨by omega, by omega⟩, by omega, by omega, fun hc => ?_, fun hc => ?_⟩
      · refine DrawAt.plan tabOK mixed (.take 0 true (.take 1 true (.take 2 true (.take 3 true (.take 4 true (.take 5 true (.take 6 true (.take 7 true (.take 8 true (.take 9 true (.take 10 true (.alt 11 .done .stop)))))))))))) (by decide +kernel) ?_
        simp only [xstore, avc_done, avc_stop, avc_take, avc_alt, qstep, lstep, ownLoad, VC_region, VC_seq, VC_block, VC_loop, aops_nil, aops_cons, put_some, put_none, aop, qop, isQuiet, ASt.eval, ASt.ev, AV.strip, AV.need, AV.ac, AV.cells, AV.isTup, qindexAddr, qfieldAddr, qload, splice, ned, ASt.setObj, ASt.obj, frzRefs, dvs, AC.dv, DV.ac, leD, leD1, ofCells, TI.isAgg, avOf, acOf, eInt, eList, ePair, List.getD_cons_succ, List.getD_cons_zero, List.set_cons_succ, List.set_cons_zero, List.map_cons, List.map_nil, List.cons_append, List.nil_append, List.append_nil, List.length_cons, List.length_nil, List.drop_succ_cons, List.drop_zero, List.drop_nil, List.take_succ_cons, List.take_zero, List.take_nil, List.headD_cons, List.getElem?_cons_succ, List.getElem?_cons_zero, Int.reduceNeg, DV.int.injEq, exists_eq_left', Int.toNat_natCast, List.length_set, true_and, and_true, and_self, not_false_eq_true, Bool.true_eq_false, Nat.zero_add, Nat.reduceAdd, Nat.reduceLeDiff, Nat.le_refl, eq_self, Nat.succ_ne_self, or_true, or_false, tab_3, tab_26, tab_51, tab_53, List.length_set, hlen, g1, hr, List.set_set, Int.toNat_natCast]
        refine ⟨⟨by omega, by omega⟩, by omega, ⟨by omega, by omega⟩, ⟨by omega, by omega, by omega⟩, by omega, by omega, ?_⟩
        refine LoopAt.inv (ι := Nat) (T := tab) (fun k => [(53, .c (.int .i64 k))]) (fun k => [.gone, rowsI (M.set s (r.set i (vcell l nx M N s i k)))])
          (fun k => k ≤ f.length) (fun k => f.length - k) tabOK 0 (Nat.zero_le _) ?_ ?_
        · (simp only [LessC, headSt, dsts, opDsts, resetS, putsS, lessS, lessO, belowS, belowO, AV.below, AObj.below, AC.below, XObj.below, List.set_cons_succ, List.set_cons_zero, List.cons_append, List.nil_append, List.append_nil, List.length_cons, List.length_nil, List.all_cons, List.all_nil, Nat.reduceLT, Int.cast_ofNat_Int, AV.c.injEq, true_and, and_true, and_self, reduceCtorEq, Bool.and_true, Nat.zero_add, Nat.reduceAdd, Nat.reduceLeDiff, eq_self, decide_true, or_true] <;> try omega)
          first
            | rw [hv0, if_pos (by omega)]
            | (rw [hv0, if_neg (by omega)]; rfl)
        intro k hk
        have hb1 := hvb k hk
        simp only [VCp, headSt, dsts, opDsts, resetS, putsS, VC_skip, VC_region, VC_draw, VC_seq, VC_cond, VC_block, VC_exit, VC_ret, aops_nil, aops_cons, put_some, qop, isQuiet, ASt.eval, AV.need, AV.ac, qbin, binInt, isScalar, avOf, acOf, eInt, List.getD_cons_succ, List.getD_cons_zero, List.set_cons_succ, List.set_cons_zero, List.cons_append, List.nil_append, List.append_nil, decide_eq_true_eq, decide_eq_false_iff_not, Int.not_lt, true_and, and_self, reduceCtorEq, if_true, if_false, Nat.reduceEqDiff, eq_self, Nat.succ_ne_self, tab_3]
        refine ⟨fun h => ?_, fun h => ?_⟩
        · have hk' : k < f.length := by omega
          have e1 := i64_bit (m := s) (k := k) (by omega) (by omega)
          have e2 := i64_one (k := k) (by omega)
          have e3 := i64_or (a := s) (b := 2 ^ k) (by omega) (Nat.pow_lt_pow_right (by omega) (by omega))
          simp only [e1]
          have hnext2 : vcell l nx M N s i (k + 1) = if s.testBit k = true then vcell l nx M N s i k else maxI (vcell l nx M N s i k) (at2 nx i k + at2 M (s ||| 2 ^ k) k) := rfl
          refine ⟨by omega, fun hb => ?_, fun hb => ?_⟩
          · have hbit : s.testBit k = false := by
              cases hbb : s.testBit k with
              | false => rfl
              | true => rw [hbb] at hb; simp at hb
            have hgt := or_gt hbit
            have hlt : s ||| 2 ^ k < N := by rw [← hNN]; exact or_lt hsn hk'
            have hrow := hrl (s ||| 2 ^ k) (by omega) hlt
            have hnb := ht.nb i k hi' hk'
            have hMb := hbd (s ||| 2 ^ k) k (by omega) hlt hk'
            have g2 : ∀ q : List Int, List.getD (List.set M s q) (s ||| 2 ^ k) [] = List.getD M (s ||| 2 ^ k) [] := fun q => set_get_ne (by omega)
            have g3 : (r.set i (vcell l nx M N s i k)).getD i 0 = vcell l nx M N s i k := set_get (by omega)
            have e4 : (nx.getD i []).getD k 0 = at2 nx i k := rfl
            have e5 : (List.getD M (s ||| 2 ^ k) []).getD k 0 = at2 M (s ||| 2 ^ k) k := rfl
            have e6 : IntKind.i64.wrap (at2 nx i k + at2 M (s ||| 2 ^ k) k) = at2 nx i k + at2 M (s ||| 2 ^ k) k := i64_in _ (by unfold low at hMb; omega)
            have e7 : (if at2 nx i k + at2 M (s ||| 2 ^ k) k > vcell l nx M N s i k then at2 nx i k + at2 M (s ||| 2 ^ k) k else vcell l nx M N s i k) = vcell l nx M N s i (k + 1) := by
              rw [hnext2, if_neg (c := s.testBit k = true) (by rw [hbit]; decide)]
              rfl
            refine DrawAt.plan tabOK mixed (.take 0 true (.take 1 true (.take 2 true (.take 3 true (.take 4 true (.take 5 true (.take 6 true (.take 7 true (.take 8 true (.take 9 true (.take 10 true (.take 11 true (.take 12 true (.take 13 true (.take 14 true (.take 15 true (.take 16 true (.take 17 true (.take 18 true (.take 19 true (.take 20 true (.take 21 true (.take 22 true (.take 23 true (.take 24 true (.take 25 true (.take 26 true (.take 27 true (.take 28 true (.take 29 true (.take 30 true (.take 31 true (.take 32 true (.alt 33 .done .stop)))))))))))))))))))))))))))))))))) (by decide +kernel) ?_
            simp only [xstore, avc_done, avc_stop, avc_take, avc_alt, qstep, lstep, ownLoad, VC_region, aops_nil, aops_cons, put_some, put_none, aop, qop, isQuiet, ASt.eval, ASt.ev, AV.strip, AV.need, AV.ac, AV.cells, AV.isTup, qbin, binInt, qmax, qindexAddr, qfieldAddr, qload, splice, ned, ASt.setObj, ASt.obj, frzRefs, dvs, AC.dv, DV.ac, leD, leD1, ofCells, TI.isAgg, isScalar, avOf, acOf, eInt, eList, ePair, List.getD_cons_succ, List.getD_cons_zero, List.set_cons_succ, List.set_cons_zero, List.map_cons, List.map_nil, List.cons_append, List.nil_append, List.append_nil, List.length_cons, List.length_nil, List.drop_succ_cons, List.drop_zero, List.drop_nil, List.take_succ_cons, List.take_zero, List.take_nil, List.headD_cons, List.getElem?_cons_succ, List.getElem?_cons_zero, DV.int.injEq, exists_eq_left', Int.toNat_natCast, List.length_set, true_and, and_true, and_self, not_false_eq_true, Bool.true_eq_false, Nat.zero_add, Nat.le_refl, eq_self, Nat.succ_ne_self, or_true, or_false, tab_3, tab_26, tab_51, tab_53, List.length_set, hlen, g1, g2, g3, hr, List.set_set, e2, e3, e4, e5, e6, e7, hrow, hri2, Int.toNat_natCast]
            refine ⟨by omega, by omega, by omega, by omega, by omega, by omega, by omega, by omega, by omega, by omega, by omega, by omega, by omega, by omega, by omega, by omega, ?_⟩
            refine ⟨k + 1, by omega, by omega, ?_⟩
            (simp only [LessC, lessS, lessO, belowS, belowO, AV.below, AObj.below, AC.below, XObj.below, List.length_cons, List.length_nil, List.all_cons, List.all_nil, Nat.reduceLT, Int.cast_ofNat_Int, Int.natCast_add, AV.c.injEq, AC.int.injEq, true_and, and_true, and_self, reduceCtorEq, Bool.and_true, Nat.zero_add, Nat.reduceAdd, Nat.reduceLeDiff, eq_self, decide_true, or_true, or_false, false_or] <;> try omega)
            all_goals exact i64_in _ (by omega)
          · have hbit : s.testBit k = true := by
              cases hbb : s.testBit k with
              | true => rfl
              | false => rw [hbb] at hb; simp at hb
            rw [if_pos hbit] at hnext2
            refine ⟨k + 1, by omega, by omega, ?_⟩
            rw [hnext2]
            (simp only [LessC, lessS, lessO, belowS, belowO, AV.below, AObj.below, AC.below, XObj.below, List.length_cons, List.length_nil, List.all_cons, List.all_nil, Nat.reduceLT, Int.cast_ofNat_Int, Int.natCast_add, AV.c.injEq, AC.int.injEq, true_and, and_true, and_self, reduceCtorEq, Bool.and_true, Nat.zero_add, Nat.reduceAdd, Nat.reduceLeDiff, eq_self, decide_true, or_true, or_false, false_or] <;> try omega)
            all_goals exact i64_in _ (by omega)
        · have : k = f.length := by omega
          rw [this]
          refine ⟨(i + 1, r.set i (vcell l nx M N s i f.length)), ⟨by show i + 1 ≤ f.length; omega, by simpa using hr, fun i' hi2 => ?_⟩, by show f.length - (i + 1) < f.length - i; omega, ?_⟩
          · show (r.set i (vcell l nx M N s i f.length)).getD i' 0 = _
            by_cases e : i = i'
            · subst e
              exact set_get (by omega)
            · rw [set_get_ne e]
              have hi3 : i' < i + 1 := hi2
              exact hri i' (by omega)
          · (simp only [LessC, lessS, lessO, belowS, belowO, AV.below, AObj.below, AC.below, XObj.below, List.length_cons, List.length_nil, List.all_cons, List.all_nil, Nat.reduceLT, Int.cast_ofNat_Int, Int.natCast_add, AV.c.injEq, AC.int.injEq, true_and, and_true, and_self, reduceCtorEq, Bool.and_true, Nat.zero_add, Nat.reduceAdd, Nat.reduceLeDiff, eq_self, decide_true, or_true, or_false, false_or] <;> try omega)
            exact i64_in _ (by omega)
      · refine LoopAt.inv (ι := Nat) (T := tab) (fun k => [(53, .c (.int .i64 k))]) (fun k => [.gone, rowsI (M.set s (r.set i (vcell l nx M N s i k)))])
          (fun k => k ≤ f.length) (fun k => f.length - k) tabOK 0 (Nat.zero_le _) ?_ ?_
        · (simp only [LessC, headSt, dsts, opDsts, resetS, putsS, lessS, lessO, belowS, belowO, AV.below, AObj.below, AC.below, XObj.below, List.set_cons_succ, List.set_cons_zero, List.cons_append, List.nil_append, List.append_nil, List.length_cons, List.length_nil, List.all_cons, List.all_nil, Int.reduceNeg, Nat.reduceLT, Int.cast_ofNat_Int, AV.c.injEq, true_and, and_true, and_self, reduceCtorEq, Bool.and_true, Nat.zero_add, Nat.reduceAdd, Nat.reduceLeDiff, eq_self, decide_true, or_true] <;> try omega)
          first
            | rw [hv0, if_pos (by omega)]
            | (rw [hv0, if_neg (by omega)]; rfl)
        intro k hk
        have hb1 := hvb k hk
        simp only [VCp, headSt, dsts, opDsts, resetS, putsS, VC_skip, VC_region, VC_draw, VC_seq, VC_cond, VC_block, VC_exit, VC_ret, aops_nil, aops_cons, put_some, qop, isQuiet, ASt.eval, AV.need, AV.ac, qbin, binInt, isScalar, avOf, acOf, eInt, List.getD_cons_succ, List.getD_cons_zero, List.set_cons_succ, List.set_cons_zero, List.cons_append, List.nil_append, List.append_nil, decide_eq_true_eq, decide_eq_false_iff_not, Int.not_lt, true_and, and_self, reduceCtorEq, if_true, if_false, Nat.reduceEqDiff, eq_self, Nat.succ_ne_self, tab_3]
        refine ⟨fun h => ?_, fun h => ?_⟩
        · have hk' : k < f.length := by omega
          have e1 := i64_bit (m := s) (k := k) (by omega) (by omega)
          have e2 := i64_one (k := k) (by omega)
          have e3 := i64_or (a := s) (b := 2 ^ k) (by omega) (Nat.pow_lt_pow_right (by omega) (by omega))
          simp only [e1]
          have hnext2 : vcell l nx M N s i (k + 1) = if s.testBit k = true then vcell l nx M N s i k else maxI (vcell l nx M N s i k) (at2 nx i k + at2 M (s ||| 2 ^ k) k) := rfl
          refine ⟨by omega, fun hb => ?_, fun hb => ?_⟩
          · have hbit : s.testBit k = false := by
              cases hbb : s.testBit k with
              | false => rfl
              | true => rw [hbb] at hb; simp at hb
            have hgt := or_gt hbit
            have hlt : s ||| 2 ^ k < N := by rw [← hNN]; exact or_lt hsn hk'
            have hrow := hrl (s ||| 2 ^ k) (by omega) hlt
            have hnb := ht.nb i k hi' hk'
            have hMb := hbd (s ||| 2 ^ k) k (by omega) hlt hk'
            have g2 : ∀ q : List Int, List.getD (List.set M s q) (s ||| 2 ^ k) [] = List.getD M (s ||| 2 ^ k) [] := fun q => set_get_ne (by omega)
            have g3 : (r.set i (vcell l nx M N s i k)).getD i 0 = vcell l nx M N s i k := set_get (by omega)
            have e4 : (nx.getD i []).getD k 0 = at2 nx i k := rfl
            have e5 : (List.getD M (s ||| 2 ^ k) []).getD k 0 = at2 M (s ||| 2 ^ k) k := rfl
            have e6 : IntKind.i64.wrap (at2 nx i k + at2 M (s ||| 2 ^ k) k) = at2 nx i k + at2 M (s ||| 2 ^ k) k := i64_in _ (by unfold low at hMb; omega)
            have e7 : (if at2 nx i k + at2 M (s ||| 2 ^ k) k > vcell l nx M N s i k then at2 nx i k + at2 M (s ||| 2 ^ k) k else vcell l nx M N s i k) = vcell l nx M N s i (k + 1) := by
              rw [hnext2, if_neg (c := s.testBit k = true) (by rw [hbit]; decide)]
              rfl
            refine DrawAt.plan tabOK mixed (.take 0 true (.take 1 true (.take 2 true (.take 3 true (.take 4 true (.take 5 true (.take 6 true (.take 7 true (.take 8 true (.take 9 true (.take 10 true (.take 11 true (.take 12 true (.take 13 true (.take 14 true (.take 15 true (.take 16 true (.take 17 true (.take 18 true (.take 19 true (.take 20 true (.take 21 true (.take 22 true (.take 23 true (.take 24 true (.take 25 true (.take 26 true (.take 27 true (.take 28 true (.take 29 true (.take 30 true (.take 31 true (.take 32 true (.alt 33 .done .stop)))))))))))))))))))))))))))))))))) (by decide +kernel) ?_
            simp only [xstore, avc_done, avc_stop, avc_take, avc_alt, qstep, lstep, ownLoad, VC_region, aops_nil, aops_cons, put_some, put_none, aop, qop, isQuiet, ASt.eval, ASt.ev, AV.strip, AV.need, AV.ac, AV.cells, AV.isTup, qbin, binInt, qmax, qindexAddr, qfieldAddr, qload, splice, ned, ASt.setObj, ASt.obj, frzRefs, dvs, AC.dv, DV.ac, leD, leD1, ofCells, TI.isAgg, isScalar, avOf, acOf, eInt, eList, ePair, List.getD_cons_succ, List.getD_cons_zero, List.set_cons_succ, List.set_cons_zero, List.map_cons, List.map_nil, List.cons_append, List.nil_append, List.append_nil, List.length_cons, List.length_nil, List.drop_succ_cons, List.drop_zero, List.drop_nil, List.take_succ_cons, List.take_zero, List.take_nil, List.headD_cons, List.getElem?_cons_succ, List.getElem?_cons_zero, DV.int.injEq, exists_eq_left', Int.toNat_natCast, List.length_set, true_and, and_true, and_self, not_false_eq_true, Bool.true_eq_false, Nat.zero_add, Nat.le_refl, eq_self, Nat.succ_ne_self, or_true, or_false, tab_3, tab_26, tab_51, tab_53, List.length_set, hlen, g1, g2, g3, hr, List.set_set, e2, e3, e4, e5, e6, e7, hrow, hri2, Int.toNat_natCast]
            refine ⟨by omega, by omega, by omega, by omega, by omega, by omega, by omega, by omega, by omega, by omega, by omega, by omega, by omega, by omega, by omega, by omega, ?_⟩
            refine ⟨k + 1, by omega, by omega, ?_⟩
            (simp only [LessC, lessS, lessO, belowS, belowO, AV.below, AObj.below, AC.below, XObj.below, List.length_cons, List.length_nil, List.all_cons, List.all_nil, Nat.reduceLT, Int.cast_ofNat_Int, Int.natCast_add, AV.c.injEq, AC.int.injEq, true_and, and_true, and_self, reduceCtorEq, Bool.and_true, Nat.zero_add, Nat.reduceAdd, Nat.reduceLeDiff, eq_self, decide_true, or_true, or_false, false_or] <;> try omega)
            all_goals exact i64_in _ (by omega)
          · have hbit : s.testBit k = true := by
              cases hbb : s.testBit k with
              | true => rfl
              | false => rw [hbb] at hb; simp at hb
            rw [if_pos hbit] at hnext2
            refine ⟨k + 1, by omega, by omega, ?_⟩
            rw [hnext2]
            (simp only [LessC, lessS, lessO, belowS, belowO, AV.below, AObj.below, AC.below, XObj.below, List.length_cons, List.length_nil, List.all_cons, List.all_nil, Nat.reduceLT, Int.cast_ofNat_Int, Int.natCast_add, AV.c.injEq, AC.int.injEq, true_and, and_true, and_self, reduceCtorEq, Bool.and_true, Nat.zero_add, Nat.reduceAdd, Nat.reduceLeDiff, eq_self, decide_true, or_true, or_false, false_or] <;> try omega)
            all_goals exact i64_in _ (by omega)
        · have : k = f.length := by omega
          rw [this]
          refine ⟨(i + 1, r.set i (vcell l nx M N s i f.length)), ⟨by show i + 1 ≤ f.length; omega, by simpa using hr, fun i' hi2 => ?_⟩, by show f.length - (i + 1) < f.length - i; omega, ?_⟩
          · show (r.set i (vcell l nx M N s i f.length)).getD i' 0 = _
            by_cases e : i = i'
            · subst e
              exact set_get (by omega)
            · rw [set_get_ne e]
              have hi3 : i' < i + 1 := hi2
              exact hri i' (by omega)
          · (simp only [LessC, lessS, lessO, belowS, belowO, AV.below, AObj.below, AC.below, XObj.below, List.length_cons, List.length_nil, List.all_cons, List.all_nil, Nat.reduceLT, Int.cast_ofNat_Int, Int.natCast_add, AV.c.injEq, AC.int.injEq, true_and, and_true, and_self, reduceCtorEq, Bool.and_true, Nat.zero_add, Nat.reduceAdd, Nat.reduceLeDiff, eq_self, decide_true, or_true, or_false, false_or] <;> try omega)
            exact i64_in _ (by omega)
    · have hif : i = f.length := by omega
      have hre : r = vrow l nx M f.length N s := by
        apply List.ext_getElem (by rw [hr, vrow_len])
        intro i h1 h2
        have h3 := hri i (by omega)
        have h4 := vrow_get (l := l) (nx := nx) (M := M) (N := N) (s := s) (i := i) (n := f.length) (by omega)
        rw [← h4] at h3
        simpa [List.getD, h1, h2] using h3
      refine ⟨j + 1, by omega, by omega, ?_⟩
      rw [hnext, hre]
      (simp only [LessC, lessS, lessO, belowS, belowO, AV.below, AObj.below, AC.below, XObj.below, List.length_cons, List.length_nil, List.all_cons, List.all_nil, Nat.reduceLT, Int.cast_ofNat_Int, Int.natCast_add, AV.c.injEq, AC.int.injEq, true_and, and_true, and_self, reduceCtorEq, Bool.and_true, Nat.zero_add, Nat.reduceAdd, Nat.reduceLeDiff, eq_self, decide_true, or_true, or_false, false_or] <;> try omega)
      rw [i64_in _ (by omega)]
      omega
  · have : j = N := by omega
    subst this
    refine RetAt.keeping [1] (by decide) ?_ ?_ <;> simp only [resOf, tupOf, keepObjs, keepObjs, XObj.amap, ASt.eval, AV.strip, AV.need, AV.map, AObj.map, findIx, AC.ren, List.getD_cons_succ, List.getD_cons_zero, List.map_cons, List.map_nil, true_and, and_self, cond_true, beq_self_eq_true, eq_self]
    rw [hMM]
end Go.Vc.Pc
