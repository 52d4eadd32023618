/- A merge in place: one element on the other side. -/
import Derived.Test.YtcjcfpbbhmhlbaaRF
set_option linter.unusedVariables false
set_option linter.unusedSimpArgs false
namespace Go.Vc.Sn
open Go.Proofs Go.IntWalk Go.Vc
set_option maxRecDepth 100000
set_option maxHeartbeats 16000000 in
theorem sym2_spec {R : F3 → F3 → Prop} (tr : ∀ {x y w : F3}, R x y → R y w → R x w) (p l q : List F3) (y : F3) (a m b : Nat) (hl : p.length + 1 + l.length + q.length ≤ 140737488355328) (ha : a = p.length) (hm : m = p.length + l.length) (hb : b = p.length + l.length + 1) (hl1 : 1 < l.length)
    (hg : ∀ x ∈ l, Gd x) (hgy : Gd y) (hs : Srt R l) (hc : Cross R cF l [y]) :
    ACall Try.prog 54 [.c (.sl 0), .c (.int .i64 a), .c (.int .i64 m), .c (.int .i64 b), .c (.fn 29 [])] [rowF (inD p l y q l.length)] (fun rr os => rr = .tup [] ∧ ∃ s : List F3, os = [rowF (p ++ (s ++ q))] ∧ s.Perm (l ++ [y]) ∧ Srt R s) := by
  subst ha
  have w0 : IntKind.i64.wrap ((m : Int) - (p.length : Int)) = (l.length : Int) := by rw [i64_in _ (by omega)]; omega
  have w00 : IntKind.i64.wrap ((b : Int) - (m : Int)) = 1 := by rw [i64_in _ (by omega)]; omega
  have e0 : ((l.length : Int) = 1) = False := eq_false (by omega)
  have hL := inD_len p l y q
  (refine ACall.of_body (nt := 220) (rs := []) tabOK Try.func54 rfl rfl rfl rfl ?_; simp only [startSt, List.length_cons, List.length_nil, Nat.reduceAdd, Nat.reduceSub, List.replicate_succ, List.replicate_zero, List.cons_append, List.nil_append])
  simp only [VCp, VC_skip, VC_region, VC_seq, VC_cond, VC_block, VC_loop, aops_nil, aops_cons, put_some, qop, isQuiet, ASt.eval, AV.need, AV.ac, qbin, binInt, qconvert, isScalar, avOf, acOf, eInt, List.getD_cons_succ, List.getD_cons_zero, List.set_cons_succ, List.set_cons_zero, Int.reduceLE, decide_eq_true_eq, decide_eq_false_iff_not, Int.not_lt, true_and, and_true, and_self, forall_const, false_implies, Bool.and_true, Bool.false_eq_true, Bool.true_eq_false, eq_self, decide_true, decide_false, tab_3, tab_94, w0, w00, e0]
  refine LoopAt.inv (ι := Nat × Nat) (T := tab) (fun s => [(14, .c (.int .i64 ((p.length : Int) + s.1))), (15, .c (.int .i64 ((p.length : Int) + s.2)))]) (fun s => [rowF (inD p l y q l.length)])
    (fun s => s.1 ≤ s.2 ∧ s.2 ≤ l.length ∧ (∀ x ∈ l.take s.1, R x y) ∧ ∀ x ∈ l.drop s.2, R y x) (fun s => s.2 - s.1) tabOK (0, l.length) ⟨by simp, by simp, (fun y hy => by simp at hy), (fun y hy => by simp at hy)⟩ ?_ ?_
  · (simp only [LessC, headSt, dsts, opDsts, resetS, putsS, lessS, lessO, belowS, belowO, AV.below, AObj.below, AC.below, List.set_cons_succ, List.set_cons_zero, List.cons_append, List.nil_append, List.append_nil, List.length_cons, List.length_nil, List.all_nil, Nat.reduceLT, Int.cast_ofNat_Int, AV.c.injEq, AC.int.injEq, true_and, and_true, and_self, reduceCtorEq, Bool.and_true, Nat.zero_add, Nat.le_refl, eq_self, decide_true, or_true, false_or] <;> try omega)
  rintro ⟨i, j⟩ ⟨h1, h2, h3, h4⟩
  simp only at h1 h2 h3 h4
  have w1 : IntKind.i64.wrap ((p.length : Int) + (i : Int) + ((p.length : Int) + (j : Int))) = (p.length : Int) + (i : Int) + ((p.length : Int) + (j : Int)) := i64_in _ (by omega)
  have w2 : IntKind.u64.wrap ((p.length : Int) + (i : Int) + ((p.length : Int) + (j : Int))) = (p.length : Int) + (i : Int) + ((p.length : Int) + (j : Int)) := u64_in _ (by omega)
  have w3 : IntKind.i64.wrap (((p.length : Int) + (i : Int) + ((p.length : Int) + (j : Int))) / 2) = (p.length : Int) + (((i + j) / 2 : Nat) : Int) := by rw [i64_in _ (by omega)]; omega
  have hh : (i + j) / 2 ≤ j := by omega
  have hh0 : i ≤ (i + j) / 2 := by omega
  have hh1 : i < j → (i + j) / 2 < j := by omega
  generalize (i + j) / 2 = h at *
  simp only [VCp, headSt, dsts, opDsts, resetS, putsS, VC_skip, VC_region, VC_draw, VC_seq, VC_cond, VC_block, VC_loop, VC_exit, aops_nil, aops_cons, put_some, qop, isQuiet, ASt.eval, AV.need, AV.ac, qbin, binInt, qconvert, isScalar, avOf, acOf, eInt, List.getD_cons_succ, List.getD_cons_zero, List.set_cons_succ, List.set_cons_zero, List.cons_append, List.nil_append, List.append_nil, Int.reduceLE, decide_eq_true_eq, decide_eq_false_iff_not, Int.not_lt, true_and, and_self, Bool.and_true, if_true, eq_self, tab_3, tab_94, w1, w2, w3, shr1]
  refine ⟨fun hlt => ?_, fun hge => ?_⟩
  · have hhl : h < l.length := by have := hh1 (by omega); omega
    have g1 : (inD p l y q l.length).getD (p.length + h) (0, 0, 0) = l.getD h (0, 0, 0) := get_mid (A := p ++ l.take h) (C := l.drop (h + 1) ++ y :: q) (by
      unfold inD
      rw [List.take_length, List.drop_length]
      conv => lhs; rw [split_at (0, 0, 0) l hhl]
      simp) (by simp only [List.length_append, List.length_take]; omega)
    have g2 : (inD p l y q l.length).getD m (0, 0, 0) = y := inD_x (by omega) hm
    have hym := mem_get hhl
    have hyg := hg _ hym
    have hyc := hc _ hym y (by simp)
    have hut : R (l.getD h (0, 0, 0)) y → ∀ x ∈ l.take (h + 1), R x y := fun hr => up_take (R := R) tr (0, 0, 0) hs hhl hr
    have hdd : R y (l.getD h (0, 0, 0)) → ∀ x ∈ l.drop h, R y x := fun hr => down_drop (R := R) tr (0, 0, 0) hs hhl hr
    generalize l.getD h (0, 0, 0) = x at *
    have t1 : ((p.length : Int) + (h : Int)).toNat = p.length + h := by omega
    refine DrawAt.plan tabOK mixed (.take 0 true (.take 1 false (.take 2 false (.take 3 false (.take 4 true (.take 5 false (.take 6 false (.take 7 false (.take 8 true (.alt 9 (.take 10 true (.take 11 true .done)) .stop)))))))))) (by decide +kernel) ?_
    simp only [avc_stop, avc_take, avc_alt, qstep, lstep, ownLoad, put_n0, put_some, aop, qop, isQuiet, ASt.eval, ASt.ev, AV.strip, AV.need, AV.ac, AV.isTup, qindexAddr, qload, ned, ASt.obj, DV.ac, ofCells, TI.isAgg, eInt, eList, ePair, List.getD_cons_succ, List.getD_cons_zero, List.set_cons_succ, List.set_cons_zero, List.map_cons, List.map_nil, List.cons_append, List.nil_append, List.append_nil, List.drop_zero, List.take_succ_cons, List.take_nil, List.getElem?_cons_succ, List.getElem?_cons_zero, Int.toNat_natCast, true_and, and_true, and_self, reduceCtorEq, not_false_eq_true, Bool.false_eq_true, Bool.true_eq_false, Nat.zero_add, Nat.le_refl, eq_self, or_true, or_false, tab_62, tab_64, t1, g1, g2]
    refine ⟨⟨by omega, by rw [hL]; omega⟩, by rw [hL]; omega, ⟨by omega, by rw [hL]; omega⟩, by rw [hL]; omega, ?_⟩
    refine CallAt.plain (cmpF_spec hgy hyg) rfl ?_
    rintro rr os ⟨rfl, rfl⟩
    by_cases hf : frac y x < 0
    · have e2 : (frac y x < 0) = True := eq_true hf
      simp only [avc_done, avc_take, qstep, ownLoad, VC_region, VC_cond, aops_nil, aops_cons, put_some, qop, isQuiet, ASt.eval, AV.need, AV.ac, qbin, binInt, qun, AV.map, isScalar, avOf, acOf, AC.ren, giveBack, afterCall, eInt, List.getD_cons_succ, List.getD_cons_zero, List.set_cons_succ, List.set_cons_zero, List.map_nil, List.append_nil, List.length_cons, List.length_nil, List.getElem?_cons_succ, List.getElem?_cons_zero, true_and, and_self, forall_const, false_implies, Bool.false_eq_true, Bool.not_true, Nat.zero_add, eq_self, decide_true, or_true, tab_3, e2]
      refine ⟨(i, h), ⟨hh0, by simp only []; omega, h3, hdd (hyc.1 (by simp [cF, hf]))⟩, by simp only []; omega, ?_⟩
      (simp only [LessC, lessS, lessO, belowS, belowO, AV.below, AObj.below, AC.below, List.length_cons, List.length_nil, List.all_nil, Nat.reduceLT, AV.c.injEq, and_self, reduceCtorEq, Bool.and_true, Nat.zero_add, Nat.le_refl, eq_self, decide_true, or_true, or_false] <;> try omega)
    · have e2 : (frac y x < 0) = False := eq_false hf
      simp only [avc_done, avc_take, qstep, ownLoad, VC_region, VC_cond, aops_nil, aops_cons, put_some, qop, isQuiet, ASt.eval, AV.need, AV.ac, qbin, binInt, qun, AV.map, isScalar, avOf, acOf, AC.ren, giveBack, afterCall, eInt, List.getD_cons_succ, List.getD_cons_zero, List.set_cons_succ, List.set_cons_zero, List.map_nil, List.append_nil, List.length_cons, List.length_nil, List.getElem?_cons_succ, List.getElem?_cons_zero, true_and, and_true, and_self, forall_const, false_implies, Bool.true_eq_false, Bool.not_false, Nat.zero_add, eq_self, decide_false, or_true, tab_3, e2]
      refine ⟨(h + 1, j), ⟨by simp only []; omega, h2, hut (hyc.2 (by simp [cF, hf])), h4⟩, by simp only []; omega, ?_⟩
      (simp only [LessC, lessS, lessO, belowS, belowO, AV.below, AObj.below, AC.below, List.length_cons, List.length_nil, List.all_nil, Nat.reduceLT, Int.cast_ofNat_Int, Int.natCast_add, AV.c.injEq, AC.int.injEq, true_and, and_true, and_self, reduceCtorEq, Bool.and_true, Nat.zero_add, Nat.le_refl, eq_self, decide_true, or_true, or_false, false_or] <;> try omega)
      all_goals (rw [i64_in _ (by omega)]; omega)
  · have hij : i = j := by omega
    subst hij
    refine LoopAt.inv (ι := Nat) (T := tab) (fun k => [(17, .c (.int .i64 ((p.length : Int) + k)))]) (fun k => [rowF (inD p l y q k)]) (fun k => i ≤ k ∧ k ≤ l.length) (fun k => k) tabOK l.length ⟨h2, Nat.le_refl _⟩ ?_ ?_
    · (simp only [LessC, headSt, dsts, opDsts, resetS, putsS, lessS, lessO, belowS, belowO, AV.below, AObj.below, AC.below, List.set_cons_succ, List.set_cons_zero, List.cons_append, List.nil_append, List.append_nil, List.length_cons, List.length_nil, List.all_nil, Nat.reduceLT, AV.c.injEq, AC.int.injEq, true_and, and_true, and_self, reduceCtorEq, Bool.and_true, Nat.zero_add, Nat.le_refl, eq_self, decide_true, or_true, false_or] <;> try omega)
    rintro k ⟨hk0, hk⟩
    cases k with
    | zero =>
      have e1 : ((p.length : Int) + (i : Int) < (p.length : Int) + 0) = False := eq_false (by omega)
      simp only [VCp, headSt, dsts, opDsts, resetS, putsS, VC_skip, VC_region, VC_draw, VC_seq, VC_cond, VC_block, VC_exit, VC_ret, aops_nil, aops_cons, put_some, qop, isQuiet, ASt.eval, AV.need, AV.ac, qbin, binInt, isScalar, eInt, List.getD_cons_succ, List.getD_cons_zero, List.set_cons_succ, List.set_cons_zero, List.cons_append, List.nil_append, List.append_nil, Int.cast_ofNat_Int, true_and, and_self, forall_const, false_implies, Bool.false_eq_true, if_true, eq_self, decide_false, tab_3, e1]
      have : i = 0 := by omega
      subst this
      refine RetAt.of [0] rfl ?_ rfl (by decide) (by decide) ?_ <;> simp only [resOf, tupOf, keepObjs, keepObjs, XObj.amap, AV.map, AObj.map, findIx, AC.ren, List.getD_cons_zero, List.map_cons, List.map_nil, true_and, eq_self]
      refine ⟨y :: l, by unfold inD; simp, (List.perm_append_singleton y l).symm, ins_sorted (k := 0) hs h3 h4⟩
    | succ k =>
      have w5 : IntKind.i64.wrap ((p.length : Int) + ((k : Int) + 1) - 1) = (p.length : Int) + (k : Int) := by rw [i64_in _ (by omega)]; omega
      simp only [VCp, headSt, dsts, opDsts, resetS, putsS, VC_skip, VC_region, VC_draw, VC_seq, VC_cond, VC_block, VC_exit, VC_ret, aops_nil, aops_cons, put_some, qop, isQuiet, ASt.eval, AV.need, AV.ac, qbin, binInt, isScalar, eInt, List.getD_cons_succ, List.getD_cons_zero, List.set_cons_succ, List.set_cons_zero, List.cons_append, List.nil_append, List.append_nil, Int.cast_ofNat_Int, Int.natCast_add, decide_eq_true_eq, decide_eq_false_iff_not, Int.not_lt, true_and, and_self, if_true, eq_self, tab_3]
      refine ⟨fun hlt => ?_, fun hge => ?_⟩
      · have hkr : k < l.length := by omega
        have hL' := hL (k + 1)
        have t1 : ((p.length : Int) + (k : Int)).toNat = p.length + k := by omega
        have t2 : ((p.length : Int) + ((k : Int) + 1)).toNat = p.length + (k + 1) := by omega
        have g1 := inD_x (p := p) (s := l) (x := y) (q := q) (j := k + 1) (by omega) rfl
        have g2 := inD_y (p := p) (x := y) (q := q) hkr rfl
        have g3 := inD_swap (p := p) (x := y) (q := q) hkr rfl (j := p.length + (k + 1)) (by omega)
        generalize l.getD k (0, 0, 0) = x at *
        refine DrawAt.plan tabOK mixed (.take 0 true (.take 1 true (.take 2 false (.take 3 false (.take 4 false (.take 5 true (.take 6 true (.take 7 true (.take 8 true (.take 9 true (.take 10 false (.take 11 false (.take 12 false (.take 13 true (.take 14 true (.alt 15 (.take 16 true (.alt 17 .done .stop)) .stop)))))))))))))))) (by decide +kernel) ?_
        simp only [avc_done, avc_stop, avc_take, avc_alt, qstep, lstep, ownLoad, VC_region, aops_nil, aops_cons, put_some, put_none, aop, qop, isQuiet, ASt.eval, ASt.ev, AV.strip, AV.need, AV.ac, AV.cells, AV.isTup, qbin, binInt, qindexAddr, qload, splice, ned, astore, ASt.setObj, ASt.obj, frzRefs, dvs, AC.dv, DV.ac, leD, leD1, ofCells, TI.isAgg, isScalar, avOf, acOf, eInt, eList, ePair, List.getD_cons_succ, List.getD_cons_zero, List.set_cons_succ, List.set_cons_zero, List.map_cons, List.map_nil, List.cons_append, List.nil_append, List.append_nil, List.length_cons, List.length_nil, List.drop_succ_cons, List.drop_zero, List.drop_nil, List.take_succ_cons, List.take_zero, List.take_nil, List.getElem?_cons_succ, List.getElem?_cons_zero, DV.int.injEq, List.length_set, true_and, and_true, and_self, reduceCtorEq, not_false_eq_true, Bool.false_eq_true, Bool.true_eq_false, Nat.zero_add, Nat.reduceAdd, Nat.le_refl, eq_self, or_true, or_false, tab_3, tab_62, tab_64, w5, t1, t2, g1, g2]
        refine ⟨⟨by omega, by omega⟩, by omega, ⟨by omega, by omega⟩, by omega, ⟨by omega, by omega⟩, by omega, x, ⟨rfl, rfl, rfl⟩, ⟨by omega, by omega⟩, by omega, y, ⟨rfl, rfl, rfl⟩, k, ⟨by omega, by omega⟩, by omega, ?_⟩
        rw [g3]
        (simp only [LessC, lessS, lessO, belowS, belowO, AV.below, AObj.below, AC.below, List.length_cons, List.length_nil, List.all_nil, Nat.reduceLT, AV.c.injEq, and_self, reduceCtorEq, Bool.and_true, Nat.zero_add, Nat.le_refl, eq_self, decide_true, or_true, or_false] <;> try omega)
      · have : k + 1 = i := by omega
        subst this
        refine RetAt.of [0] rfl ?_ rfl (by decide) (by decide) ?_ <;> simp only [resOf, tupOf, keepObjs, keepObjs, XObj.amap, AV.map, AObj.map, findIx, AC.ren, List.getD_cons_zero, List.map_cons, List.map_nil, true_and, eq_self]
        refine ⟨l.take (k + 1) ++ y :: l.drop (k + 1), ?_, (ins_perm l (k + 1) y).trans (List.perm_append_singleton y l).symm, ins_sorted hs h3 h4⟩
        unfold inD
        simp
end Go.Vc.Sn
