/- What is unpacked is packed as the same bytes; places and pages. -/
import Derived.Test.YtmikejeohdleeaaDoorKJ
import Derived.Test.YtmikejeohdleeaaDoorKK0
set_option linter.unusedVariables false
set_option linter.unusedSimpArgs false
namespace Go.Vc.Sb
open Go.Proofs Go.IntWalk
set_option maxRecDepth 100000
structure Hold (A : Prop) : Prop where
  get : A
/-- what several branches come to is proved once -/
theorem shareH {A B : Prop} (h : Hold A → B) (k : A) : B := h ⟨k⟩
set_option maxHeartbeats 32000000 in
theorem slogBlocks_spec (b : List Int) (n k : Int) (h0 : b.length ≤ 281474976710656) (hu : ∀ x ∈ b, 0 ≤ x ∧ x ≤ 255) (hn1 : -9223372036854775808 ≤ n) (hn2 : n ≤ 9223372036854775807) (hk1 : -9223372036854775808 ≤ k) (hk2 : k ≤ 9223372036854775807) :
    ACall Tryd.prog 3 [.c (rB b), .c (.int .i64 n), .c (.int .i64 k)] [] (fun r os => r = .c (.bool true) ∧ os = []) := by
  have hpg := pages_spec n k hn1 hn2 hk2
  have hps := packed_spec
  have vs : (verOf b).size = numF b 12 2 := rfl
  (refine ACall.of_body (nt := 137) (rs := [.tmp 6]) tabOK Tryd.func3 rfl rfl rfl rfl ?_; simp only [startSt, List.length_cons, List.length_nil, Nat.reduceAdd, Nat.reduceSub, List.replicate_succ, List.replicate_zero, List.cons_append, List.nil_append])
  simp only [VCp, VC_region, VC_seq, aops_nil, aops_cons, put_some, aop, qop, isQuiet, ASt.eval, AV.need, ned, avOf, acOf, List.set_cons_succ, List.set_cons_zero, List.map_nil, true_and]
  refine CallAt.plain hps rfl ?_
  rintro r os ⟨rfl, rfl⟩
  simp only [VC_skip, VC_region, VC_seq, VC_cond, VC_ret, aops_nil, aops_cons, put_some, aop, qop, isQuiet, ASt.eval, ASt.ev, AV.strip, AV.need, AV.ac, AV.isTup, qun, ned, AV.map, avOf, acOf, AC.ren, giveBack, afterCall, List.getD_cons_succ, List.getD_cons_zero, List.set_cons_succ, List.set_cons_zero, List.map_cons, List.map_nil, List.append_nil, List.length_nil, true_and, and_self, forall_const, false_implies, Bool.false_eq_true, Bool.not_true, eq_self]
  apply shareH
  · intro key
    by_cases cu : wholeF b 78 = true ∧ b.getD 1 0 ≤ 3 ∧ numF b 12 2 ≤ 2048
    · obtain ⟨u1, u2, u3⟩ := cu
      have hl := whole_len u1
      have u0 : 0 ≤ numF b 12 2 := num2 hu (by omega)
      refine CallAt.plain (unpack_ok b u1 u2 u3 u0) rfl ?_
      rintro r os ⟨rfl, rfl⟩
      have hpl : (ptF b 26 (pagesF (numF b 12 2) 64).toNat).length = (pagesF (numF b 12 2) 64).toNat := ptF_len
      have hp : pagesF (numF b 12 2) 64 = (numF b 12 2 + 63) / 64 := by
        unfold pagesF
        split
        · omega
        · rw [Int.tdiv_eq_ediv_of_nonneg (by omega)]
          omega
      have hw : IntKind.i64.wrap (numF b 12 2 + 63) = numF b 12 2 + 63 := i64_in _ (by omega)
      have hd : (numF b 12 2 + 63).tdiv 64 = (numF b 12 2 + 63) / 64 := Int.tdiv_eq_ediv_of_nonneg (by omega)
      have hw2 : IntKind.i64.wrap ((numF b 12 2 + 63) / 64) = (numF b 12 2 + 63) / 64 := i64_in _ (by omega)
      have z1 : (((pagesF (numF b 12 2) 64).toNat : Nat) : Int) = (numF b 12 2 + 63) / 64 := by omega
      have z3 : ((2048 : Int) < numF b 12 2) = False := eq_false (by omega)
      generalize ptF b 26 (pagesF (numF b 12 2) 64).toNat = ps at *
      cases he : eqF (packF (verOf b) ps) b with
      | false =>
        simp only [VC_skip, VC_region, VC_seq, VC_cond, VC_ret, aops_nil, aops_cons, put_some, put_none, aop, qop, isQuiet, ASt.eval, ASt.ev, AV.strip, AV.need, AV.ac, AV.cells, AV.isTup, onG, guardOf, qbin, binInt, qpick, qun, qlen, qfieldAddr, qload, qextract, splice, ned, AC.fits, astore, newObj, ASt.setObj, ASt.obj, AV.map, ofCells, TI.isAgg, isScalar, avOf, acOf, AC.ren, giveBack, afterCall, eInt, eBool, eStr, eList, ePair, List.getD_cons_succ, List.getD_cons_zero, List.set_cons_succ, List.set_cons_zero, List.map_cons, List.map_nil, List.cons_append, List.nil_append, List.append_nil, List.length_cons, List.length_nil, List.drop_succ_cons, List.drop_zero, List.drop_nil, List.take_succ_cons, List.take_zero, List.take_nil, List.headD_cons, List.all_cons, List.all_nil, List.getElem?_cons_succ, List.getElem?_cons_zero, Option.bind_some, Int.reduceEq, implies_true, imp_self, beq_true, true_and, and_true, and_self, forall_const, reduceCtorEq, false_implies, not_false_eq_true, Bool.and_true, Bool.and_false, Bool.false_eq_true, cond_false, Nat.zero_add, Nat.reduceAdd, Nat.reduceLeDiff, Nat.le_refl, eq_self, Nat.succ_ne_self, and_false, false_and, tab_3, tab_26, tab_28]
        refine CallAt.blank 7 48 0 ?_ ?_
        · simp only [blank]
          (simp only [LessC, lessS, lessO, belowS, belowO, AV.below, AC.below, List.replicate_succ, List.replicate_zero, List.cons_append, List.nil_append, List.length_nil, List.drop_succ_cons, List.drop_zero, List.take_succ_cons, List.take_zero, AV.c.injEq, and_self, reduceCtorEq, Bool.and_true, Nat.reduceSub, Nat.le_refl, eq_self, or_true, or_false] <;> try omega)
        simp only [blank, List.replicate_succ, List.replicate_zero, List.cons_append, List.nil_append, List.drop_succ_cons, List.drop_zero, List.take_succ_cons, List.take_zero, Nat.reduceSub]
        exact key.get
      | true =>
        simp only [VC_region, VC_seq, aops_nil, aops_cons, put_some, put_none, aop, qop, isQuiet, ASt.eval, ASt.ev, AV.strip, AV.need, AV.ac, AV.cells, AV.isTup, onG, guardOf, qun, qload, qextract, splice, ned, AC.fits, astore, newObj, ASt.setObj, ASt.obj, AV.map, ofCells, TI.isAgg, AC.ren, giveBack, afterCall, eInt, eBool, eStr, eList, ePair, List.getD_cons_succ, List.getD_cons_zero, List.set_cons_succ, List.set_cons_zero, List.map_cons, List.map_nil, List.cons_append, List.nil_append, List.append_nil, List.length_cons, List.length_nil, List.drop_succ_cons, List.drop_zero, List.drop_nil, List.take_succ_cons, List.take_zero, List.take_nil, List.headD_cons, List.all_cons, List.all_nil, List.getElem?_cons_succ, List.getElem?_cons_zero, Option.bind_some, implies_true, imp_self, true_and, and_true, and_self, forall_const, reduceCtorEq, false_implies, not_false_eq_true, Bool.and_true, Bool.true_eq_false, cond_true, beq_self_eq_true, Nat.zero_add, Nat.reduceAdd, Nat.le_refl, eq_self, and_false, tab_28]
        refine CallAt.plain (pack_spec (verOf b) ps (by omega)) rfl ?_
        rintro r os ⟨rfl, rfl⟩
        simp only [aops_cons, put_some, aop, qop, isQuiet, ASt.eval, ASt.ev, AV.strip, AV.need, AV.ac, AV.isTup, onG, guardOf, qun, ned, AV.map, AObj.map, AC.ren, backIx, giveBack, afterCall, List.getD_cons_succ, List.getD_cons_zero, List.set_cons_succ, List.set_cons_zero, List.map_cons, List.map_nil, List.cons_append, List.nil_append, List.length_cons, List.length_nil, List.getElem?_cons_succ, List.getElem?_cons_zero, List.getElem?_nil, Option.bind_some, implies_true, imp_self, true_and, and_true, and_self, forall_const, Bool.true_eq_false, beq_self_eq_true, Nat.add_zero, Nat.zero_add, Nat.reduceSub, eq_self, and_false]
        refine CallAt.view [1] (equal_spec (packF (verOf b) ps) b) rfl (fun r os h => by obtain ⟨rfl, rfl⟩ := h; exact ⟨trivial, fun _ h => by cases h⟩) ?_
        rintro r os ⟨rfl, rfl⟩
        simp only [VC_skip, VC_region, VC_seq, VC_cond, VC_ret, aops_nil, aops_cons, put_some, aop, qop, isQuiet, ASt.eval, ASt.ev, AV.strip, AV.need, AV.ac, AV.isTup, onG, guardOf, qbin, binInt, qpick, qpick0, qun, qlen, qfieldAddr, qload, ned, ASt.obj, AV.map, ofCells, TI.isAgg, isScalar, avOf, acOf, AC.ren, giveBack, afterCall, eInt, eBool, eStr, eList, ePair, List.getD_cons_succ, List.getD_cons_zero, List.set_cons_succ, List.set_cons_zero, List.map_cons, List.map_nil, List.cons_append, List.nil_append, List.append_nil, List.length_cons, List.length_nil, List.drop_succ_cons, List.drop_zero, List.take_succ_cons, List.take_zero, List.take_nil, List.headD_cons, List.getElem?_cons_succ, List.getElem?_cons_zero, Option.bind_some, Int.reduceEq, implies_true, true_and, and_self, forall_const, false_implies, not_false_eq_true, Bool.and_true, Bool.false_eq_true, Bool.not_true, Bool.not_false, cond_true, cond_false, beq_self_eq_true, Nat.zero_add, Nat.reduceAdd, Nat.reduceLeDiff, Nat.le_refl, eq_self, Nat.succ_ne_self, decide_true, decide_false, tab_3, tab_26, tab_28, he, vs, hw, hd, hw2, hpl, z1, z3]
        refine CallAt.blank 7 48 0 ?_ ?_
        · simp only [blank]
          (simp only [LessC, lessS, lessO, belowS, belowO, AV.below, AC.below, List.replicate_succ, List.replicate_zero, List.cons_append, List.nil_append, List.length_nil, List.drop_succ_cons, List.drop_zero, List.take_succ_cons, List.take_zero, AV.c.injEq, and_self, reduceCtorEq, Bool.and_true, Nat.reduceSub, Nat.le_refl, eq_self, or_true, or_false] <;> try omega)
        simp only [blank, List.replicate_succ, List.replicate_zero, List.cons_append, List.nil_append, List.drop_succ_cons, List.drop_zero, List.take_succ_cons, List.take_zero, Nat.reduceSub]
        exact key.get
    · refine CallAt.plain (unpack_no b h0 cu) rfl ?_
      rintro r os ⟨rfl, rfl⟩
      simp only [VC_skip, VC_region, VC_seq, VC_cond, VC_ret, aops_nil, aops_cons, put_some, put_none, aop, qop, isQuiet, ASt.eval, ASt.ev, AV.strip, AV.need, AV.ac, AV.cells, AV.isTup, onG, guardOf, qbin, binInt, qpick, qun, qlen, qfieldAddr, qload, qextract, splice, ned, AC.fits, astore, newObj, ASt.setObj, ASt.obj, AV.map, ofCells, TI.isAgg, isScalar, avOf, acOf, AC.ren, giveBack, afterCall, eInt, eBool, eStr, eList, ePair, List.getD_cons_succ, List.getD_cons_zero, List.set_cons_succ, List.set_cons_zero, List.map_cons, List.map_nil, List.cons_append, List.nil_append, List.append_nil, List.length_cons, List.length_nil, List.drop_succ_cons, List.drop_zero, List.drop_nil, List.take_succ_cons, List.take_zero, List.take_nil, List.headD_cons, List.all_cons, List.all_nil, List.getElem?_cons_succ, List.getElem?_cons_zero, Option.bind_some, Int.reduceLT, Int.reduceEq, Int.reduceAdd, implies_true, imp_self, beq_true, true_and, and_true, and_self, forall_const, reduceCtorEq, false_implies, not_false_eq_true, Bool.and_true, Bool.and_false, Bool.false_eq_true, cond_false, Nat.zero_add, Nat.reduceAdd, Nat.reduceLeDiff, Nat.le_refl, eq_self, Nat.succ_ne_self, decide_false, and_false, false_and, tab_3, tab_26, tab_28]
      refine CallAt.blank 7 48 0 ?_ ?_
      · simp only [blank]
        (simp only [LessC, lessS, lessO, belowS, belowO, AV.below, AC.below, List.replicate_succ, List.replicate_zero, List.cons_append, List.nil_append, List.length_nil, List.drop_succ_cons, List.drop_zero, List.take_succ_cons, List.take_zero, AV.c.injEq, and_self, reduceCtorEq, Bool.and_true, Nat.reduceSub, Nat.le_refl, eq_self, or_true, or_false] <;> try omega)
      simp only [blank, List.replicate_succ, List.replicate_zero, List.cons_append, List.nil_append, List.drop_succ_cons, List.drop_zero, List.take_succ_cons, List.take_zero, Nat.reduceSub]
      exact key.get
  apply shareH
  · intro key
    by_cases cu : wholeF b 83 = true ∧ b.getD 1 0 ≤ 7
    · obtain ⟨u1, u2⟩ := cu
      have hl := whole_len u1
      have u0 : 0 ≤ b.getD 1 0 := (hu _ (by simp [List.getD, hl])).1
      refine CallAt.plain (unpackS_ok b u1 u2 u0) rfl ?_
      rintro r os ⟨rfl, rfl⟩
      have hpl : (slF b (b.getD 1 0).toNat).length = (b.getD 1 0).toNat := slF_len
      have z1 : ((7 : Int) < (((b.getD 1 0).toNat : Nat) : Int)) = False := eq_false (by omega)
      generalize slF b (b.getD 1 0).toNat = ps at *
      cases he : eqF (packSF (numF b 2 2) ps) b with
      | false =>
        simp only [VC_skip, VC_region, VC_seq, VC_cond, VC_ret, aops_nil, aops_cons, put_some, put_none, aop, qop, isQuiet, ASt.eval, ASt.ev, AV.strip, AV.need, AV.ac, AV.cells, AV.isTup, onG, guardOf, qbin, binInt, qpick, qun, qlen, qfieldAddr, qload, qextract, splice, ned, AC.fits, astore, newObj, ASt.setObj, ASt.obj, AV.map, ofCells, TI.isAgg, isScalar, avOf, acOf, AC.ren, giveBack, afterCall, eInt, eList, ePair, List.getD_cons_succ, List.getD_cons_zero, List.set_cons_succ, List.set_cons_zero, List.map_cons, List.map_nil, List.cons_append, List.nil_append, List.append_nil, List.length_cons, List.length_nil, List.drop_succ_cons, List.drop_zero, List.drop_nil, List.take_succ_cons, List.take_zero, List.take_nil, List.headD_cons, List.all_cons, List.all_nil, List.getElem?_cons_succ, List.getElem?_cons_zero, Option.bind_some, implies_true, imp_self, beq_true, true_and, and_true, and_self, forall_const, reduceCtorEq, false_implies, not_false_eq_true, Bool.and_true, Bool.and_false, Bool.false_eq_true, cond_false, Nat.zero_add, Nat.reduceAdd, Nat.le_refl, eq_self, Nat.succ_ne_self, and_false, false_and, tab_3, tab_33, tab_35]
        refine CallAt.blank 7 67 0 ?_ ?_
        · simp only [blank]
          (simp only [LessC, lessS, lessO, belowS, belowO, AV.below, AC.below, List.replicate_succ, List.replicate_zero, List.cons_append, List.nil_append, List.length_nil, List.drop_succ_cons, List.drop_zero, List.take_succ_cons, List.take_zero, AV.c.injEq, and_self, reduceCtorEq, Bool.and_true, Nat.reduceSub, Nat.le_refl, eq_self, or_true, or_false] <;> try omega)
        simp only [blank, List.replicate_succ, List.replicate_zero, List.cons_append, List.nil_append, List.drop_succ_cons, List.drop_zero, List.take_succ_cons, List.take_zero, Nat.reduceSub]
        exact key.get
      | true =>
        simp only [VC_region, VC_seq, aops_nil, aops_cons, put_some, put_none, aop, qop, isQuiet, ASt.eval, ASt.ev, AV.strip, AV.need, AV.ac, AV.cells, AV.isTup, onG, guardOf, qun, qload, qextract, splice, ned, AC.fits, astore, newObj, ASt.setObj, ASt.obj, AV.map, ofCells, TI.isAgg, AC.ren, giveBack, afterCall, eInt, eList, ePair, List.getD_cons_succ, List.getD_cons_zero, List.set_cons_succ, List.set_cons_zero, List.map_cons, List.map_nil, List.cons_append, List.nil_append, List.append_nil, List.length_cons, List.length_nil, List.drop_succ_cons, List.drop_zero, List.drop_nil, List.take_succ_cons, List.take_zero, List.take_nil, List.headD_cons, List.all_cons, List.all_nil, List.getElem?_cons_succ, List.getElem?_cons_zero, Option.bind_some, implies_true, imp_self, true_and, and_true, and_self, forall_const, reduceCtorEq, false_implies, not_false_eq_true, Bool.and_true, Bool.true_eq_false, cond_true, beq_self_eq_true, Nat.zero_add, Nat.reduceAdd, Nat.le_refl, eq_self, and_false, tab_35]
        refine CallAt.plain (packS_spec (numF b 2 2) ps (by omega)) rfl ?_
        rintro r os ⟨rfl, rfl⟩
        simp only [aops_cons, put_some, aop, qop, isQuiet, ASt.eval, ASt.ev, AV.strip, AV.need, AV.ac, AV.isTup, onG, guardOf, qun, ned, AV.map, AObj.map, AC.ren, backIx, giveBack, afterCall, List.getD_cons_succ, List.getD_cons_zero, List.set_cons_succ, List.set_cons_zero, List.map_cons, List.map_nil, List.cons_append, List.nil_append, List.length_cons, List.length_nil, List.getElem?_cons_succ, List.getElem?_cons_zero, List.getElem?_nil, Option.bind_some, implies_true, imp_self, true_and, and_true, and_self, forall_const, Bool.true_eq_false, beq_self_eq_true, Nat.add_zero, Nat.zero_add, Nat.reduceSub, eq_self, and_false]
        refine CallAt.view [1] (equal_spec (packSF (numF b 2 2) ps) b) rfl (fun r os h => by obtain ⟨rfl, rfl⟩ := h; exact ⟨trivial, fun _ h => by cases h⟩) ?_
        rintro r os ⟨rfl, rfl⟩
        simp only [VC_skip, VC_region, VC_seq, VC_cond, VC_ret, aops_nil, aops_cons, put_some, aop, qop, isQuiet, ASt.eval, ASt.ev, AV.strip, AV.need, AV.ac, AV.isTup, onG, guardOf, qbin, binInt, qpick, qpick0, qun, qlen, qfieldAddr, qload, ned, ASt.obj, AV.map, ofCells, TI.isAgg, isScalar, avOf, acOf, AC.ren, giveBack, afterCall, eInt, eList, ePair, List.getD_cons_succ, List.getD_cons_zero, List.set_cons_succ, List.set_cons_zero, List.map_cons, List.map_nil, List.cons_append, List.nil_append, List.append_nil, List.length_cons, List.length_nil, List.drop_succ_cons, List.drop_zero, List.take_succ_cons, List.take_nil, List.headD_cons, List.getElem?_cons_succ, List.getElem?_cons_zero, Option.bind_some, implies_true, true_and, and_self, forall_const, false_implies, not_false_eq_true, Bool.and_true, Bool.false_eq_true, Bool.not_true, Bool.not_false, cond_true, cond_false, beq_self_eq_true, Nat.zero_add, Nat.reduceAdd, Nat.le_refl, eq_self, Nat.succ_ne_self, decide_false, tab_3, tab_33, tab_35, he, hpl, z1]
        refine CallAt.blank 7 67 0 ?_ ?_
        · simp only [blank]
          (simp only [LessC, lessS, lessO, belowS, belowO, AV.below, AC.below, List.replicate_succ, List.replicate_zero, List.cons_append, List.nil_append, List.length_nil, List.drop_succ_cons, List.drop_zero, List.take_succ_cons, List.take_zero, AV.c.injEq, and_self, reduceCtorEq, Bool.and_true, Nat.reduceSub, Nat.le_refl, eq_self, or_true, or_false] <;> try omega)
        simp only [blank, List.replicate_succ, List.replicate_zero, List.cons_append, List.nil_append, List.drop_succ_cons, List.drop_zero, List.take_succ_cons, List.take_zero, Nat.reduceSub]
        exact key.get
    · refine CallAt.plain (unpackS_no b h0 cu) rfl ?_
      rintro r os ⟨rfl, rfl⟩
      simp only [VC_skip, VC_region, VC_seq, VC_cond, VC_ret, aops_nil, aops_cons, put_some, put_none, aop, qop, isQuiet, ASt.eval, ASt.ev, AV.strip, AV.need, AV.ac, AV.cells, AV.isTup, onG, guardOf, qbin, binInt, qpick, qun, qlen, qfieldAddr, qload, qextract, splice, ned, AC.fits, astore, newObj, ASt.setObj, ASt.obj, AV.map, ofCells, TI.isAgg, isScalar, avOf, acOf, AC.ren, giveBack, afterCall, eInt, eList, ePair, List.getD_cons_succ, List.getD_cons_zero, List.set_cons_succ, List.set_cons_zero, List.map_cons, List.map_nil, List.cons_append, List.nil_append, List.append_nil, List.length_cons, List.length_nil, List.drop_succ_cons, List.drop_zero, List.drop_nil, List.take_succ_cons, List.take_zero, List.take_nil, List.headD_cons, List.all_cons, List.all_nil, List.getElem?_cons_succ, List.getElem?_cons_zero, Option.bind_some, Int.reduceLT, implies_true, imp_self, beq_true, true_and, and_true, and_self, forall_const, reduceCtorEq, false_implies, not_false_eq_true, Bool.and_true, Bool.and_false, Bool.false_eq_true, cond_false, Nat.zero_add, Nat.reduceAdd, Nat.le_refl, eq_self, Nat.succ_ne_self, decide_false, and_false, false_and, tab_3, tab_33, tab_35]
      refine CallAt.blank 7 67 0 ?_ ?_
      · simp only [blank]
        (simp only [LessC, lessS, lessO, belowS, belowO, AV.below, AC.below, List.replicate_succ, List.replicate_zero, List.cons_append, List.nil_append, List.length_nil, List.drop_succ_cons, List.drop_zero, List.take_succ_cons, List.take_zero, AV.c.injEq, and_self, reduceCtorEq, Bool.and_true, Nat.reduceSub, Nat.le_refl, eq_self, or_true, or_false] <;> try omega)
      simp only [blank, List.replicate_succ, List.replicate_zero, List.cons_append, List.nil_append, List.drop_succ_cons, List.drop_zero, List.take_succ_cons, List.take_zero, Nat.reduceSub]
      exact key.get
  apply shareH
  · intro key
    cases cu : wholeF b 67 with
    | true =>
      have hl := whole_len cu
      refine CallAt.plain (unpackP_ok b cu) rfl ?_
      rintro r os ⟨rfl, rfl⟩
      have hpl : (ptF b 4 40).length = 40 := ptF_len
      generalize ptF b 4 40 = ps at *
      cases he : eqF (packPF (numF b 2 2) ps) b with
      | false =>
        simp only [VC_skip, VC_region, VC_seq, VC_cond, VC_ret, aops_nil, aops_cons, put_some, put_none, aop, qop, isQuiet, ASt.eval, ASt.ev, AV.strip, AV.need, AV.ac, AV.cells, AV.isTup, onG, guardOf, qbin, binInt, qpick, qun, qlen, qfieldAddr, qload, qextract, splice, ned, AC.fits, astore, newObj, ASt.setObj, ASt.obj, AV.map, ofCells, TI.isAgg, isScalar, avOf, acOf, AC.ren, giveBack, afterCall, eInt, eList, ePair, List.getD_cons_succ, List.getD_cons_zero, List.set_cons_succ, List.set_cons_zero, List.map_cons, List.map_nil, List.cons_append, List.nil_append, List.append_nil, List.length_cons, List.length_nil, List.drop_succ_cons, List.drop_zero, List.drop_nil, List.take_succ_cons, List.take_zero, List.take_nil, List.headD_cons, List.all_cons, List.all_nil, List.getElem?_cons_succ, List.getElem?_cons_zero, Option.bind_some, implies_true, imp_self, beq_true, true_and, and_true, and_self, forall_const, reduceCtorEq, false_implies, not_false_eq_true, Bool.and_true, Bool.and_false, Bool.false_eq_true, cond_false, Nat.zero_add, Nat.reduceAdd, Nat.le_refl, eq_self, Nat.succ_ne_self, and_false, false_and, tab_3, tab_26, tab_40]
        refine CallAt.blank 7 86 0 ?_ ?_
        · simp only [blank]
          (simp only [LessC, lessS, lessO, belowS, belowO, AV.below, AC.below, List.replicate_succ, List.replicate_zero, List.cons_append, List.nil_append, List.length_nil, List.drop_succ_cons, List.drop_zero, List.take_succ_cons, List.take_zero, AV.c.injEq, and_self, reduceCtorEq, Bool.and_true, Nat.reduceSub, Nat.le_refl, eq_self, or_true, or_false] <;> try omega)
        simp only [blank, List.replicate_succ, List.replicate_zero, List.cons_append, List.nil_append, List.drop_succ_cons, List.drop_zero, List.take_succ_cons, List.take_zero, Nat.reduceSub]
        exact key.get
      | true =>
        simp only [VC_region, VC_seq, aops_nil, aops_cons, put_some, put_none, aop, qop, isQuiet, ASt.eval, ASt.ev, AV.strip, AV.need, AV.ac, AV.cells, AV.isTup, onG, guardOf, qun, qload, qextract, splice, ned, AC.fits, astore, newObj, ASt.setObj, ASt.obj, AV.map, ofCells, TI.isAgg, AC.ren, giveBack, afterCall, eInt, eList, ePair, List.getD_cons_succ, List.getD_cons_zero, List.set_cons_succ, List.set_cons_zero, List.map_cons, List.map_nil, List.cons_append, List.nil_append, List.append_nil, List.length_cons, List.length_nil, List.drop_succ_cons, List.drop_zero, List.drop_nil, List.take_succ_cons, List.take_zero, List.take_nil, List.headD_cons, List.all_cons, List.all_nil, List.getElem?_cons_succ, List.getElem?_cons_zero, Option.bind_some, implies_true, imp_self, true_and, and_true, and_self, forall_const, reduceCtorEq, false_implies, not_false_eq_true, Bool.and_true, Bool.true_eq_false, cond_true, beq_self_eq_true, Nat.zero_add, Nat.reduceAdd, Nat.le_refl, eq_self, and_false, tab_40]
        refine CallAt.plain (packP_spec (numF b 2 2) ps (by omega)) rfl ?_
        rintro r os ⟨rfl, rfl⟩
        simp only [aops_cons, put_some, aop, qop, isQuiet, ASt.eval, ASt.ev, AV.strip, AV.need, AV.ac, AV.isTup, onG, guardOf, qun, ned, AV.map, AObj.map, AC.ren, backIx, giveBack, afterCall, List.getD_cons_succ, List.getD_cons_zero, List.set_cons_succ, List.set_cons_zero, List.map_cons, List.map_nil, List.cons_append, List.nil_append, List.length_cons, List.length_nil, List.getElem?_cons_succ, List.getElem?_cons_zero, List.getElem?_nil, Option.bind_some, implies_true, imp_self, true_and, and_true, and_self, forall_const, Bool.true_eq_false, beq_self_eq_true, Nat.add_zero, Nat.zero_add, Nat.reduceSub, eq_self, and_false]
        refine CallAt.view [1] (equal_spec (packPF (numF b 2 2) ps) b) rfl (fun r os h => by obtain ⟨rfl, rfl⟩ := h; exact ⟨trivial, fun _ h => by cases h⟩) ?_
        rintro r os ⟨rfl, rfl⟩
        simp only [VC_skip, VC_region, VC_seq, VC_cond, VC_ret, aops_nil, aops_cons, put_some, aop, qop, isQuiet, ASt.eval, ASt.ev, AV.strip, AV.need, AV.ac, AV.isTup, onG, guardOf, qbin, binInt, qpick, qpick0, qun, qlen, qfieldAddr, qload, ned, ASt.obj, AV.map, ofCells, TI.isAgg, isScalar, avOf, acOf, AC.ren, giveBack, afterCall, eInt, eList, ePair, List.getD_cons_succ, List.getD_cons_zero, List.set_cons_succ, List.set_cons_zero, List.map_cons, List.map_nil, List.cons_append, List.nil_append, List.append_nil, List.length_cons, List.length_nil, List.drop_succ_cons, List.drop_zero, List.take_succ_cons, List.take_nil, List.headD_cons, List.getElem?_cons_succ, List.getElem?_cons_zero, Option.bind_some, Int.cast_ofNat_Int, implies_true, true_and, and_self, forall_const, false_implies, not_false_eq_true, Bool.and_true, Bool.false_eq_true, Bool.not_true, Bool.not_false, cond_true, cond_false, beq_self_eq_true, Nat.zero_add, Nat.reduceAdd, Nat.le_refl, eq_self, Nat.succ_ne_self, decide_true, tab_3, tab_26, tab_40, he, hpl]
        refine CallAt.blank 7 86 0 ?_ ?_
        · simp only [blank]
          (simp only [LessC, lessS, lessO, belowS, belowO, AV.below, AC.below, List.replicate_succ, List.replicate_zero, List.cons_append, List.nil_append, List.length_nil, List.drop_succ_cons, List.drop_zero, List.take_succ_cons, List.take_zero, AV.c.injEq, and_self, reduceCtorEq, Bool.and_true, Nat.reduceSub, Nat.le_refl, eq_self, or_true, or_false] <;> try omega)
        simp only [blank, List.replicate_succ, List.replicate_zero, List.cons_append, List.nil_append, List.drop_succ_cons, List.drop_zero, List.take_succ_cons, List.take_zero, Nat.reduceSub]
        exact key.get
    | false =>
      refine CallAt.plain (unpackP_no b h0 cu) rfl ?_
      rintro r os ⟨rfl, rfl⟩
      simp only [VC_skip, VC_region, VC_seq, VC_cond, VC_ret, aops_nil, aops_cons, put_some, put_none, aop, qop, isQuiet, ASt.eval, ASt.ev, AV.strip, AV.need, AV.ac, AV.cells, AV.isTup, onG, guardOf, qbin, binInt, qpick, qun, qlen, qfieldAddr, qload, qextract, splice, ned, AC.fits, astore, newObj, ASt.setObj, ASt.obj, AV.map, ofCells, TI.isAgg, isScalar, avOf, acOf, AC.ren, giveBack, afterCall, eInt, eList, ePair, List.getD_cons_succ, List.getD_cons_zero, List.set_cons_succ, List.set_cons_zero, List.map_cons, List.map_nil, List.cons_append, List.nil_append, List.append_nil, List.length_cons, List.length_nil, List.drop_succ_cons, List.drop_zero, List.drop_nil, List.take_succ_cons, List.take_zero, List.take_nil, List.headD_cons, List.all_cons, List.all_nil, List.getElem?_cons_succ, List.getElem?_cons_zero, Option.bind_some, Int.reduceEq, implies_true, imp_self, beq_true, true_and, and_true, and_self, forall_const, reduceCtorEq, false_implies, not_false_eq_true, Bool.and_true, Bool.and_false, Bool.false_eq_true, Bool.not_false, cond_false, Nat.zero_add, Nat.reduceAdd, Nat.le_refl, eq_self, Nat.succ_ne_self, decide_false, and_false, false_and, tab_3, tab_26, tab_40]
      refine CallAt.blank 7 86 0 ?_ ?_
      · simp only [blank]
        (simp only [LessC, lessS, lessO, belowS, belowO, AV.below, AC.below, List.replicate_succ, List.replicate_zero, List.cons_append, List.nil_append, List.length_nil, List.drop_succ_cons, List.drop_zero, List.take_succ_cons, List.take_zero, AV.c.injEq, and_self, reduceCtorEq, Bool.and_true, Nat.reduceSub, Nat.le_refl, eq_self, or_true, or_false] <;> try omega)
      simp only [blank, List.replicate_succ, List.replicate_zero, List.cons_append, List.nil_append, List.drop_succ_cons, List.drop_zero, List.take_succ_cons, List.take_zero, Nat.reduceSub]
      exact key.get
  have hin : (decide (2 ≤ n) && decide (n < 130) && !decide ((IntKind.i64.wrap (n - 2)).tmod 8 = 0)) = decide (2 ≤ n ∧ n < 130 ∧ ¬ (n - 2) % 8 = 0) := by
    by_cases c1 : 2 ≤ n ∧ n < 130
    · rw [i64_in (n - 2) (by omega), Int.tmod_eq_emod_of_nonneg (by omega)]
      simp [c1.1, c1.2]
    · by_cases c2 : 2 ≤ n
      · have c3 : ¬ n < 130 := fun h => c1 ⟨c2, h⟩
        simp [c2, c3]
      · simp [c2]
  refine CallAt.plain (where_spec n) rfl ?_
  rintro r os ⟨g, i, rfl, rfl, hw⟩
  by_cases c : 2 ≤ n ∧ n < 130 ∧ ¬ (n - 2) % 8 = 0
  · have hc : decide (2 ≤ n ∧ n < 130 ∧ ¬ (n - 2) % 8 = 0) = true := decide_eq_true c
    obtain ⟨w1, w2, w3, w4, w5⟩ := hw c
    rw [hc] at hin ⊢
    simp only [VC_region, VC_seq, VC_cond, aops_nil, aops_cons, put_some, aop, qop, isQuiet, ASt.eval, ASt.ev, AV.strip, AV.need, AV.ac, AV.isTup, onG, guardOf, qbin, binInt, binBool, qpick, qpick0, qextract, ned, AV.map, isScalar, avOf, acOf, AC.ren, giveBack, afterCall, eInt, eBool, List.getD_cons_succ, List.getD_cons_zero, List.set_cons_succ, List.set_cons_zero, List.map_cons, List.map_nil, List.append_nil, List.length_cons, List.length_nil, List.headD_cons, List.getElem?_cons_succ, List.getElem?_cons_zero, Option.bind_some, Int.reduceEq, implies_true, imp_self, beq_true, decide_eq_true_eq, Bool.cond_false_right, Bool.and_eq_true, true_and, and_true, and_self, forall_const, not_false_eq_true, Bool.and_true, Bool.true_and, Bool.true_eq_false, Bool.not_true, Bool.not_false, beq_self_eq_true, Nat.zero_add, eq_self, and_false, tab_3, tab_4, hin]
    refine CallAt.plain (at_spec g i w1 w2 w3 w4) rfl ?_
    rintro r os ⟨rfl, rfl⟩
    rw [w5]
    by_cases ck : 0 < n ∧ 0 < k
    · obtain ⟨p1, p2, p3, p4⟩ := pages_law ck.1 ck.2
      have y1 : (0 < n) = True := eq_true ck.1
      have y2 : (0 < k) = True := eq_true ck.2
      have y3 : (k = 0) = False := eq_false (by omega)
      have w6 : IntKind.i64.wrap (n.tdiv k) = n.tdiv k := i64_in _ (by omega)
      by_cases cr : 0 < n.tmod k
      · have y4 : (0 < n.tmod k) = True := eq_true cr
        have w7 : IntKind.i64.wrap (n.tdiv k + 1) = n.tdiv k + 1 := i64_in _ (by have := p4 cr; omega)
        rw [if_pos cr] at p1
        simp only [VC_skip, VC_region, VC_seq, VC_cond, VC_ret, aops_nil, aops_cons, put_some, aop, qop, isQuiet, ASt.eval, ASt.ev, AV.strip, AV.need, AV.ac, AV.isTup, onG, guardOf, qbin, binInt, qpick, qpick0, ned, AV.map, isScalar, avOf, acOf, AC.ren, giveBack, afterCall, eInt, List.getD_cons_succ, List.getD_cons_zero, List.set_cons_succ, List.set_cons_zero, List.map_cons, List.map_nil, List.append_nil, List.length_nil, List.getElem?_cons_succ, List.getElem?_cons_zero, Option.bind_some, implies_true, true_and, and_true, and_self, forall_const, false_implies, not_false_eq_true, Bool.and_true, Bool.false_eq_true, Bool.true_eq_false, Bool.not_true, Bool.not_false, cond_true, cond_false, beq_self_eq_true, eq_self, decide_true, tab_3, y1, y2, y3, y4, w6, w7]
        refine CallAt.plain hpg rfl ?_
        rintro r os ⟨rfl, rfl⟩
        simp only [VC_ret, aops_nil, aops_cons, put_some, qop, isQuiet, ASt.eval, AV.need, AV.ac, qbin, binInt, AV.map, isScalar, AC.ren, giveBack, afterCall, eInt, List.getD_cons_succ, List.getD_cons_zero, List.set_cons_succ, List.set_cons_zero, List.map_nil, List.append_nil, List.length_nil, true_and, and_self, eq_self, decide_true, tab_3, p1]
        (refine RetAt.leaf ?_ ?_ <;> simp only [resOf, tupOf, ASt.eval, AV.strip, AV.need, AV.map, AC.ren, List.getD_cons_succ, List.getD_cons_zero, and_self, eq_self])
      · have y4 : (0 < n.tmod k) = False := eq_false cr
        rw [if_neg cr] at p1
        have p5 : pagesF n k = n.tdiv k := by omega
        simp only [VC_skip, VC_region, VC_seq, VC_cond, VC_ret, aops_nil, aops_cons, put_some, aop, qop, isQuiet, ASt.eval, ASt.ev, AV.strip, AV.need, AV.ac, AV.isTup, onG, guardOf, qbin, binInt, qpick, qpick0, ned, AV.map, isScalar, avOf, acOf, AC.ren, giveBack, afterCall, eInt, List.getD_cons_succ, List.getD_cons_zero, List.set_cons_succ, List.set_cons_zero, List.map_cons, List.map_nil, List.append_nil, List.length_nil, List.getElem?_cons_succ, List.getElem?_cons_zero, Option.bind_some, implies_true, true_and, and_true, and_self, forall_const, false_implies, not_false_eq_true, Bool.and_true, Bool.false_eq_true, Bool.true_eq_false, Bool.not_true, Bool.not_false, cond_true, cond_false, beq_self_eq_true, eq_self, decide_true, decide_false, tab_3, y1, y2, y3, y4, w6]
        refine CallAt.plain hpg rfl ?_
        rintro r os ⟨rfl, rfl⟩
        simp only [VC_ret, aops_nil, aops_cons, put_some, qop, isQuiet, ASt.eval, AV.need, AV.ac, qbin, binInt, AV.map, isScalar, AC.ren, giveBack, afterCall, eInt, List.getD_cons_succ, List.getD_cons_zero, List.set_cons_succ, List.set_cons_zero, List.map_nil, List.append_nil, List.length_nil, true_and, and_self, eq_self, decide_true, tab_3, p5]
        (refine RetAt.leaf ?_ ?_ <;> simp only [resOf, tupOf, ASt.eval, AV.strip, AV.need, AV.map, AC.ren, List.getD_cons_succ, List.getD_cons_zero, and_self, eq_self])
    · have p5 := pages_none ck
      by_cases c1 : 0 < n
      · have y1 : (0 < n) = True := eq_true c1
        have y2 : (0 < k) = False := eq_false fun h => ck ⟨c1, h⟩
        simp only [VC_skip, VC_region, VC_seq, VC_cond, VC_ret, aops_nil, aops_cons, put_some, aop, qop, isQuiet, ASt.eval, ASt.ev, AV.strip, AV.need, AV.ac, AV.isTup, onG, guardOf, qbin, binInt, qpick, qpick0, ned, AV.map, isScalar, avOf, acOf, AC.ren, giveBack, afterCall, eInt, List.getD_cons_succ, List.getD_cons_zero, List.set_cons_succ, List.set_cons_zero, List.map_cons, List.map_nil, List.append_nil, List.length_nil, List.getElem?_cons_succ, List.getElem?_cons_zero, Option.bind_some, implies_true, decide_eq_true_eq, decide_eq_false_iff_not, Int.not_lt, true_and, and_self, forall_const, false_implies, Bool.and_true, Bool.false_eq_true, Bool.not_true, Bool.not_false, cond_true, cond_false, beq_self_eq_true, eq_self, decide_true, decide_false, tab_3, y1, y2]
        refine CallAt.plain hpg rfl ?_
        rintro r os ⟨rfl, rfl⟩
        simp only [VC_ret, aops_nil, aops_cons, put_some, qop, isQuiet, ASt.eval, AV.need, AV.ac, qbin, binInt, AV.map, isScalar, AC.ren, giveBack, afterCall, eInt, List.getD_cons_succ, List.getD_cons_zero, List.set_cons_succ, List.set_cons_zero, List.map_nil, List.append_nil, List.length_nil, true_and, and_self, eq_self, decide_true, tab_3, p5]
        (refine RetAt.leaf ?_ ?_ <;> simp only [resOf, tupOf, ASt.eval, AV.strip, AV.need, AV.map, AC.ren, List.getD_cons_succ, List.getD_cons_zero, and_self, eq_self])
      · have y1 : (0 < n) = False := eq_false c1
        simp only [VC_skip, VC_region, VC_seq, VC_cond, VC_ret, aops_nil, aops_cons, put_some, aop, qop, isQuiet, ASt.eval, ASt.ev, AV.strip, AV.need, AV.ac, AV.isTup, onG, guardOf, qbin, binInt, qpick, qpick0, ned, AV.map, isScalar, avOf, acOf, AC.ren, giveBack, afterCall, eInt, List.getD_cons_succ, List.getD_cons_zero, List.set_cons_succ, List.set_cons_zero, List.map_cons, List.map_nil, List.append_nil, List.length_nil, List.getElem?_cons_succ, List.getElem?_cons_zero, Option.bind_some, implies_true, imp_self, beq_true, decide_eq_true_eq, decide_eq_false_iff_not, Int.not_lt, true_and, and_self, forall_const, false_implies, Bool.and_true, Bool.and_false, Bool.false_eq_true, Bool.not_true, Bool.not_false, cond_true, cond_false, beq_self_eq_true, eq_self, decide_true, decide_false, tab_3, y1]
        refine CallAt.plain hpg rfl ?_
        rintro r os ⟨rfl, rfl⟩
        simp only [VC_ret, aops_nil, aops_cons, put_some, qop, isQuiet, ASt.eval, AV.need, AV.ac, qbin, binInt, AV.map, isScalar, AC.ren, giveBack, afterCall, eInt, List.getD_cons_succ, List.getD_cons_zero, List.set_cons_succ, List.set_cons_zero, List.map_nil, List.append_nil, List.length_nil, true_and, and_self, eq_self, decide_true, tab_3, p5]
        (refine RetAt.leaf ?_ ?_ <;> simp only [resOf, tupOf, ASt.eval, AV.strip, AV.need, AV.map, AC.ren, List.getD_cons_succ, List.getD_cons_zero, and_self, eq_self])
  · have hc : decide (2 ≤ n ∧ n < 130 ∧ ¬ (n - 2) % 8 = 0) = false := decide_eq_false c
    rw [hc] at hin ⊢
    by_cases ck : 0 < n ∧ 0 < k
    · obtain ⟨p1, p2, p3, p4⟩ := pages_law ck.1 ck.2
      have y1 : (0 < n) = True := eq_true ck.1
      have y2 : (0 < k) = True := eq_true ck.2
      have y3 : (k = 0) = False := eq_false (by omega)
      have w6 : IntKind.i64.wrap (n.tdiv k) = n.tdiv k := i64_in _ (by omega)
      by_cases cr : 0 < n.tmod k
      · have y4 : (0 < n.tmod k) = True := eq_true cr
        have w7 : IntKind.i64.wrap (n.tdiv k + 1) = n.tdiv k + 1 := i64_in _ (by have := p4 cr; omega)
        rw [if_pos cr] at p1
        simp only [VC_skip, VC_region, VC_seq, VC_cond, VC_ret, aops_nil, aops_cons, put_some, aop, qop, isQuiet, ASt.eval, ASt.ev, AV.strip, AV.need, AV.ac, AV.isTup, onG, guardOf, qbin, binInt, binBool, qpick, qpick0, qextract, ned, AV.map, isScalar, avOf, acOf, AC.ren, giveBack, afterCall, eInt, eBool, List.getD_cons_succ, List.getD_cons_zero, List.set_cons_succ, List.set_cons_zero, List.map_cons, List.map_nil, List.append_nil, List.length_cons, List.length_nil, List.headD_cons, List.getElem?_cons_succ, List.getElem?_cons_zero, Option.bind_some, Int.reduceEq, implies_true, imp_self, beq_true, decide_eq_true_eq, Bool.cond_false_right, Bool.and_eq_true, true_and, and_true, and_self, forall_const, false_implies, not_false_eq_true, Bool.and_true, Bool.true_and, Bool.and_false, Bool.false_eq_true, Bool.true_eq_false, Bool.not_true, Bool.not_false, cond_true, cond_false, beq_self_eq_true, Nat.zero_add, eq_self, decide_true, and_false, false_and, tab_3, tab_4, hin, y1, y2, y3, y4, w6, w7]
        refine CallAt.plain hpg rfl ?_
        rintro r os ⟨rfl, rfl⟩
        simp only [VC_ret, aops_nil, aops_cons, put_some, qop, isQuiet, ASt.eval, AV.need, AV.ac, qbin, binInt, AV.map, isScalar, AC.ren, giveBack, afterCall, eInt, List.getD_cons_succ, List.getD_cons_zero, List.set_cons_succ, List.set_cons_zero, List.map_nil, List.append_nil, List.length_nil, true_and, and_self, eq_self, decide_true, tab_3, p1]
        (refine RetAt.leaf ?_ ?_ <;> simp only [resOf, tupOf, ASt.eval, AV.strip, AV.need, AV.map, AC.ren, List.getD_cons_succ, List.getD_cons_zero, and_self, eq_self])
      · have y4 : (0 < n.tmod k) = False := eq_false cr
        rw [if_neg cr] at p1
        have p5 : pagesF n k = n.tdiv k := by omega
        simp only [VC_skip, VC_region, VC_seq, VC_cond, VC_ret, aops_nil, aops_cons, put_some, aop, qop, isQuiet, ASt.eval, ASt.ev, AV.strip, AV.need, AV.ac, AV.isTup, onG, guardOf, qbin, binInt, binBool, qpick, qpick0, qextract, ned, AV.map, isScalar, avOf, acOf, AC.ren, giveBack, afterCall, eInt, eBool, List.getD_cons_succ, List.getD_cons_zero, List.set_cons_succ, List.set_cons_zero, List.map_cons, List.map_nil, List.append_nil, List.length_cons, List.length_nil, List.headD_cons, List.getElem?_cons_succ, List.getElem?_cons_zero, Option.bind_some, Int.reduceEq, implies_true, imp_self, beq_true, decide_eq_true_eq, Bool.cond_false_right, Bool.and_eq_true, true_and, and_true, and_self, forall_const, false_implies, not_false_eq_true, Bool.and_true, Bool.true_and, Bool.and_false, Bool.false_eq_true, Bool.true_eq_false, Bool.not_true, Bool.not_false, cond_true, cond_false, beq_self_eq_true, Nat.zero_add, eq_self, decide_true, decide_false, and_false, false_and, tab_3, tab_4, hin, y1, y2, y3, y4, w6]
        refine CallAt.plain hpg rfl ?_
        rintro r os ⟨rfl, rfl⟩
        simp only [VC_ret, aops_nil, aops_cons, put_some, qop, isQuiet, ASt.eval, AV.need, AV.ac, qbin, binInt, AV.map, isScalar, AC.ren, giveBack, afterCall, eInt, List.getD_cons_succ, List.getD_cons_zero, List.set_cons_succ, List.set_cons_zero, List.map_nil, List.append_nil, List.length_nil, true_and, and_self, eq_self, decide_true, tab_3, p5]
        (refine RetAt.leaf ?_ ?_ <;> simp only [resOf, tupOf, ASt.eval, AV.strip, AV.need, AV.map, AC.ren, List.getD_cons_succ, List.getD_cons_zero, and_self, eq_self])
    · have p5 := pages_none ck
      by_cases c1 : 0 < n
      · have y1 : (0 < n) = True := eq_true c1
        have y2 : (0 < k) = False := eq_false fun h => ck ⟨c1, h⟩
        simp only [VC_skip, VC_region, VC_seq, VC_cond, VC_ret, aops_nil, aops_cons, put_some, aop, qop, isQuiet, ASt.eval, ASt.ev, AV.strip, AV.need, AV.ac, AV.isTup, onG, guardOf, qbin, binInt, binBool, qpick, qpick0, qextract, ned, AV.map, isScalar, avOf, acOf, AC.ren, giveBack, afterCall, eInt, eBool, List.getD_cons_succ, List.getD_cons_zero, List.set_cons_succ, List.set_cons_zero, List.map_cons, List.map_nil, List.append_nil, List.length_cons, List.length_nil, List.headD_cons, List.getElem?_cons_succ, List.getElem?_cons_zero, Option.bind_some, Int.reduceEq, implies_true, imp_self, beq_true, decide_eq_true_eq, decide_eq_false_iff_not, Bool.cond_false_right, Bool.and_eq_true, Int.not_lt, true_and, and_true, and_self, forall_const, false_implies, not_false_eq_true, Bool.and_true, Bool.true_and, Bool.and_false, Bool.false_eq_true, Bool.not_true, Bool.not_false, cond_true, cond_false, beq_self_eq_true, Nat.zero_add, eq_self, decide_true, decide_false, and_false, false_and, tab_3, tab_4, hin, y1, y2]
        refine CallAt.plain hpg rfl ?_
        rintro r os ⟨rfl, rfl⟩
        simp only [VC_ret, aops_nil, aops_cons, put_some, qop, isQuiet, ASt.eval, AV.need, AV.ac, qbin, binInt, AV.map, isScalar, AC.ren, giveBack, afterCall, eInt, List.getD_cons_succ, List.getD_cons_zero, List.set_cons_succ, List.set_cons_zero, List.map_nil, List.append_nil, List.length_nil, true_and, and_self, eq_self, decide_true, tab_3, p5]
        (refine RetAt.leaf ?_ ?_ <;> simp only [resOf, tupOf, ASt.eval, AV.strip, AV.need, AV.map, AC.ren, List.getD_cons_succ, List.getD_cons_zero, and_self, eq_self])
      · have y1 : (0 < n) = False := eq_false c1
        simp only [VC_skip, VC_region, VC_seq, VC_cond, VC_ret, aops_nil, aops_cons, put_some, aop, qop, isQuiet, ASt.eval, ASt.ev, AV.strip, AV.need, AV.ac, AV.isTup, onG, guardOf, qbin, binInt, binBool, qpick, qpick0, qextract, ned, AV.map, isScalar, avOf, acOf, AC.ren, giveBack, afterCall, eInt, eBool, List.getD_cons_succ, List.getD_cons_zero, List.set_cons_succ, List.set_cons_zero, List.map_cons, List.map_nil, List.append_nil, List.length_cons, List.length_nil, List.headD_cons, List.getElem?_cons_succ, List.getElem?_cons_zero, Option.bind_some, Int.reduceEq, implies_true, imp_self, beq_true, decide_eq_true_eq, decide_eq_false_iff_not, Bool.cond_false_right, Bool.and_eq_true, Int.not_lt, true_and, and_true, and_self, forall_const, false_implies, not_false_eq_true, Bool.and_true, Bool.true_and, Bool.and_false, Bool.false_eq_true, Bool.not_true, Bool.not_false, cond_false, beq_self_eq_true, Nat.zero_add, eq_self, decide_false, and_false, false_and, tab_3, tab_4, hin, y1]
        refine CallAt.plain hpg rfl ?_
        rintro r os ⟨rfl, rfl⟩
        simp only [VC_ret, aops_nil, aops_cons, put_some, qop, isQuiet, ASt.eval, AV.need, AV.ac, qbin, binInt, AV.map, isScalar, AC.ren, giveBack, afterCall, eInt, List.getD_cons_succ, List.getD_cons_zero, List.set_cons_succ, List.set_cons_zero, List.map_nil, List.append_nil, List.length_nil, true_and, and_self, eq_self, decide_true, tab_3, p5]
        (refine RetAt.leaf ?_ ?_ <;> simp only [resOf, tupOf, ASt.eval, AV.strip, AV.need, AV.map, AC.ren, List.getD_cons_succ, List.getD_cons_zero, and_self, eq_self])
end Go.Vc.Sb
