/- Check and Weight are as specified. -/
import Derived.Test.YtmikejeohdleeaaPH
set_option linter.unusedVariables false
set_option linter.unusedSimpArgs false
namespace Go.Vc.Pc
open Go.Proofs Go.IntWalk
set_option maxRecDepth 100000
theorem mem_take {o : List Int} {i k : Nat} (h : i < k) (hk : k ≤ o.length) : o.getD i 0 ∈ o.take k := by
  have h1 : i < (o.take k).length := by simp; omega
  have : (o.take k)[i] = o.getD i 0 := by simp [List.getD, show i < o.length by omega]
  rw [← this]
  exact List.getElem_mem h1
theorem midB {f l : List Int} {nx : Mat} (ht : Tame l nx f.length) (hf : ∀ i, i < f.length → -1000000 ≤ f.getD i 0 ∧ f.getD i 0 ≤ 1000000) {o : List Int} : ∀ k : Nat, k ≤ o.length → (∀ x ∈ o.take k, 0 ≤ x ∧ x < (f.length : Int)) →
    -((k : Int) * 1000000) ≤ midW f nx o k ∧ midW f nx o k ≤ (k : Int) * 1000000
  | 0, _, _ => by simp [midW]
  | k + 1, hk, ho => by
    have ih := midB (o := o) ht hf k (by omega) (fun x hx => ho x (by rw [take_next o k 0 (by omega)]; exact List.mem_append_left _ hx))
    have h1 := ho _ (mem_take (o := o) (i := k) (k := k + 1) (by omega) hk)
    have hs : -1000000 ≤ stepW f nx o k ∧ stepW f nx o k ≤ 1000000 := by
      unfold stepW
      split
      · rename_i hz
        rw [hz] at h1
        exact hf _ (by omega)
      · have h2 := ho _ (mem_take (o := o) (i := k - 1) (k := k + 1) (by omega) hk)
        exact ht.nb _ _ (by omega) (by omega)
    unfold midW
    omega
def sumAt (f l : List Int) (nx : Mat) (o : List Int) (i : Nat) : Int := if 0 < i ∧ i = o.length then midW f nx o i + l.getD (o.getD (o.length - 1) 0).toNat 0 else midW f nx o i
set_option maxHeartbeats 8000000 in
theorem pieceWeights_spec (f l : List Int) (nx : List (List Int)) (o : List Int) (h1 : f.length < 9223372036854775807) (h2 : l.length < 9223372036854775807) (h3 : nx.length < 9223372036854775807) (h4 : ∀ r ∈ nx, r.length < 9223372036854775807) (h5 : o.length < 9223372036854775807) :
    ACall Try.prog 6 [tbl f l nx, .c (rI o)] [] (fun r os => r = .c (.bool true) ∧ os = []) := by
  (refine ACall.of_body (nt := 111) (rs := [.tmp 4]) tabOK Try.func6 rfl rfl rfl rfl ?_; simp only [startSt, List.length_cons, List.length_nil, Nat.reduceAdd, Nat.reduceSub, List.replicate_succ, List.replicate_zero, List.cons_append, List.nil_append])
  simp only [VCp, VC_region, VC_seq, aops_nil, aops_cons, put_some, aop, qop, isQuiet, ASt.eval, AV.need, AV.cells, AV.isTup, ned, AC.fits, newObj, avOf, acOf, eInt, eList, ePair, List.getD_cons_zero, List.set_cons_succ, List.set_cons_zero, List.map_nil, List.cons_append, List.nil_append, List.length_cons, List.length_nil, List.all_cons, List.all_nil, true_and, and_self, Bool.and_true, Nat.zero_add, Nat.reduceAdd, eq_self, tab_53]
  refine CallAt.plain ordered_spec rfl ?_
  rintro r os ⟨rfl, rfl⟩
  simp only [VC_skip, VC_region, VC_seq, VC_cond, VC_ret, aops_nil, aops_cons, put_some, aop, qop, isQuiet, ASt.eval, ASt.ev, AV.strip, AV.need, AV.ac, AV.isTup, qun, qload, ned, ASt.obj, AV.map, ofCells, TI.isAgg, avOf, acOf, AC.ren, giveBack, afterCall, eInt, eList, ePair, List.getD_cons_succ, List.getD_cons_zero, List.set_cons_succ, List.set_cons_zero, List.map_cons, List.map_nil, List.cons_append, List.nil_append, List.append_nil, List.length_cons, List.length_nil, List.drop_zero, List.take_succ_cons, List.take_nil, true_and, and_self, forall_const, reduceCtorEq, false_implies, not_false_eq_true, Bool.false_eq_true, Bool.not_true, Nat.zero_add, Nat.reduceAdd, Nat.le_refl, eq_self, tab_53]
  refine CallAt.plain (tableCheck_spec f l nx h1 h2 h3 h4) rfl ?_
  rintro r os ⟨rfl, rfl⟩
  simp only [VC_region, VC_seq, aops_nil, aops_cons, put_some, aop, qop, isQuiet, ASt.eval, ASt.ev, AV.strip, AV.need, AV.ac, AV.isTup, qload, ned, ASt.obj, AV.map, ofCells, TI.isAgg, AC.ren, giveBack, afterCall, eInt, eList, ePair, List.getD_cons_succ, List.getD_cons_zero, List.set_cons_succ, List.set_cons_zero, List.map_cons, List.map_nil, List.cons_append, List.nil_append, List.append_nil, List.length_cons, List.length_nil, List.drop_zero, List.take_succ_cons, List.take_nil, true_and, and_self, reduceCtorEq, not_false_eq_true, Nat.zero_add, Nat.reduceAdd, Nat.le_refl, eq_self, tab_53]
  refine CallAt.plain (weight_spec f l nx o h1 h2 h3 h4 h5) rfl ?_
  rintro r os ⟨rfl, rfl⟩
  simp only [VC_region, VC_seq, aops_nil, aops_cons, put_some, aop, qop, isQuiet, ASt.eval, ASt.ev, AV.strip, AV.need, AV.ac, AV.isTup, qload, qextract, ned, ASt.obj, AV.map, ofCells, TI.isAgg, AC.ren, giveBack, afterCall, eInt, eList, ePair, List.getD_cons_succ, List.getD_cons_zero, List.set_cons_succ, List.set_cons_zero, List.map_cons, List.map_nil, List.cons_append, List.nil_append, List.append_nil, List.length_cons, List.length_nil, List.drop_zero, List.take_succ_cons, List.take_nil, List.headD_cons, List.getElem?_cons_succ, List.getElem?_cons_zero, true_and, and_self, reduceCtorEq, not_false_eq_true, Nat.zero_add, Nat.reduceAdd, Nat.le_refl, eq_self, tab_53]
  refine CallAt.plain (check_spec f l nx h1 h2 h3 h4) rfl ?_
  rintro r os ⟨rfl, rfl⟩
  simp only [kshOf, amakeMap, VC_skip, VC_region, VC_seq, VC_cond, VC_block, VC_loop, VC_ret, aops_nil, aops_cons, put_some, aop, qop, isQuiet, ASt.eval, AV.need, AV.ac, onG, guardOf, qbin, binInt, qpick, qpick0, qlen, qfieldAddr, qload, newObj, ASt.obj, AV.map, ofCells, TI.isAgg, isScalar, avOf, acOf, AC.ren, giveBack, afterCall, eInt, eBool, eList, ePair, List.getD_cons_succ, List.getD_cons_zero, List.set_cons_succ, List.set_cons_zero, List.map_nil, List.cons_append, List.nil_append, List.append_nil, List.length_cons, List.length_nil, List.drop_zero, List.take_succ_cons, List.take_zero, List.headD_cons, List.getElem?_cons_succ, List.getElem?_cons_zero, Option.bind_some, implies_true, imp_self, beq_true, decide_eq_true_eq, decide_eq_false_iff_not, Bool.not_eq_true', Bool.cond_false_right, Bool.and_eq_true, Bool.and_eq_false_iff, true_and, and_self, forall_const, reduceCtorEq, false_implies, not_false_eq_true, Bool.true_and, Bool.false_eq_true, Bool.not_true, Nat.add_zero, Nat.zero_add, Nat.reduceAdd, Nat.reduceLeDiff, eq_self, Nat.succ_ne_self, decide_true, tab_3, tab_4, tab_26, tab_34, tab_53, tab_57]
  by_cases h0 : tchk f l nx = 0
  · have e0 : tchk f l nx = 0 := h0
    by_cases hlen : o.length = f.length
    · have hc : ((o.length : Int) = f.length) := by omega
      simp only [true_and, forall_const, Bool.and_false, Bool.not_true, eq_self, decide_true, or_true, h0, hc]
      refine ⟨fun h => absurd trivial h, ?_⟩
      obtain ⟨hn, ht, hf⟩ := tchk_ok e0
      have hll := ht.ll
      have hnl := ht.nl
      have he : wErr f l nx o = ordE f.length [] o := by unfold wErr; rw [if_neg (by omega), if_neg (by omega)]
      refine LoopAt.fix 0 ?_
      simp only [ASt.fix, AC.fixp, XObj.amap, ASt.setObj, ASt.obj, ASt.map, AV.map, AObj.map, dvs, AC.dv, List.getD_cons_zero, List.set_cons_zero, List.map_cons, List.map_nil, List.drop_zero, cond_true, beq_self_eq_true]
      refine LoopAt.inv (ι := Nat × Nat × List (Nat × List KA × Bool)) (T := tab) (fun x => [(41, .c (.int .i64 x.1)), (5, .c (.int .i64 0)), (9, .c (.int .i64 (sumAt f l nx o x.1)))]) (fun x => [.gone, setO x.2.1 x.2.2])
        (fun x => x.1 ≤ o.length ∧ ordE f.length (o.take x.1) (o.drop x.1) = ordE f.length [] o ∧ SetI x.2.2 (o.take x.1) ∧ ∀ y ∈ o.take x.1, 0 ≤ y ∧ y < (f.length : Int)) (fun x => o.length - x.1) tabOK (0, 0, []) ⟨Nat.zero_le _, rfl, SetI.empty, fun y hy => by simp at hy⟩ ?_ ?_
      · (simp only [LessC, headSt, dsts, opDsts, resetS, putsS, lessS, lessO, belowS, belowO, AV.below, AObj.below, AC.below, XObj.below, List.set_cons_succ, List.set_cons_zero, List.cons_append, List.nil_append, List.append_nil, List.length_cons, List.length_nil, List.all_cons, List.all_nil, Nat.reduceLT, Int.cast_ofNat_Int, AV.c.injEq, AC.int.injEq, true_and, and_true, and_self, reduceCtorEq, Bool.and_true, Nat.zero_add, Nat.reduceAdd, Nat.reduceLeDiff, eq_self, decide_true, or_true, false_or] <;> try omega)
        simp [sumAt, midW]
      rintro ⟨i, clock, m⟩ ⟨hi, hg, hm, hb⟩
      have hget := hm.get (o.getD i 0)
      simp only [VCp, headSt, dsts, opDsts, resetS, putsS, qlookup, lookRes, keyOf, kshOf, encIs, AV.isA, amapUpdate, VC_skip, VC_region, VC_draw, VC_seq, VC_cond, VC_block, VC_exit, VC_ret, aops_nil, aops_cons, put_some, put_none, aop, qop, isQuiet, ASt.eval, ASt.ev, AV.strip, AV.need, AV.ac, AV.cells, AV.isTup, onG, guardOf, qbin, binInt, qpick, qpick0, qindexAddr, qfieldAddr, qload, ned, ASt.setObj, ASt.obj, frzRefs, dvs, AC.dv, DV.ac, leD, leD1, ofCells, TI.isAgg, isScalar, avOf, acOf, eInt, eBool, eList, ePair, List.getD_cons_succ, List.getD_cons_zero, List.set_cons_succ, List.set_cons_zero, List.map_cons, List.map_nil, List.cons_append, List.nil_append, List.append_nil, List.length_cons, List.length_nil, List.drop_succ_cons, List.drop_zero, List.take_succ_cons, List.take_zero, List.take_nil, List.headD_cons, List.getElem?_cons_succ, List.getElem?_cons_zero, Option.bind_some, Int.reduceEq, ↓ex_rfl, heq_eq_eq, DV.bool.injEq, exists_eq_left', Int.toNat_natCast, implies_true, imp_self, beq_false, beq_true, decide_eq_true_eq, decide_eq_false_iff_not, Bool.not_eq_true', Bool.cond_true_left, Bool.cond_false_right, Bool.or_eq_true, Bool.or_eq_false_iff, Int.not_lt, Int.not_le, true_and, and_true, and_self, forall_const, reduceCtorEq, false_implies, not_false_eq_true, Bool.true_and, Bool.false_eq_true, Bool.true_eq_false, Bool.not_true, Bool.not_false, if_true, if_false, Nat.zero_add, Nat.reduceAdd, Nat.reduceLeDiff, Nat.le_refl, eq_self, Nat.succ_ne_self, decide_true, decide_false, tab_3, tab_4, tab_26, tab_34, tab_53, tab_57] at hi hg hm hget hb ⊢
      simp only [hget, decide_eq_true_eq, decide_eq_false_iff_not]
      have b1 := midB ht hf i hi hb
      refine ⟨fun h => ?_, fun h => ?_⟩
      · have hi' : i < o.length := by omega
        have hsi : sumAt f l nx o i = midW f nx o i := if_neg (by omega)
        rw [ordE_step hi'] at hg
        rw [hsi]
        refine ⟨⟨by omega, by omega⟩, fun hx => ?_, fun hx => ⟨fun hd => ?_, fun hd => ?_⟩⟩
        · rw [if_pos (by omega)] at hg
          have e1 : wErr f l nx o = 4 := by rw [he, ← hg]
          have e2 : wRes f l nx o = 0 := by unfold wRes; rw [e1, if_pos (by decide)]
          rw [e1, e2]
          simp only [Bool.and_true, eq_self, decide_true]
          (refine RetAt.leaf ?_ ?_ <;> simp only [resOf, tupOf, ASt.eval, AV.strip, AV.need, AV.map, AC.ren, List.getD_cons_succ, List.getD_cons_zero, and_self, eq_self])
        · rw [if_neg (by omega), if_pos hd] at hg
          have e1 : wErr f l nx o = 7 := by rw [he, ← hg]
          have e2 : wRes f l nx o = 0 := by unfold wRes; rw [e1, if_pos (by decide)]
          rw [e1, e2]
          simp only [Bool.and_true, eq_self, decide_true]
          (refine RetAt.leaf ?_ ?_ <;> simp only [resOf, tupOf, ASt.eval, AV.strip, AV.need, AV.map, AC.ren, List.getD_cons_succ, List.getD_cons_zero, and_self, eq_self])
        · rw [if_neg (by omega), if_neg hd] at hg
          have hxr : 0 ≤ o.getD i 0 ∧ o.getD i 0 < (f.length : Int) := by omega
          have hb' : ∀ y ∈ o.take (i + 1), 0 ≤ y ∧ y < (f.length : Int) := fun y hy => by
            rw [take_next o i 0 hi'] at hy
            rcases List.mem_append.1 hy with hy | hy
            · exact hb y hy
            · simp only [List.mem_singleton] at hy
              subst hy
              exact hxr
          have hm' := hm.put clock (o.getD i 0)
          rw [← take_next o i 0 hi'] at hm'
          have b2 := midB ht hf (i + 1) hi' hb'
          have a1 := hf (o.getD i 0).toNat (by omega)
          have a2 := ht.lb (o.getD i 0).toNat (by omega)
          have w0 : IntKind.i64.wrap ((f.length : Int) - 1) = (f.length : Int) - 1 := i64_in _ (by omega)
          have hR : (i + 1) ≤ o.length ∧ ordE f.length (o.take (i + 1)) (o.drop (i + 1)) = ordE f.length [] o ∧ SetI (mput clock m [.int .i64 (o.getD i 0)] true) (o.take (i + 1)) ∧ ∀ y ∈ o.take (i + 1), 0 ≤ y ∧ y < (f.length : Int) := ⟨hi', hg, hm', hb'⟩
          have hμ : o.length - (i + 1) < o.length - i := by omega
          have hms : midW f nx o (i + 1) = midW f nx o i + stepW f nx o i := rfl
          have hsl : i = o.length - 1 → sumAt f l nx o (i + 1) = midW f nx o (i + 1) + l.getD (o.getD i 0).toNat 0 := fun e => by
            unfold sumAt
            rw [if_pos ⟨by omega, by omega⟩, ← e]
          have hsn : ¬ i = o.length - 1 → sumAt f l nx o (i + 1) = midW f nx o (i + 1) := fun e => by
            unfold sumAt
            rw [if_neg (by omega)]
          have wl : IntKind.i64.wrap (midW f nx o (i + 1) + l.getD (o.getD i 0).toNat 0) = midW f nx o (i + 1) + l.getD (o.getD i 0).toNat 0 := i64_in _ (by omega)
          have wi : IntKind.i64.wrap ((i : Int) + 1) = i + 1 := i64_in _ (by omega)
          simp only [w0]
          refine ⟨fun hz => ?_, fun hz => ?_⟩
          · have q1 : IntKind.i64.wrap (midW f nx o i + f.getD (o.getD i 0).toNat 0) = midW f nx o (i + 1) := by
              have e : stepW f nx o i = f.getD (o.getD i 0).toNat 0 := by
                have hz' : i = 0 := by omega
                subst hz'
                rfl
              rw [hms, e] at b2 ⊢
              exact i64_in _ (by omega)
            simp only [q1]
            refine ⟨by omega, fun hl => ⟨by omega, (i + 1, mtick clock m [.int .i64 (o.getD i 0)], mput clock m [.int .i64 (o.getD i 0)] true), hR, hμ, ?_⟩, fun hl => ⟨(i + 1, mtick clock m [.int .i64 (o.getD i 0)], mput clock m [.int .i64 (o.getD i 0)] true), hR, hμ, ?_⟩⟩
            · dsimp only
              rw [hsl (by omega)]
              (simp only [LessC, lessS, lessO, belowS, belowO, AV.below, AObj.below, AC.below, XObj.below, List.length_cons, List.length_nil, List.all_cons, List.all_nil, Nat.reduceLT, Int.cast_ofNat_Int, Int.natCast_add, AV.c.injEq, AC.int.injEq, true_and, and_true, and_self, reduceCtorEq, Bool.and_true, Nat.zero_add, Nat.reduceAdd, Nat.reduceLeDiff, eq_self, decide_true, or_true, or_false, false_or] <;> try omega)
              all_goals exact ⟨wl, wi⟩
            · dsimp only
              rw [hsn (by omega)]
              (simp only [LessC, lessS, lessO, belowS, belowO, AV.below, AObj.below, AC.below, XObj.below, List.length_cons, List.length_nil, List.all_cons, List.all_nil, Nat.reduceLT, Int.cast_ofNat_Int, Int.natCast_add, AV.c.injEq, AC.int.injEq, true_and, and_true, and_self, reduceCtorEq, Bool.and_true, Nat.zero_add, Nat.reduceAdd, Nat.reduceLeDiff, eq_self, decide_true, or_true, or_false, false_or] <;> try omega)
          · have hxp := hb' _ (mem_take (o := o) (i := i - 1) (k := i + 1) (by omega) hi')
            have r1 := ht.rl (o.getD (i - 1) 0).toNat (by omega)
            have w3 : IntKind.i64.wrap ((i : Int) - 1) = ((i - 1 : Nat) : Int) := by rw [i64_in _ (by omega)]; omega
            have e5 : (nx.getD (o.getD (i - 1) 0).toNat []).getD (o.getD i 0).toNat 0 = at2 nx (o.getD (i - 1) 0).toNat (o.getD i 0).toNat := rfl
            have q1 : IntKind.i64.wrap (midW f nx o i + at2 nx (o.getD (i - 1) 0).toNat (o.getD i 0).toNat) = midW f nx o (i + 1) := by
              have e : stepW f nx o i = at2 nx (o.getD (i - 1) 0).toNat (o.getD i 0).toNat := if_neg (by omega)
              rw [hms, e] at b2 ⊢
              exact i64_in _ (by omega)
            refine DrawAt.plan tabOK mixed (.take 0 true (.take 1 true (.take 2 true (.take 3 true (.take 4 true (.take 5 true (.take 6 true (.take 7 true (.take 8 true (.take 9 true (.take 10 true (.take 11 true (.take 12 true (.take 13 true (.take 14 true .done))))))))))))))) (by decide +kernel) ?_
            simp only [avc_done, avc_take, qstep, ownLoad, VC_skip, VC_region, VC_seq, VC_cond, aops_nil, aops_cons, put_some, qop, isQuiet, ASt.eval, AV.need, AV.ac, qbin, binInt, qindexAddr, qfieldAddr, qload, DV.ac, ofCells, TI.isAgg, isScalar, avOf, acOf, eInt, eList, ePair, List.getD_cons_succ, List.getD_cons_zero, List.set_cons_succ, List.set_cons_zero, List.map_cons, List.map_nil, List.cons_append, List.nil_append, List.length_cons, List.length_nil, List.drop_succ_cons, List.drop_zero, List.take_succ_cons, List.take_zero, List.take_nil, List.headD_cons, List.getElem?_cons_succ, List.getElem?_cons_zero, Int.toNat_natCast, decide_eq_true_eq, decide_eq_false_iff_not, true_and, and_self, not_false_eq_true, Nat.zero_add, Nat.reduceAdd, Nat.reduceLeDiff, Nat.le_refl, eq_self, Nat.succ_ne_self, or_true, tab_3, tab_26, tab_51, tab_53, w3, w0, e5, r1, q1, Int.toNat_natCast]
            refine ⟨⟨by omega, by omega⟩, ⟨by omega, by omega⟩, ⟨by omega, by omega⟩, fun hl => ⟨⟨by omega, by omega⟩, (i + 1, mtick clock m [.int .i64 (o.getD i 0)], mput clock m [.int .i64 (o.getD i 0)] true), hR, hμ, ?_⟩, fun hl => ⟨(i + 1, mtick clock m [.int .i64 (o.getD i 0)], mput clock m [.int .i64 (o.getD i 0)] true), hR, hμ, ?_⟩⟩
            · dsimp only
              rw [hsl (by omega)]
              (simp only [LessC, lessS, lessO, belowS, belowO, AV.below, AObj.below, AC.below, XObj.below, List.length_cons, List.length_nil, List.all_cons, List.all_nil, Nat.reduceLT, Int.cast_ofNat_Int, Int.natCast_add, AV.c.injEq, AC.int.injEq, true_and, and_true, and_self, reduceCtorEq, Bool.and_true, Nat.zero_add, Nat.reduceAdd, Nat.reduceLeDiff, eq_self, decide_true, or_true, or_false, false_or] <;> try omega)
              all_goals exact ⟨wl, wi⟩
            · dsimp only
              rw [hsn (by omega)]
              (simp only [LessC, lessS, lessO, belowS, belowO, AV.below, AObj.below, AC.below, XObj.below, List.length_cons, List.length_nil, List.all_cons, List.all_nil, Nat.reduceLT, Int.cast_ofNat_Int, Int.natCast_add, AV.c.injEq, AC.int.injEq, true_and, and_true, and_self, reduceCtorEq, Bool.and_true, Nat.zero_add, Nat.reduceAdd, Nat.reduceLeDiff, eq_self, decide_true, or_true, or_false, false_or] <;> try omega)
      · have hio : i = o.length := by omega
        have hE : ordE f.length [] o = 0 := by
          rw [hio, List.drop_length] at hg
          exact hg.symm
        have e1 : wErr f l nx o = 0 := by rw [he, hE]
        have e2 : wRes f l nx o = sumAt f l nx o i := by
          unfold wRes sumAt
          rw [e1, if_neg (by decide)]
          by_cases hz : f.length = 0
          · have hi0 : i = 0 := by omega
            rw [if_pos hz, if_neg (by omega), hi0]
            rfl
          · rw [if_neg hz, if_pos ⟨by omega, hio⟩, hio]
            rfl
        rw [e1, e2]
        simp only [Bool.and_true, eq_self, decide_true]
        (refine RetAt.leaf ?_ ?_ <;> simp only [resOf, tupOf, ASt.eval, AV.strip, AV.need, AV.map, AC.ren, List.getD_cons_succ, List.getD_cons_zero, and_self, eq_self])
    · have hc : ¬ ((o.length : Int) = f.length) := by omega
      simp only [and_self, forall_const, not_false_eq_true, Bool.and_true, Bool.true_eq_false, Bool.not_false, eq_self, decide_true, decide_false, or_false, h0, hc]
      have e1 : wErr f l nx o = 15 := by unfold wErr; rw [if_neg (by omega), if_pos hlen]
      have e2 : wRes f l nx o = 0 := by unfold wRes; rw [e1, if_pos (by decide)]
      rw [e1, e2]
      refine ⟨?_, fun h => absurd trivial h⟩
      refine LoopAt.inv (ι := Unit) (T := tab) (fun x => [(41, .c (.int .i64 0)), (5, .c (.int .i64 15)), (9, .c (.int .i64 0))]) (fun x => [.cells 53 (tcells f l nx), setO 0 []]) (fun x => True) (fun x => 0) tabOK () trivial ?_ ?_
      · (simp only [LessC, headSt, dsts, opDsts, resetS, putsS, lessS, lessO, belowS, belowO, AV.below, AObj.below, AC.below, XObj.below, List.set_cons_succ, List.set_cons_zero, List.cons_append, List.nil_append, List.append_nil, List.length_cons, List.length_nil, List.all_cons, List.all_nil, Nat.reduceLT, AV.c.injEq, and_self, reduceCtorEq, Bool.and_true, Nat.zero_add, Nat.reduceAdd, Nat.reduceLeDiff, eq_self, decide_true, or_true] <;> try omega)
      · rintro x -
        simp only [VCp, headSt, dsts, opDsts, resetS, putsS, qlookup, lookRes, keyOf, kshOf, encIs, AV.isA, amapUpdate, VC_skip, VC_region, VC_draw, VC_seq, VC_cond, VC_block, VC_exit, VC_ret, aops_nil, aops_cons, put_some, put_none, aop, qop, isQuiet, ASt.eval, ASt.ev, AV.strip, AV.need, AV.ac, AV.cells, AV.isTup, onG, guardOf, qbin, binInt, qpick, qpick0, qindexAddr, qfieldAddr, qload, ned, ASt.setObj, ASt.obj, frzRefs, dvs, AC.dv, DV.ac, leD, leD1, ofCells, TI.isAgg, isScalar, avOf, acOf, eInt, eBool, eList, ePair, List.getD_cons_succ, List.getD_cons_zero, List.set_cons_succ, List.set_cons_zero, List.map_cons, List.map_nil, List.cons_append, List.nil_append, List.append_nil, List.length_cons, List.length_nil, List.drop_succ_cons, List.drop_zero, List.take_succ_cons, List.take_zero, List.take_nil, List.headD_cons, List.getElem?_cons_succ, List.getElem?_cons_zero, Option.bind_some, Int.reduceLE, Int.reduceEq, Int.reduceAdd, Nat.reduceLT, ↓ex_rfl, heq_eq_eq, DV.bool.injEq, exists_eq_left', Int.reduceToNat, implies_true, imp_self, beq_false, beq_true, decide_eq_true_eq, decide_eq_false_iff_not, Bool.not_eq_true', Bool.cond_true_left, Bool.or_eq_true, Bool.or_eq_false_iff, Int.not_lt, Int.not_le, true_and, and_true, and_self, forall_const, reduceCtorEq, false_implies, not_false_eq_true, Bool.and_true, Bool.true_and, Bool.and_false, Bool.false_eq_true, Bool.true_eq_false, Bool.not_false, cond_true, cond_false, beq_self_eq_true, if_true, if_false, Nat.add_zero, Nat.zero_add, Nat.reduceAdd, Nat.reduceLeDiff, Nat.le_refl, eq_self, Nat.succ_ne_self, decide_true, decide_false, and_false, false_and, tab_3, tab_4, tab_26, tab_34, tab_53, tab_57]
        refine ⟨fun h => ⟨by omega, ?_⟩, fun h => ?_⟩
        · (refine RetAt.leaf ?_ ?_ <;> simp only [resOf, tupOf, ASt.eval, AV.strip, AV.need, AV.map, AC.ren, List.getD_cons_succ, List.getD_cons_zero, and_self, eq_self])
        · (refine RetAt.leaf ?_ ?_ <;> simp only [resOf, tupOf, ASt.eval, AV.strip, AV.need, AV.map, AC.ren, List.getD_cons_succ, List.getD_cons_zero, and_self, eq_self])
  · simp only [true_and, forall_const, false_implies, not_false_eq_true, Bool.false_and, decide_false, false_and, true_or, h0]
    have e1 : wErr f l nx o = tchk f l nx := if_pos h0
    have e2 : wRes f l nx o = 0 := by unfold wRes; rw [e1, if_pos h0]
    rw [e1, e2]
    generalize tchk f l nx = w at *
    refine LoopAt.inv (ι := Unit) (T := tab) (fun x => [(41, .c (.int .i64 0)), (5, .c (.int .i64 w)), (9, .c (.int .i64 0))]) (fun x => [.cells 53 (tcells f l nx), setO 0 []]) (fun x => True) (fun x => 0) tabOK () trivial ?_ ?_
    · (simp only [LessC, headSt, dsts, opDsts, resetS, putsS, lessS, lessO, belowS, belowO, AV.below, AObj.below, AC.below, XObj.below, List.set_cons_succ, List.set_cons_zero, List.cons_append, List.nil_append, List.append_nil, List.length_cons, List.length_nil, List.all_cons, List.all_nil, Nat.reduceLT, AV.c.injEq, and_self, reduceCtorEq, Bool.and_true, Nat.zero_add, Nat.reduceAdd, Nat.reduceLeDiff, eq_self, decide_true, or_true] <;> try omega)
    · rintro x -
      simp only [VCp, headSt, dsts, opDsts, resetS, putsS, qlookup, lookRes, keyOf, kshOf, encIs, AV.isA, amapUpdate, VC_skip, VC_region, VC_draw, VC_seq, VC_cond, VC_block, VC_exit, VC_ret, aops_nil, aops_cons, put_some, put_none, aop, qop, isQuiet, ASt.eval, ASt.ev, AV.strip, AV.need, AV.ac, AV.cells, AV.isTup, onG, guardOf, qbin, binInt, qpick, qpick0, qindexAddr, qfieldAddr, qload, ned, ASt.setObj, ASt.obj, frzRefs, dvs, AC.dv, DV.ac, leD, leD1, ofCells, TI.isAgg, isScalar, avOf, acOf, eInt, eBool, eList, ePair, List.getD_cons_succ, List.getD_cons_zero, List.set_cons_succ, List.set_cons_zero, List.map_cons, List.map_nil, List.cons_append, List.nil_append, List.append_nil, List.length_cons, List.length_nil, List.drop_succ_cons, List.drop_zero, List.take_succ_cons, List.take_zero, List.take_nil, List.headD_cons, List.getElem?_cons_succ, List.getElem?_cons_zero, Option.bind_some, Int.reduceLE, Int.reduceEq, Int.reduceAdd, Nat.reduceLT, ↓ex_rfl, heq_eq_eq, DV.bool.injEq, exists_eq_left', Int.reduceToNat, implies_true, imp_self, beq_false, beq_true, decide_eq_true_eq, decide_eq_false_iff_not, Bool.not_eq_true', Bool.cond_true_left, Bool.cond_false_right, Bool.or_eq_true, Bool.or_eq_false_iff, Int.not_lt, Int.not_le, true_and, and_true, and_self, forall_const, reduceCtorEq, false_implies, not_false_eq_true, Bool.and_true, Bool.true_and, Bool.and_false, Bool.false_eq_true, Bool.true_eq_false, Bool.not_false, cond_true, cond_false, beq_self_eq_true, if_true, if_false, Nat.add_zero, Nat.zero_add, Nat.reduceAdd, Nat.reduceLeDiff, Nat.le_refl, eq_self, Nat.succ_ne_self, decide_true, decide_false, and_false, false_and, tab_3, tab_4, tab_26, tab_34, tab_53, tab_57, h0]
      refine ⟨fun h => ⟨by omega, ?_⟩, fun h => ?_⟩
      · (refine RetAt.leaf ?_ ?_ <;> simp only [resOf, tupOf, ASt.eval, AV.strip, AV.need, AV.map, AC.ren, List.getD_cons_succ, List.getD_cons_zero, and_self, eq_self])
      · (refine RetAt.leaf ?_ ?_ <;> simp only [resOf, tupOf, ASt.eval, AV.strip, AV.need, AV.map, AC.ren, List.getD_cons_succ, List.getD_cons_zero, and_self, eq_self])
end Go.Vc.Pc
