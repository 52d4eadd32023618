/- The program's shortest text. -/
import Derived.Test.YtmikejeohdleeaaHB
set_option linter.unusedVariables false
set_option linter.unusedSimpArgs false
namespace Go.Vc
open Go.Proofs Go.IntWalk
set_option maxRecDepth 100000
theorem walkW_hit {nx : Nat → Nat → Int → Nat} {k hit c : Nat} (hc : c < 256) (h : nx k hit c ≠ 0) (hb : ∀ i : Nat, i < c → nx k hit i = 0) : walkW nx (k + 1) hit = (c : Int) :: walkW nx k (nx k hit c) := by
  have : firstC (fun c => decide (nx k hit c ≠ 0)) = some c := firstC_some hc (by simpa using h) fun i hi => by simp [hb i hi]
  rw [walkW, this]
theorem walkW_miss {nx : Nat → Nat → Int → Nat} {k hit : Nat} (h : ∀ i : Nat, i < 256 → nx k hit i = 0) : walkW nx (k + 1) hit = walkW nx k hit := by
  have : firstC (fun c => decide (nx k hit c ≠ 0)) = none := firstC_none fun i hi => by simp [h i hi]
  rw [walkW, this]
/-- what a search for a text answers -/
def PathQ (t : Option (List Int)) (r : AV) (os : List AObj) : Prop :=
  match t with
  | none => r = .tup [(false, [.nil]), (false, [.bool false])] ∧ os = []
  | some text => r = .tup [(false, [.sl 0]), (false, [.bool true])] ∧ os = [rowU text]
theorem PathQ.none {r : AV} {os : List AObj} {t : Option (List Int)} (h : t = none) (h1 : r = .tup [(false, [.nil]), (false, [.bool false])] ∧ os = []) : PathQ t r os := by subst h; exact h1
theorem PathQ.some {r : AV} {os : List AObj} {t : Option (List Int)} {text : List Int} (h : t = some text) (h1 : r = .tup [(false, [.sl 0]), (false, [.bool true])] ∧ os = [rowU text]) : PathQ t r os := by subst h; exact h1
theorem frm_ok {n : Int} {ms : List Mv} (ho : ∀ p ∈ ms, 0 ≤ p.1 ∧ p.1 < n ∧ 0 ≤ p.2.1 ∧ p.2.1 < n) : ∀ p ∈ ms, frm p < n.toNat ∧ tgt p < n.toNat := fun p hp => by
  have := ho p hp
  unfold frm tgt
  omega
set_option maxHeartbeats 8000000 in
theorem path_spec (n : Int) (ms : List Mv) (es : List Int) (from' to : Nat) (hf : from' < 2 ^ 32) (hfb : Below n.toNat from') (ht : to < 2 ^ 32) (hn : 1 ≤ n ∧ n ≤ 32) (ho : ∀ p ∈ ms, 0 ≤ p.1 ∧ p.1 < n ∧ 0 ≤ p.2.1 ∧ p.2.1 < n) (hl : ms.length ≤ 200) :
    ACall Try.prog 83 [mach n ms es, .c (.int .u32 from'), .c (.int .u32 to)] [] (PathQ (shortF n.toNat ms from' to)) := by
  have hmo : MOK ms := fun p hp => by have := ho p hp; omega
  (refine ACall.of_body (nt := 80) (rs := [.tmp 6, .tmp 7]) tabOK Try.func83 rfl rfl rfl rfl ?_; simp only [startSt, List.length_cons, List.length_nil, Nat.reduceAdd, Nat.reduceSub, List.replicate_succ, List.replicate_zero, List.cons_append, List.nil_append])
  simp only [VCp, VC_region, VC_seq, aops_nil, aops_cons, put_some, aop, qop, isQuiet, ASt.eval, ASt.ev, AV.strip, AV.need, AV.ac, AV.cells, AV.isTup, qload, ned, AC.fits, newObj, ASt.obj, ofCells, TI.isAgg, avOf, acOf, eInt, eList, ePair, List.getD_cons_succ, List.getD_cons_zero, List.set_cons_succ, List.set_cons_zero, List.map_cons, List.map_nil, List.cons_append, List.nil_append, List.length_cons, List.length_nil, List.drop_zero, List.take_succ_cons, List.take_nil, List.all_cons, List.all_nil, Int.reduceNeg, true_and, and_self, reduceCtorEq, not_false_eq_true, Bool.and_true, cond_true, beq_self_eq_true, Nat.zero_add, Nat.reduceAdd, Nat.le_refl, eq_self, tab_28]
  refine CallAt.plain (far_spec n ms es to ht hn ho hl) rfl ?_
  rintro r os ⟨dl, rfl, rfl, hD⟩
  simp only [VC_region, VC_seq, VC_block, VC_loop, aops_nil, aops_cons, put_some, qop, isQuiet, ASt.eval, AV.need, AV.ac, qlen, ASt.obj, AV.map, AObj.map, avOf, acOf, AC.ren, backIx, giveBack, afterCall, eInt, eList, List.getD_cons_succ, List.getD_cons_zero, List.set_cons_succ, List.set_cons_zero, List.map_cons, List.map_nil, List.cons_append, List.nil_append, List.length_cons, List.length_nil, List.getElem?_nil, Int.reduceNeg, true_and, and_self, Nat.add_zero, Nat.zero_add, Nat.reduceSub, tab_26]
  have hdl : dl.length = n.toNat := hD.1
  refine LoopAt.freeze 1 ?_
  simp only [ASt.setObj, ASt.obj, ASt.map, ASt.freeze, AV.map, AObj.map, AC.frz, List.getD_cons_succ, List.getD_cons_zero, List.set_cons_succ, List.set_cons_zero, List.map_cons, List.map_nil, Int.reduceNeg, cond_true, beq_self_eq_true]
  refine LoopAt.inv (ι := Nat × Int) (T := tab) (fun x => [(22, .c (.int .i64 x.1)), (9, .c (.int .i64 x.2))]) (fun x => [.cells 28 (mcells n ms es)])
    (fun x => x.1 ≤ n.toNat ∧ BestQ dl from' x.1 x.2) (fun x => n.toNat - x.1) tabOK (0, -1) ⟨Nat.zero_le _, .inl ⟨rfl, fun s hs => by omega⟩⟩ ?_ ?_
  · (simp only [LessC, headSt, dsts, opDsts, resetS, putsS, lessS, lessO, belowS, belowO, AV.below, AObj.below, AC.below, List.set_cons_succ, List.set_cons_zero, List.cons_append, List.nil_append, List.append_nil, List.length_cons, List.length_nil, List.all_cons, List.all_nil, Int.reduceNeg, Nat.reduceLT, Int.cast_ofNat_Int, AV.c.injEq, and_self, reduceCtorEq, Bool.and_true, Nat.zero_add, Nat.reduceLeDiff, eq_self, decide_true, or_true] <;> try omega)
  rintro ⟨i, b⟩ ⟨hi, hB⟩
  dsimp only at hi hB
  simp only [VCp, headSt, dsts, opDsts, resetS, putsS, VC_skip, VC_region, VC_seq, VC_cond, VC_block, VC_loop, VC_exit, VC_ret, aops_nil, aops_cons, put_some, qop, isQuiet, ASt.eval, AV.need, AV.ac, onG, guardOf, qbin, binInt, qpick, qpick0, qindexAddr, qload, DV.ac, ofCells, TI.isAgg, isScalar, avOf, acOf, eInt, eList, List.getD_cons_succ, List.getD_cons_zero, List.set_cons_succ, List.set_cons_zero, List.map_cons, List.map_nil, List.cons_append, List.nil_append, List.append_nil, List.length_cons, List.length_nil, List.take_succ_cons, List.take_nil, List.headD_cons, List.getElem?_cons_succ, List.getElem?_cons_zero, Option.bind_some, Int.reduceNeg, Int.toNat_natCast, implies_true, imp_self, beq_false, beq_true, decide_eq_true_eq, decide_eq_false_iff_not, Bool.not_eq_true', Bool.cond_true_left, Bool.cond_false_right, Bool.or_eq_true, Bool.and_eq_true, Bool.or_eq_false_iff, Bool.and_eq_false_iff, Int.not_lt, Int.not_le, true_and, and_self, not_false_eq_true, Bool.and_true, Bool.true_and, cond_true, beq_self_eq_true, if_true, Nat.zero_add, Nat.le_refl, eq_self, Nat.succ_ne_self, tab_3, tab_26, tab_108]
  refine ⟨fun h => ?_, fun h => ?_⟩
  · have hi' : i < n.toNat := by omega
    have hb := bitI1 (k := (i : Int)) hf (by omega) (by omega)
    rw [Int.toNat_natCast] at hb
    obtain ⟨s1, s2⟩ := hB.step
    refine ⟨⟨by omega, by omega⟩, by omega, fun hc => ⟨(i + 1, dl.getD i 0), ⟨by dsimp only; omega, s1 (hb.1 hc.1.1) (by omega) (by omega)⟩, by dsimp only; omega, ?_⟩, fun hc => ⟨(i + 1, b), ⟨by dsimp only; omega, s2 fun hd => ?_⟩, by dsimp only; omega, ?_⟩⟩
    · (simp only [LessC, lessS, lessO, belowS, belowO, AV.below, AObj.below, AC.below, List.length_cons, List.length_nil, List.all_cons, List.all_nil, Nat.reduceLT, Int.cast_ofNat_Int, Int.natCast_add, AV.c.injEq, AC.int.injEq, true_and, and_true, and_self, reduceCtorEq, Bool.and_true, Nat.zero_add, Nat.reduceLeDiff, eq_self, decide_true, or_true, or_false, false_or] <;> try omega)
      exact i64_in _ (by omega)
    · have := hb.2 hd.1
      omega
    · (simp only [LessC, lessS, lessO, belowS, belowO, AV.below, AObj.below, AC.below, List.length_cons, List.length_nil, List.all_cons, List.all_nil, Nat.reduceLT, Int.cast_ofNat_Int, Int.natCast_add, AV.c.injEq, AC.int.injEq, true_and, and_true, and_self, reduceCtorEq, Bool.and_true, Nat.zero_add, Nat.reduceLeDiff, eq_self, decide_true, or_true, or_false, false_or] <;> try omega)
      exact i64_in _ (by omega)
  have : i = n.toNat := by omega
  subst this
  refine ⟨fun hb0 => ?_, fun hb0 => ?_⟩
  · have : b = -1 := by
      rcases hB with ⟨e, _⟩ | ⟨e, _⟩
      · exact e
      · omega
    subst this
    (refine RetAt.leaf ?_ ?_ <;> simp only [resOf, tupOf, compOf, ASt.eval, AV.strip, AV.need, AV.map, findIx, AC.ren, List.getD_cons_succ, List.getD_cons_zero, List.map_cons, List.map_nil, Int.reduceLT, Int.reduceNeg, and_self, decide_true])
    exact PathQ.none (hB.none hD hfb) ⟨rfl, rfl⟩
  obtain ⟨d0, rfl⟩ : ∃ d0 : Nat, b = d0 := ⟨b.toNat, by omega⟩
  obtain ⟨hd0, hsf⟩ := hB.some hD (frm_ok ho) hfb
  refine LoopAt.adopt 12 5 1 Int 0 (fun n => [.int .u8 n]) rfl (fun _ => rfl) ?_
  simp only [newObj, adopt, List.set_cons_succ, List.set_cons_zero, List.cons_append, List.nil_append, List.length_cons, List.length_nil, Nat.zero_add]
  refine LoopAt.inv (ι := Nat × List Int × Nat) (T := tab) (fun x => [(13, .c (.int .i64 x.1)), (12, .c (.sl 1)), (1, .c (.int .u32 x.2.2))]) (fun x => [.cells 28 (mcells n ms es), rowU x.2.1])
    (fun x => x.1 ≤ d0 ∧ x.2.2 < 2 ^ 32 ∧ x.2.1.length + x.1 ≤ d0 ∧ x.2.1 ++ walkW (nxP ms dl) x.1 x.2.2 = walkW (nxP ms dl) d0 from') (fun x => x.1) tabOK (d0, [], from') ⟨Nat.le_refl _, hf, by simp, rfl⟩ ?_ ?_
  · (simp only [LessC, headSt, dsts, opDsts, resetS, putsS, lessS, lessO, belowS, belowO, AV.below, AObj.below, AC.below, List.set_cons_succ, List.set_cons_zero, List.cons_append, List.nil_append, List.append_nil, List.length_cons, List.length_nil, List.all_cons, List.all_nil, Nat.reduceLT, AV.c.injEq, and_self, reduceCtorEq, Bool.and_true, Nat.zero_add, Nat.reduceAdd, Nat.reduceLeDiff, eq_self, decide_true, or_true] <;> try omega)
  rintro ⟨d, text, hit⟩ ⟨hd, hh, hlen, hw⟩
  dsimp only at hd hh hlen hw
  simp only [VCp, headSt, dsts, opDsts, resetS, putsS, VC_skip, VC_region, VC_seq, VC_cond, VC_block, VC_exit, VC_ret, aops_nil, aops_cons, put_some, aop, qop, isQuiet, ASt.eval, ASt.ev, AV.strip, AV.need, AV.ac, AV.isTup, qbin, binInt, ned, isScalar, avOf, acOf, eInt, List.getD_cons_succ, List.getD_cons_zero, List.set_cons_succ, List.set_cons_zero, List.map_cons, List.map_nil, List.cons_append, List.nil_append, List.append_nil, decide_eq_true_eq, decide_eq_false_iff_not, Int.not_lt, true_and, and_self, if_true, eq_self, tab_3]
  refine ⟨fun h => ?_, fun h => ?_⟩
  · obtain ⟨k, rfl⟩ : ∃ k, d = k + 1 := ⟨d - 1, by omega⟩
    refine CallAt.plain (within_spec dl hit ((k + 1 : Nat) : Int) hh (by omega)) rfl ?_
    rintro r os ⟨rfl, rfl⟩
    simp only [VC_region, VC_seq, VC_block, VC_loop, aops_nil, aops_cons, put_some, qop, isQuiet, ASt.eval, AV.need, AV.map, avOf, acOf, AC.ren, giveBack, afterCall, List.getD_cons_succ, List.getD_cons_zero, List.set_cons_succ, List.set_cons_zero, List.map_nil, List.append_nil, List.length_cons, List.length_nil, Int.cast_ofNat_Int, Int.natCast_add, true_and, Nat.zero_add, Nat.reduceAdd]
    have hat : withinF dl hit ((k : Int) + 1) < 2 ^ 32 := withinF_lt (by omega)
    have hwk : IntKind.i64.wrap ((k : Int) + 1 - 1) = k := by rw [i64_in _ (by omega)]; omega
    refine LoopAt.inv (ι := Nat) (T := tab) (fun c => [(58, .c (.int .i64 c)), (12, .c (.sl 1)), (1, .c (.int .u32 hit))]) (fun c => [.cells 28 (mcells n ms es), rowU text])
      (fun c => c ≤ 256 ∧ ∀ i : Nat, i < c → nxP ms dl k hit i = 0) (fun c => 256 - c) tabOK 0 ⟨Nat.zero_le _, fun i hi => by omega⟩ ?_ ?_
    · (simp only [LessC, headSt, dsts, opDsts, resetS, putsS, lessS, lessO, belowS, belowO, AV.below, AObj.below, AC.below, List.set_cons_succ, List.set_cons_zero, List.cons_append, List.nil_append, List.append_nil, List.length_cons, List.length_nil, List.all_cons, List.all_nil, Nat.reduceLT, Int.cast_ofNat_Int, AV.c.injEq, and_self, reduceCtorEq, Bool.and_true, Nat.zero_add, Nat.reduceAdd, Nat.reduceLeDiff, eq_self, decide_true, or_true] <;> try omega)
    rintro c ⟨hc, hmiss⟩
    simp only [VCp, headSt, dsts, opDsts, resetS, putsS, VC_skip, VC_region, VC_seq, VC_cond, VC_block, VC_exit, VC_ret, aops_nil, aops_cons, put_some, aop, qop, isQuiet, ASt.eval, ASt.ev, AV.strip, AV.need, AV.ac, AV.isTup, qbin, binInt, qload, qconvert, ned, ASt.obj, ofCells, TI.isAgg, isScalar, avOf, acOf, eInt, eList, ePair, List.getD_cons_succ, List.getD_cons_zero, List.set_cons_succ, List.set_cons_zero, List.map_cons, List.map_nil, List.cons_append, List.nil_append, List.append_nil, List.length_cons, List.length_nil, List.drop_zero, List.take_succ_cons, List.take_nil, decide_eq_true_eq, decide_eq_false_iff_not, Int.not_lt, true_and, and_self, reduceCtorEq, not_false_eq_true, Bool.and_true, if_true, if_false, Nat.zero_add, Nat.reduceAdd, Nat.reduceEqDiff, Nat.le_refl, eq_self, Nat.succ_ne_self, tab_3, tab_5, tab_28]
    refine ⟨fun h => ?_, fun h => ?_⟩
    · have hc' : c < 256 := by omega
      have hwc : IntKind.u8.wrap (c : Int) = c := by rw [IntKind.wrap_u8]; omega
      simp only [hwc]
      refine CallAt.plain (step_spec n ms es _ (c : Int) hat hmo hl) rfl ?_
      rintro r os ⟨rfl, rfl⟩
      simp only [aops_cons, put_some, aop, qop, isQuiet, ASt.eval, ASt.ev, AV.strip, AV.need, AV.ac, AV.isTup, qbin, binInt, ned, AV.map, isScalar, avOf, acOf, AC.ren, giveBack, afterCall, eInt, List.getD_cons_succ, List.getD_cons_zero, List.set_cons_succ, List.set_cons_zero, List.map_cons, List.map_nil, List.append_nil, List.length_cons, List.length_nil, true_and, and_self, Nat.zero_add, Nat.reduceAdd, eq_self, tab_3, hwk]
      refine CallAt.plain (within_spec dl (stepF ms (withinF dl hit ((k : Int) + 1)) c) (k : Int) (stepF_lt hmo _ _) (by omega)) rfl ?_
      rintro r os ⟨rfl, rfl⟩
      simp only [ownSl, ownPart, appRows, VC_skip, VC_region, VC_seq, VC_cond, VC_exit, VC_ret, aops_nil, aops_cons, put_some, aop, qop, isQuiet, ASt.eval, AV.need, AV.ac, AV.cells, AV.isTup, qbin, binInt, qconvert, needAll, ned, partsOf, fitAll, AC.fits, abuildSlice, elems, setPart, appSrc, aappend, newObj, ASt.setObj, ASt.obj, ASt.map, frzRefs, AV.map, AObj.map, AC.kill, dvs, AC.dv, leD, leD1, isScalar, avOf, acOf, AC.ren, giveBack, afterCall, eInt, eList, List.getD_cons_succ, List.getD_cons_zero, List.set_cons_succ, List.set_cons_zero, List.map_cons, List.map_nil, List.replicate_succ, List.replicate_zero, List.cons_append, List.nil_append, List.append_nil, List.length_cons, List.length_nil, List.all_cons, List.all_nil, List.flatMap_cons, List.flatMap_nil, Nat.reduceLT, ↓ex_rfl, cast_eq, heq_eq_eq, DV.int.injEq, exists_eq_left', decide_eq_false_iff_not, Bool.not_eq_true', true_and, and_true, and_self, not_false_eq_true, Bool.and_true, cond_true, cond_false, beq_self_eq_true, if_true, if_false, Nat.zero_add, Nat.reduceAdd, Nat.reduceMul, Nat.reduceBEq, Nat.reduceEqDiff, Nat.reduceLeDiff, eq_self, Nat.succ_ne_self, tab_3, tab_5, tab_29, tab_108, hwk, hwc]
      have hnx : withinF dl (stepF ms (withinF dl hit ((k : Int) + 1)) c) (k : Int) = nxP ms dl k hit c := rfl
      rw [hnx]
      refine ⟨fun hne => ?_, fun he => ?_⟩
      · have hne' : nxP ms dl k hit c ≠ 0 := by intro e; rw [e] at hne; exact hne rfl
        repeat' (first | (with_reducible apply And.intro) | (with_reducible intro _))
        all_goals first | omega | skip
        refine ⟨(k, text ++ [(c : Int)], nxP ms dl k hit c), ⟨by dsimp only; omega, withinF_lt (by omega), by simp only [List.length_append, List.length_singleton]; omega, ?_⟩, by dsimp only; omega, ?_⟩
        · dsimp only
          rw [← hw, walkW_hit hc' hne' hmiss]
          simp
        · (simp only [LessC, lessS, lessO, belowS, belowO, AV.below, AObj.below, AC.below, List.length_cons, List.length_nil, List.all_cons, List.all_nil, Nat.reduceLT, AV.c.injEq, and_self, reduceCtorEq, Bool.and_true, Nat.zero_add, Nat.reduceAdd, Nat.reduceLeDiff, eq_self, decide_true, or_true, or_false] <;> try omega)
      · have he' : nxP ms dl k hit c = 0 := by
          first
            | exact_mod_cast he
            | simpa using he
        refine ⟨c + 1, ⟨by omega, fun i hi => ?_⟩, by omega, ?_⟩
        · by_cases e : i = c
          · subst e; exact he'
          · exact hmiss i (by omega)
        · (simp only [LessC, lessS, lessO, belowS, belowO, AV.below, AObj.below, AC.below, List.length_cons, List.length_nil, List.all_cons, List.all_nil, Nat.reduceLT, Int.cast_ofNat_Int, Int.natCast_add, AV.c.injEq, AC.int.injEq, true_and, and_true, and_self, reduceCtorEq, Bool.and_true, Nat.zero_add, Nat.reduceAdd, Nat.reduceLeDiff, eq_self, decide_true, or_true, or_false, false_or] <;> try omega)
          exact i64_in _ (by omega)
    · have : c = 256 := by omega
      subst this
      refine ⟨(k, text, hit), ⟨by dsimp only; omega, hh, by dsimp only; omega, ?_⟩, by dsimp only; omega, ?_⟩
      · dsimp only
        rw [← hw, walkW_miss hmiss]
      · (simp only [LessC, lessS, lessO, belowS, belowO, AV.below, AObj.below, AC.below, List.length_cons, List.length_nil, List.all_cons, List.all_nil, Int.reduceLT, Nat.reduceLT, Int.cast_ofNat_Int, AV.c.injEq, AC.int.injEq, true_and, and_true, and_self, reduceCtorEq, Bool.and_true, Nat.zero_add, Nat.reduceAdd, Nat.reduceLeDiff, eq_self, decide_true, decide_false, or_true, or_false, false_or] <;> try omega)
  · have : d = 0 := by omega
    subst this
    refine RetAt.keeping [1] (by decide) ?_ ?_ <;> simp only [resOf, tupOf, compOf, keepObjs, keepObjs, XObj.amap, ASt.eval, AV.strip, AV.need, AV.map, AObj.map, findIx, AC.ren, List.getD_cons_succ, List.getD_cons_zero, List.map_cons, List.map_nil, Int.reduceLT, Int.cast_ofNat_Int, and_self, cond_true, beq_self_eq_true, decide_false]
    refine PathQ.some hsf ⟨rfl, ?_⟩
    rw [← hw]
    simp [walkW]
end Go.Vc
