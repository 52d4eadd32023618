/- NearGroups where the arguments are right. -/
import Derived.Test.YtcjcfpbbhmhlbaaQE
set_option linter.unusedVariables false
set_option linter.unusedSimpArgs false
namespace Go.Vc.Ng
open Go.Proofs Go.IntWalk Go.Vc.Ne
set_option maxRecDepth 100000
theorem rnd_len {l : List (Nat × Nat)} : ∀ {w : List Nat}, (rnd l w).length = w.length := by
  unfold rnd
  induction l with
  | nil => intro w; rfl
  | cons p l ih => intro w; rw [List.foldl_cons, ih]; simp [stp]
theorem rnds_len {l : List (Nat × Nat)} {n : Nat} : ∀ k, (rnds l n k).length = n
  | 0 => by simp [rnds]
  | k + 1 => by show (rnd l (rnds l n k)).length = n; rw [rnd_len, rnds_len k]
theorem rnd_next {E : List (Nat × Nat)} {w : List Nat} {j : Nat} (h : j < E.length) : rnd (E.take (j + 1)) w = stp (rnd (E.take j) w) (E.getD j (0, 0)) := by
  unfold rnd
  rw [take_next E j (0, 0) h, List.foldl_append]
  rfl
theorem outTo_mem {r : List Nat} {n i : Nat} {x : List Int} (h : x ∈ outTo r n i) : x.length ≤ n := by
  unfold outTo at h
  obtain ⟨a, -, rfl⟩ := List.mem_map.1 h
  rw [zs_len]
  exact grpTo_len
set_option maxHeartbeats 32000000 in
theorem groups_right (ds : List (List Int)) (num den : Int) (text : List Int) (hl : ds.length ≤ 1048576) (hb : ∀ d ∈ ds, d.length ≤ 1048576) (ht : text.length ≤ 1048576) (h0 : chk ds num den = 0) : ACall Try.prog 4 [.c (rBB ds), .c (.int .i64 num), .c (.int .i64 den), .c (rB text)] [] (fun r os => r = .c (.bool true) ∧ os = []) := by
  obtain ⟨k1, k2, k3, k4, k5⟩ := chk_zero h0
  have cb : big ds = false := by
    cases hc : big ds with
    | false => rfl
    | true => unfold chk at h0; rw [if_pos (.inr hc)] at h0; cases h0
  have z0 : ((60 : Int) < (ds.length : Int)) = False := eq_false (by omega)
  have hg := getD_len hb
  (refine ACall.of_body (nt := 243) (rs := [.tmp 8]) tabOK Try.func4 rfl rfl rfl rfl ?_; simp only [startSt, List.length_cons, List.length_nil, Nat.reduceAdd, Nat.reduceSub, List.replicate_succ, List.replicate_zero, List.cons_append, List.nil_append])
  unfold rB encU8
  simp only [VCp, VC_region, VC_seq, aops_nil, aops_cons, put_some, aop, qop, isQuiet, ASt.eval, AV.need, ned, avOf, acOf, List.set_cons_succ, List.set_cons_zero, List.map_nil, Int.reduceNeg, true_and]
  refine CallAt.plain shingled_spec rfl ?_
  rintro r os ⟨rfl, rfl⟩
  simp only [VC_skip, VC_region, VC_seq, VC_cond, VC_ret, aops_nil, aops_cons, put_some, aop, qop, isQuiet, ASt.eval, ASt.ev, AV.strip, AV.need, AV.ac, AV.isTup, qun, ned, AV.map, avOf, acOf, AC.ren, giveBack, afterCall, List.getD_cons_succ, List.getD_cons_zero, List.set_cons_succ, List.set_cons_zero, List.map_cons, List.map_nil, List.append_nil, List.length_nil, Int.reduceNeg, true_and, and_self, forall_const, false_implies, Bool.false_eq_true, Bool.not_true, eq_self]
  refine CallAt.thenFreeze 0 ?_
  refine CallAt.plain (pairs_spec ds num den hl hb) rfl ?_
  intro r os hr
  rcases hr with ⟨h, _⟩ | ⟨-, rfl, rfl⟩
  · exact absurd h0 h
  simp only [VC_region, VC_seq, aops_nil, aops_cons, put_some, aop, qop, isQuiet, ASt.eval, ASt.ev, AV.strip, AV.need, AV.isTup, qextract, ned, ASt.setObj, ASt.obj, ASt.map, ASt.freeze, AV.map, AObj.map, AC.frz, AC.ren, backIx, giveBack, afterCall, frzF, List.getD_cons_succ, List.getD_cons_zero, List.set_cons_succ, List.set_cons_zero, List.map_cons, List.map_nil, List.nil_append, List.length_cons, List.length_nil, List.headD_cons, List.getElem?_cons_succ, List.getElem?_cons_zero, List.getElem?_nil, Int.reduceNeg, true_and, and_self, cond_true, beq_self_eq_true, Nat.add_zero, Nat.zero_add, Nat.reduceSub, eq_self]
  refine CallAt.thenFreeze 1 ?_
  refine CallAt.plain (groups_spec ds num den hl hb) rfl ?_
  intro r os hr
  rcases hr with ⟨h, _⟩ | ⟨-, rfl, rfl⟩
  · exact absurd h0 h
  simp only [VC_region, VC_seq, VC_cond, VC_block, aops_nil, aops_cons, put_some, aop, qop, isQuiet, ASt.eval, ASt.ev, AV.strip, AV.need, AV.ac, AV.isTup, onG, guardOf, qbin, binInt, qpick, qlen, qextract, ned, ASt.setObj, ASt.obj, ASt.map, ASt.freeze, AV.map, AObj.map, AC.frz, isScalar, avOf, acOf, AC.ren, backIx, giveBack, afterCall, frzF, eInt, eList, List.getD_cons_succ, List.getD_cons_zero, List.set_cons_succ, List.set_cons_zero, List.map_cons, List.map_nil, List.cons_append, List.nil_append, List.length_cons, List.length_nil, List.headD_cons, List.getElem?_cons_succ, List.getElem?_cons_zero, List.getElem?_nil, Option.bind_some, Int.reduceNeg, implies_true, imp_self, true_and, and_true, and_self, forall_const, Bool.true_eq_false, cond_true, beq_self_eq_true, Nat.add_zero, Nat.zero_add, Nat.reduceSub, eq_self, decide_false, and_false, tab_3, tab_23, z0]
  refine CallAt.plain (contains_spec ds hl) rfl ?_
  rintro r os ⟨rfl, rfl⟩
  simp only [VC_skip, VC_region, VC_seq, VC_cond, VC_block, VC_loop, VC_ret, aops_nil, aops_cons, put_some, qop, isQuiet, ASt.eval, AV.need, AV.ac, onG, guardOf, qbin, binInt, qpick, qpick0, qlen, AV.map, isScalar, avOf, acOf, AC.ren, giveBack, afterCall, eInt, eList, List.getD_cons_succ, List.getD_cons_zero, List.set_cons_succ, List.set_cons_zero, List.map_nil, List.append_nil, List.length_cons, List.length_nil, List.getElem?_cons_succ, List.getElem?_cons_zero, Option.bind_some, Int.reduceEq, Int.reduceNeg, implies_true, imp_self, beq_false, decide_eq_true_eq, decide_eq_false_iff_not, Bool.not_eq_true', Bool.cond_true_left, Bool.or_eq_true, Bool.or_eq_false_iff, Int.not_lt, true_and, and_true, and_self, forall_const, false_implies, Bool.and_true, Bool.true_and, Bool.and_false, Bool.false_eq_true, Bool.true_eq_false, Bool.not_true, Bool.not_false, cond_true, cond_false, beq_self_eq_true, Nat.zero_add, Nat.reduceAdd, eq_self, decide_true, decide_false, tab_3, tab_23, tab_28, cb]
  refine ⟨fun hc => ?_, fun hc => ?_⟩
  · exfalso; omega
  refine LoopAt.inv (ι := Nat) (T := tab) (fun i => [(85, .c (.int .i64 i)), (14, .c (.int .i64 (mst (cpr text ds) i).1)), (15, .c (.int .i64 (mst (cpr text ds) i).2.1)), (16, .c (.int .i64 (mst (cpr text ds) i).2.2))]) (fun i => [.gone, .gone]) (fun i => i ≤ ds.length) (fun i => ds.length - i) tabOK 0 (Nat.zero_le _) ?_ ?_
  · (simp only [LessC, headSt, dsts, opDsts, resetS, putsS, lessS, lessO, belowS, belowO, AV.below, AObj.below, AC.below, List.set_cons_succ, List.set_cons_zero, List.cons_append, List.nil_append, List.append_nil, List.length_cons, List.length_nil, List.all_cons, List.all_nil, Int.reduceNeg, Int.cast_ofNat_Int, AV.c.injEq, AC.int.injEq, true_and, and_true, and_self, reduceCtorEq, Bool.and_true, Nat.zero_add, Nat.reduceAdd, Nat.reduceLeDiff, eq_self, or_true, false_or] <;> try omega)
    all_goals trivial
  intro i hi
  have hsb := mst_bounds (c := cpr text ds) (B := 2097154) (by omega) (cpr_bounds ht hg) i
  have hnx : mst (cpr text ds) (i + 1) = mstep i (mst (cpr text ds) i) (cpr text ds i) := rfl
  have hcb := cpr_bounds ht hg i
  have hc1 : (cpr text ds i).1 = ((cmI text (ds.getD i []) : Nat) : Int) := rfl
  have hc2 : (cpr text ds i).2 = ((allI text (ds.getD i []) : Nat) : Int) := rfl
  have hend : i = ds.length → (mst (cpr text ds) i).1 = (mst (cpr text ds) ds.length).1 := fun e => by rw [e]
  generalize hcd : cpr text ds i = c at hnx hcb hc1 hc2
  generalize hsd : mst (cpr text ds) i = s at hsb hnx hend ⊢
  obtain ⟨best, p, q⟩ := s
  obtain ⟨n, al⟩ := c
  simp only at hsb hcb hc1 hc2 hend
  simp only [VCp, headSt, dsts, opDsts, resetS, putsS, VC_skip, VC_region, VC_seq, VC_cond, VC_block, VC_exit, aops_nil, aops_cons, put_some, aop, qop, isQuiet, ASt.eval, ASt.ev, AV.strip, AV.need, AV.ac, AV.isTup, qbin, binInt, qindexAddr, qload, ned, DV.ac, ofCells, TI.isAgg, isScalar, eInt, eList, List.getD_cons_succ, List.getD_cons_zero, List.set_cons_succ, List.set_cons_zero, List.map_cons, List.map_nil, List.cons_append, List.nil_append, List.append_nil, List.length_cons, List.length_nil, List.take_succ_cons, List.take_nil, List.headD_cons, Int.reduceNeg, Int.toNat_natCast, decide_eq_true_eq, decide_eq_false_iff_not, Int.not_lt, true_and, and_self, not_false_eq_true, if_true, Nat.zero_add, Nat.le_refl, eq_self, Nat.succ_ne_self, tab_3, tab_22, tab_23]
  refine ⟨fun h => ?_, fun h => ?_⟩
  · refine ⟨⟨by omega, by omega⟩, ?_⟩
    refine CallAt.plain (commonR_spec text (ds.getD i []) ht (hg i)) rfl ?_
    rintro r os ⟨rfl, rfl⟩
    rw [← hc1, ← hc2]
    have key : ∀ (n al : Int), 0 ≤ n → n ≤ 2097154 → 0 ≤ al → al ≤ 2097154 → IntKind.i64.wrap (n * q) = n * q ∧ IntKind.i64.wrap (p * al) = p * al := fun n al a1 a2 a3 a4 => by
      have m1 := mul_b (a := n) (A := 2097154) (b := q) (B := 2097154) (by omega) (by omega) (by omega) (by omega)
      have m2 := mul_b (a := p) (A := 2097154) (b := al) (B := 2097154) (by omega) (by omega) (by omega) (by omega)
      exact ⟨i64_in _ (by omega), i64_in _ (by omega)⟩
    have k1 := key n al (by omega) (by omega) (by omega) (by omega)
    have k2 := key 1 1 (by omega) (by omega) (by omega) (by omega)
    by_cases ha : al = 0
    · have za : (al = 0) = True := eq_true ha
      have hst : mstep i (best, p, q) (n, al) = if best < 0 ∨ p * 1 < 1 * q then ((i : Int), 1, 1) else (best, p, q) := by
        unfold mstep
        simp only [if_pos ha]
      rw [hst] at hnx
      simp only [VC_skip, VC_region, VC_seq, VC_cond, aops_nil, aops_cons, put_some, qop, isQuiet, ASt.eval, AV.need, AV.ac, onG, guardOf, qbin, binInt, qpick, qpick0, qextract, AV.map, isScalar, avOf, acOf, AC.ren, giveBack, afterCall, eInt, List.getD_cons_succ, List.getD_cons_zero, List.set_cons_succ, List.set_cons_zero, List.map_cons, List.map_nil, List.append_nil, List.length_cons, List.length_nil, List.headD_cons, List.getElem?_cons_succ, List.getElem?_cons_zero, Option.bind_some, implies_true, imp_self, beq_false, decide_eq_true_eq, decide_eq_false_iff_not, Bool.not_eq_true', Bool.cond_true_left, Bool.or_eq_true, Bool.or_eq_false_iff, Int.not_lt, true_and, and_true, and_self, forall_const, false_implies, Bool.true_and, Bool.true_eq_false, Nat.zero_add, Nat.reduceAdd, eq_self, decide_true, tab_3, za, k2.1, k2.2]
      refine ⟨fun hc => ?_, fun hc => ?_⟩
      · rw [if_pos hc] at hnx
        refine ⟨i + 1, by omega, by omega, ?_⟩
        rw [hnx]
        (simp only [LessC, lessS, lessO, belowS, belowO, AV.below, AObj.below, AC.below, List.length_cons, List.length_nil, List.all_cons, List.all_nil, Int.cast_ofNat_Int, Int.natCast_add, AV.c.injEq, AC.int.injEq, true_and, and_true, and_self, reduceCtorEq, Bool.and_true, Nat.zero_add, Nat.reduceAdd, Nat.reduceLeDiff, eq_self, or_true, or_false, false_or] <;> try omega)
        all_goals exact i64_in _ (by omega)
      · rw [if_neg (by omega)] at hnx
        refine ⟨i + 1, by omega, by omega, ?_⟩
        rw [hnx]
        (simp only [LessC, lessS, lessO, belowS, belowO, AV.below, AObj.below, AC.below, List.length_cons, List.length_nil, List.all_cons, List.all_nil, Int.cast_ofNat_Int, Int.natCast_add, AV.c.injEq, AC.int.injEq, true_and, and_true, and_self, reduceCtorEq, Bool.and_true, Nat.zero_add, Nat.reduceAdd, Nat.reduceLeDiff, eq_self, or_true, or_false, false_or] <;> try omega)
        all_goals exact i64_in _ (by omega)
    · have za : (al = 0) = False := eq_false ha
      have hst : mstep i (best, p, q) (n, al) = if best < 0 ∨ p * al < n * q then ((i : Int), n, al) else (best, p, q) := by
        unfold mstep
        simp only [if_neg ha]
      rw [hst] at hnx
      simp only [VC_skip, VC_region, VC_seq, VC_cond, aops_nil, aops_cons, put_some, qop, isQuiet, ASt.eval, AV.need, AV.ac, onG, guardOf, qbin, binInt, qpick, qpick0, qextract, AV.map, isScalar, avOf, acOf, AC.ren, giveBack, afterCall, eInt, List.getD_cons_succ, List.getD_cons_zero, List.set_cons_succ, List.set_cons_zero, List.map_cons, List.map_nil, List.append_nil, List.length_cons, List.length_nil, List.headD_cons, List.getElem?_cons_succ, List.getElem?_cons_zero, Option.bind_some, implies_true, imp_self, beq_false, decide_eq_true_eq, decide_eq_false_iff_not, Bool.not_eq_true', Bool.cond_true_left, Bool.or_eq_true, Bool.or_eq_false_iff, Int.not_lt, true_and, and_self, forall_const, false_implies, Bool.true_and, Bool.false_eq_true, Nat.zero_add, Nat.reduceAdd, eq_self, decide_false, tab_3, za, k1.1, k1.2]
      refine ⟨fun hc => ?_, fun hc => ?_⟩
      · rw [if_pos hc] at hnx
        refine ⟨i + 1, by omega, by omega, ?_⟩
        rw [hnx]
        (simp only [LessC, lessS, lessO, belowS, belowO, AV.below, AObj.below, AC.below, List.length_cons, List.length_nil, List.all_cons, List.all_nil, Int.cast_ofNat_Int, Int.natCast_add, AV.c.injEq, AC.int.injEq, true_and, and_true, and_self, reduceCtorEq, Bool.and_true, Nat.zero_add, Nat.reduceAdd, Nat.reduceLeDiff, eq_self, or_true, or_false, false_or] <;> try omega)
        all_goals exact i64_in _ (by omega)
      · rw [if_neg (by omega)] at hnx
        refine ⟨i + 1, by omega, by omega, ?_⟩
        rw [hnx]
        (simp only [LessC, lessS, lessO, belowS, belowO, AV.below, AObj.below, AC.below, List.length_cons, List.length_nil, List.all_cons, List.all_nil, Int.cast_ofNat_Int, Int.natCast_add, AV.c.injEq, AC.int.injEq, true_and, and_true, and_self, reduceCtorEq, Bool.and_true, Nat.zero_add, Nat.reduceAdd, Nat.reduceLeDiff, eq_self, or_true, or_false, false_or] <;> try omega)
        all_goals exact i64_in _ (by omega)
  have hin : i = ds.length := by omega
  have hbest := hend hin
  refine CallAt.plain (most_spec text ds ht hl hb) rfl ?_
  rintro r os ⟨rfl, rfl⟩
  rw [← hbest]
  simp only [amakePlain, VC_skip, VC_region, VC_seq, VC_cond, VC_block, VC_loop, VC_ret, aops_nil, aops_cons, put_some, aop, qop, isQuiet, ASt.eval, AV.need, AV.ac, AV.isTup, onG, guardOf, qbin, binInt, qpick, qpick0, qlen, ned, amake, newObj, AV.map, isScalar, avOf, acOf, AC.ren, giveBack, afterCall, eInt, eList, ePair, List.getD_cons_succ, List.getD_cons_zero, List.set_cons_succ, List.set_cons_zero, List.map_nil, List.cons_append, List.nil_append, List.append_nil, List.length_cons, List.length_nil, List.getElem?_cons_succ, List.getElem?_cons_zero, Option.bind_some, Int.cast_ofNat_Int, Int.toNat_natCast, implies_true, imp_self, beq_true, decide_eq_true_eq, Bool.cond_false_right, true_and, and_self, forall_const, false_implies, not_false_eq_true, Bool.and_true, Bool.true_and, Bool.false_eq_true, Bool.not_true, cond_true, beq_self_eq_true, Nat.zero_add, Nat.reduceAdd, eq_self, Nat.succ_ne_self, decide_true, tab_3, tab_23, tab_25, tab_28, tab_39, tab_46]
  have hzn : (zeros ds.length (0 : Int)).length = ds.length := by simp [zeros]
  refine ⟨by omega, by omega, by omega, by omega, ?_⟩
  refine LoopAt.adopt 21 40 2 (Int × Int) (0, 0) (fun p => [.int .i64 p.1, .int .i64 p.2]) rfl (fun _ => rfl) ?_
  simp only [newObj, adopt, List.set_cons_succ, List.set_cons_zero, List.cons_append, List.nil_append, List.length_cons, List.length_nil, Nat.zero_add, Nat.reduceAdd]
  have hpl := prsTo_len (f := edge ds num den) (n := ds.length)
  refine LoopAt.inv (ι := Nat) (T := tab) (fun i => [(133, .c (.int .i64 i)), (21, .c (.sl 3))]) (fun i => [.gone, .gone, rowI (zs (idTo ds.length i)), rowP (zp (prsTo (edge ds num den) ds.length i))]) (fun i => i ≤ ds.length) (fun i => ds.length - i) tabOK 0 (Nat.zero_le _) ?_ ?_
  · (simp only [LessC, headSt, dsts, opDsts, resetS, putsS, lessS, lessO, belowS, belowO, AV.below, AObj.below, AC.below, List.set_cons_succ, List.set_cons_zero, List.cons_append, List.nil_append, List.append_nil, List.length_cons, List.length_nil, List.all_cons, List.all_nil, Nat.reduceLT, Int.cast_ofNat_Int, AV.c.injEq, AObj.row.injEq, heq_eq_eq, true_and, and_true, and_self, reduceCtorEq, Bool.and_true, Nat.zero_add, Nat.reduceAdd, Nat.reduceLeDiff, eq_self, decide_true, or_true] <;> try omega)
    exact ⟨idTo_zero, rfl⟩
  intro i hi
  have hil := idTo_len hi
  simp only [VCp, headSt, dsts, opDsts, resetS, putsS, VC_skip, VC_region, VC_seq, VC_cond, VC_block, VC_loop, VC_exit, aops_nil, aops_cons, put_some, put_none, aop, qop, isQuiet, ASt.eval, ASt.ev, AV.strip, AV.need, AV.ac, AV.cells, AV.isTup, qbin, binInt, qlen, qindexAddr, splice, ned, astore, ASt.setObj, ASt.obj, frzRefs, dvs, AC.dv, leD, leD1, isScalar, avOf, acOf, eInt, eList, List.getD_cons_succ, List.getD_cons_zero, List.set_cons_succ, List.set_cons_zero, List.cons_append, List.nil_append, List.append_nil, List.length_cons, List.length_nil, List.drop_succ_cons, List.drop_nil, List.take_zero, DV.int.injEq, exists_eq_left', Int.toNat_natCast, decide_eq_true_eq, decide_eq_false_iff_not, Int.not_lt, true_and, and_true, and_self, not_false_eq_true, if_true, Nat.zero_add, Nat.le_refl, eq_self, Nat.succ_ne_self, tab_3, tab_23, tab_25, zs_len, hil]
  refine ⟨fun h => ?_, fun h => ?_⟩
  · have hi' : i < ds.length := by omega
    have w1 : IntKind.i64.wrap ((i : Int) + 1) = ((i + 1 : Nat) : Int) := by rw [i64_in _ (by omega)]; omega
    refine ⟨⟨by omega, by omega⟩, by omega, ?_⟩
    simp only [zs_set, idTo_set hi', w1]
    refine LoopAt.inv (ι := Nat) (T := tab) (fun k => [(24, .c (.int .i64 k)), (21, .c (.sl 3))]) (fun k => [.gone, .gone, rowI (zs (idTo ds.length (i + 1))), rowP (zp (prsTo (edge ds num den) ds.length i ++ rowTo (edge ds num den) i k))]) (fun k => i < k ∧ k ≤ ds.length) (fun k => ds.length - k) tabOK (i + 1) ⟨by omega, by omega⟩ ?_ ?_
    · (simp only [LessC, headSt, dsts, opDsts, resetS, putsS, lessS, lessO, belowS, belowO, AV.below, AObj.below, AC.below, List.set_cons_succ, List.set_cons_zero, List.cons_append, List.nil_append, List.append_nil, List.length_cons, List.length_nil, List.all_cons, List.all_nil, Nat.reduceLT, Int.cast_ofNat_Int, Int.natCast_add, AV.c.injEq, AObj.row.injEq, heq_eq_eq, true_and, and_true, and_self, reduceCtorEq, Bool.and_true, Nat.zero_add, Nat.reduceAdd, Nat.reduceLeDiff, eq_self, decide_true, or_true] <;> try omega)
      rw [rowTo_zero (Nat.le_refl _), List.append_nil]
    rintro k ⟨hik, hk⟩
    have hpi := hpl i
    have hrk := rowTo_len (f := edge ds num den) (i := i) (k := k)
    have hnn : i * ds.length ≤ 60 * 60 := Nat.mul_le_mul (by omega) (by omega)
    have hzl : (zp (prsTo (edge ds num den) ds.length i ++ rowTo (edge ds num den) i k)).length ≤ 4000 := by rw [zp_len, List.length_append]; omega
    simp only [VCp, headSt, dsts, opDsts, resetS, putsS, VC_skip, VC_region, VC_draw, VC_seq, VC_cond, VC_block, VC_loop, VC_exit, aops_nil, aops_cons, put_some, qop, isQuiet, ASt.eval, AV.need, AV.ac, qbin, binInt, qlen, isScalar, avOf, acOf, eInt, eList, List.getD_cons_succ, List.getD_cons_zero, List.set_cons_succ, List.set_cons_zero, List.cons_append, List.nil_append, List.append_nil, Int.cast_ofNat_Int, Int.natCast_add, decide_eq_true_eq, decide_eq_false_iff_not, Int.not_lt, true_and, and_self, if_true, if_false, Nat.reduceEqDiff, eq_self, Nat.succ_ne_self, tab_3, tab_23]
    refine ⟨fun h => ?_, fun h => ?_⟩
    · have hk' : k < ds.length := by omega
      refine DrawAt.plan tabOK mixed (.take 0 false (.take 1 false (.take 2 false (.take 3 true (.take 4 false (.take 5 false (.take 6 false (.take 7 true (.alt 8 (.take 9 true (.take 10 true (.take 11 true (.take 12 true (.take 13 true .done))))) .stop))))))))) (by decide +kernel) ?_
      simp only [avc_stop, avc_take, avc_alt, qstep, lstep, ownLoad, put_n0, put_some, aop, qop, isQuiet, ASt.eval, ASt.ev, AV.strip, AV.need, AV.ac, AV.isTup, qindexAddr, qload, ned, DV.ac, ofCells, TI.isAgg, eInt, eList, List.getD_cons_succ, List.getD_cons_zero, List.set_cons_succ, List.set_cons_zero, List.map_cons, List.map_nil, List.length_cons, List.length_nil, List.take_succ_cons, List.take_nil, List.headD_cons, List.getElem?_cons_succ, List.getElem?_cons_zero, Int.toNat_natCast, true_and, and_true, and_self, not_false_eq_true, Bool.false_eq_true, Nat.zero_add, Nat.le_refl, eq_self, Nat.succ_ne_self, or_true, tab_22, tab_23]
      refine ⟨⟨by omega, by omega⟩, ⟨by omega, by omega⟩, ?_⟩
      refine CallAt.plain (commonR_spec (ds.getD i []) (ds.getD k []) (hg i) (hg k)) rfl ?_
      rintro r os ⟨rfl, rfl⟩
      have c1 := cmI_le (b := ds.getD k []) (hg i)
      have c2 := allI_le (hg i) (hg k)
      have c3 := mul_b (a := (cmI (ds.getD i []) (ds.getD k []) : Int)) (A := 1048577) (b := den) (B := 1000) (by omega) (by omega) (by omega) (by omega)
      have c4 := mul_b (a := num) (A := 1000) (b := (allI (ds.getD i []) (ds.getD k []) : Int)) (B := 2097154) (by omega) (by omega) (by omega) (by omega)
      have w2 : IntKind.i64.wrap ((cmI (ds.getD i []) (ds.getD k []) : Int) * den) = (cmI (ds.getD i []) (ds.getD k []) : Int) * den := i64_in _ (by omega)
      have w3 : IntKind.i64.wrap (num * (allI (ds.getD i []) (ds.getD k []) : Int)) = num * (allI (ds.getD i []) (ds.getD k []) : Int) := i64_in _ (by omega)
      simp only [ownSl, ownPart, appRows, avc_done, avc_take, qstep, ownLoad, VC_skip, VC_region, VC_seq, VC_cond, aops_nil, aops_cons, put_some, aop, qop, isQuiet, ASt.eval, AV.need, AV.ac, AV.cells, AV.isTup, qbin, binInt, qextract, qbuild, fillParts, splice, needAll, ned, partsOf, fitAll, AC.fits, abuildSlice, elems, setPart, appSrc, aappend, newObj, ASt.setObj, ASt.obj, ASt.map, frzRefs, AV.map, AObj.map, AC.kill, dvs, AC.dv, leD, leD1, isScalar, avOf, acOf, AC.ren, giveBack, afterCall, eInt, eList, ePair, List.getD_cons_succ, List.getD_cons_zero, List.set_cons_succ, List.set_cons_zero, List.map_cons, List.map_nil, List.replicate_succ, List.replicate_zero, List.cons_append, List.nil_append, List.append_nil, List.length_cons, List.length_nil, List.drop_succ_cons, List.drop_zero, List.drop_nil, List.take_succ_cons, List.take_zero, List.headD_cons, List.all_cons, List.all_nil, List.flatMap_cons, List.flatMap_nil, List.getElem?_cons_succ, List.getElem?_cons_zero, Nat.reduceLT, ↓ex_rfl, cast_eq, heq_eq_eq, DV.int.injEq, decide_eq_true_eq, decide_eq_false_iff_not, Int.not_le, true_and, and_true, and_self, reduceCtorEq, not_false_eq_true, Bool.and_true, cond_true, cond_false, beq_self_eq_true, Nat.zero_add, Nat.reduceAdd, Nat.reduceMul, Nat.reduceBEq, Nat.reduceLeDiff, Nat.le_refl, eq_self, or_true, tab_3, tab_39, tab_40, w2, w3]
      have hnx := rowTo_next (f := edge ds num den) hik
      refine ⟨fun he => ?_, fun he => ?_⟩
      · have he' : edge ds num den i k = true := by unfold edge; rw [decide_eq_true_eq]; exact he
        rw [if_pos he'] at hnx
        refine ⟨((i : Int), (k : Int)), ⟨rfl, rfl⟩, by omega, by omega, k + 1, ⟨by omega, by omega⟩, by omega, ?_⟩
        rw [hnx, ← List.append_assoc, ← zp_add]
        (simp only [LessC, lessS, lessO, belowS, belowO, AV.below, AObj.below, AC.below, List.length_cons, List.length_nil, List.all_cons, List.all_nil, Nat.reduceLT, Int.cast_ofNat_Int, Int.natCast_add, AV.c.injEq, AC.int.injEq, true_and, and_true, and_self, reduceCtorEq, Bool.and_true, Nat.zero_add, Nat.reduceAdd, Nat.reduceLeDiff, eq_self, decide_true, or_true, or_false, false_or] <;> try omega)
        all_goals exact i64_in _ (by omega)
      · have he' : ¬ edge ds num den i k = true := by unfold edge; rw [decide_eq_true_eq]; omega
        rw [if_neg he'] at hnx
        refine ⟨k + 1, ⟨by omega, by omega⟩, by omega, ?_⟩
        rw [hnx]
        (simp only [LessC, lessS, lessO, belowS, belowO, AV.below, AObj.below, AC.below, List.length_cons, List.length_nil, List.all_cons, List.all_nil, Nat.reduceLT, Int.cast_ofNat_Int, Int.natCast_add, AV.c.injEq, AC.int.injEq, true_and, and_true, and_self, reduceCtorEq, Bool.and_true, Nat.zero_add, Nat.reduceAdd, Nat.reduceLeDiff, eq_self, decide_true, or_true, or_false, false_or] <;> try omega)
        all_goals exact i64_in _ (by omega)
    · have hkn : k = ds.length := by omega
      subst hkn
      refine ⟨i + 1, by omega, by omega, ?_⟩
      rw [prsTo_next]
      (simp only [LessC, lessS, lessO, belowS, belowO, AV.below, AObj.below, AC.below, List.length_cons, List.length_nil, List.all_cons, List.all_nil, Nat.reduceLT, Int.cast_ofNat_Int, Int.natCast_add, AV.c.injEq, AC.int.injEq, true_and, and_true, and_self, reduceCtorEq, Bool.and_true, Nat.zero_add, Nat.reduceAdd, Nat.reduceLeDiff, eq_self, decide_true, or_true, or_false, false_or] <;> try omega)
      all_goals exact i64_in _ (by omega)
  have hin : i = ds.length := by omega
  rw [hin, idTo_full]
  have hE := fun (p : Nat × Nat) (hp : p ∈ prsTo (edge ds num den) ds.length ds.length) => prsTo_mem hp
  have hEl := hpl ds.length
  have hnn : ds.length * ds.length ≤ 60 * 60 := Nat.mul_le_mul (by omega) (by omega)
  have hboth := both hE
  generalize prsTo (edge ds num den) ds.length ds.length = E at *
  refine LoopAt.freeze 3 ?_
  simp only [ASt.setObj, ASt.obj, ASt.map, ASt.freeze, AV.map, AObj.map, AC.frz, List.getD_cons_succ, List.getD_cons_zero, List.set_cons_succ, List.set_cons_zero, List.map_cons, List.map_nil, cond_true, cond_false, beq_self_eq_true, Nat.reduceBEq]
  refine LoopAt.inv (ι := Nat) (T := tab) (fun t => [(176, .c (.int .i64 t))]) (fun t => [.gone, .gone, rowI (zs (rnds E ds.length t)), .gone]) (fun t => t ≤ ds.length) (fun t => ds.length - t) tabOK 0 (Nat.zero_le _) ?_ ?_
  · (simp only [LessC, headSt, dsts, opDsts, resetS, putsS, lessS, lessO, belowS, belowO, AV.below, AObj.below, AC.below, List.set_cons_succ, List.set_cons_zero, List.cons_append, List.nil_append, List.append_nil, List.length_cons, List.length_nil, List.all_cons, List.all_nil, Nat.reduceLT, Int.cast_ofNat_Int, AV.c.injEq, AObj.row.injEq, heq_eq_eq, true_and, and_true, and_self, reduceCtorEq, Bool.and_true, Nat.zero_add, Nat.reduceAdd, Nat.reduceLeDiff, eq_self, decide_true, or_true] <;> try omega)
    rfl
  intro t ht'
  have hwl := rnds_len (l := E) (n := ds.length) t
  have hwn : rnds E ds.length (t + 1) = rnd E (rnds E ds.length t) := rfl
  simp only [VCp, headSt, dsts, opDsts, resetS, putsS, VC_skip, VC_region, VC_seq, VC_cond, VC_block, VC_loop, VC_exit, aops_nil, aops_cons, put_some, qop, isQuiet, ASt.eval, AV.need, AV.ac, qbin, binInt, qlen, isScalar, avOf, acOf, eInt, eList, ePair, List.getD_cons_succ, List.getD_cons_zero, List.set_cons_succ, List.set_cons_zero, List.cons_append, List.nil_append, List.append_nil, decide_eq_true_eq, decide_eq_false_iff_not, Int.not_lt, true_and, and_self, Bool.and_true, cond_true, beq_self_eq_true, if_true, eq_self, tab_3, tab_23, tab_39]
  refine ⟨fun h => ?_, fun h => ?_⟩
  · generalize rnds E ds.length t = w at *
    refine LoopAt.inv (ι := Nat) (T := tab) (fun j => [(180, .c (.int .i64 j))]) (fun j => [.gone, .gone, rowI (zs (rnd (E.take j) w)), .gone]) (fun j => j ≤ E.length) (fun j => E.length - j) tabOK 0 (Nat.zero_le _) ?_ ?_
    · simp only [zp_len]
      (simp only [LessC, headSt, dsts, opDsts, resetS, putsS, lessS, lessO, belowS, belowO, AV.below, AObj.below, AC.below, List.set_cons_succ, List.set_cons_zero, List.cons_append, List.nil_append, List.append_nil, List.length_cons, List.length_nil, List.take_zero, List.all_cons, List.all_nil, Nat.reduceLT, Int.cast_ofNat_Int, AV.c.injEq, AObj.row.injEq, heq_eq_eq, true_and, and_true, and_self, reduceCtorEq, Bool.and_true, Nat.zero_add, Nat.reduceAdd, Nat.reduceLeDiff, eq_self, decide_true, or_true] <;> try omega)
      rfl
    intro j hj
    have hrl : (rnd (E.take j) w).length = ds.length := by rw [rnd_len, hwl]
    simp only [VCp, headSt, dsts, opDsts, resetS, putsS, VC_skip, VC_region, VC_draw, VC_seq, VC_cond, VC_block, VC_loop, VC_exit, aops_nil, aops_cons, put_some, put_none, aop, qop, isQuiet, ASt.eval, ASt.ev, AV.strip, AV.need, AV.ac, AV.cells, AV.isTup, qbin, binInt, qlen, qindexAddr, qload, splice, ned, AC.fits, astore, newObj, ASt.setObj, ASt.obj, DV.ac, ofCells, TI.isAgg, isScalar, avOf, acOf, eInt, eList, ePair, List.getD_cons_succ, List.getD_cons_zero, List.set_cons_succ, List.set_cons_zero, List.map_cons, List.map_nil, List.cons_append, List.nil_append, List.append_nil, List.length_cons, List.length_nil, List.drop_succ_cons, List.drop_nil, List.take_succ_cons, List.take_zero, List.take_nil, List.all_cons, List.all_nil, Int.toNat_natCast, decide_eq_true_eq, decide_eq_false_iff_not, Int.not_lt, true_and, and_self, reduceCtorEq, not_false_eq_true, Bool.and_true, cond_true, beq_self_eq_true, if_true, if_false, Nat.zero_add, Nat.reduceAdd, Nat.reduceEqDiff, Nat.le_refl, eq_self, Nat.succ_ne_self, tab_3, tab_23, tab_39, tab_40, zp_len]
    refine ⟨fun h => ?_, fun h => ?_⟩
    · have hj' : j < E.length := by omega
      have hp := hE (E.getD j (0, 0)) (getD_in _ hj')
      have hnx := rnd_next (w := w) hj'
      have hz := zp_get (l := E) (0, 0) hj'
      refine ⟨⟨by omega, by omega⟩, ?_⟩
      simp only [hz]
      generalize rnd (E.take j) w = r at *
      generalize E.getD j (0, 0) = p at *
      obtain ⟨a, b⟩ := p
      simp only at hp hnx ⊢
      refine DrawAt.plan tabOK mixed (.take 0 true (.take 1 true (.take 2 true (.take 3 true (.take 4 true (.take 5 true (.take 6 true (.take 7 true (.take 8 true (.take 9 true (.take 10 true (.take 11 true .done)))))))))))) (by decide +kernel) ?_
      simp only [avc_done, avc_take, qstep, ownLoad, VC_draw, put_some, qop, isQuiet, ASt.eval, AV.need, AV.ac, qmin, qindexAddr, qload, ASt.obj, DV.ac, ofCells, TI.isAgg, avOf, acOf, eInt, eList, ePair, List.getD_cons_succ, List.getD_cons_zero, List.set_cons_succ, List.set_cons_zero, List.map_cons, List.map_nil, List.cons_append, List.nil_append, List.length_cons, List.length_nil, List.drop_succ_cons, List.drop_zero, List.take_succ_cons, List.take_zero, List.take_nil, List.headD_cons, List.getElem?_cons_succ, List.getElem?_cons_zero, Int.reduceLT, Int.reduceLE, Int.cast_ofNat_Int, Int.toNat_natCast, Int.reduceToNat, true_and, and_true, and_self, not_false_eq_true, Bool.true_eq_false, Nat.add_zero, Nat.zero_add, Nat.reduceAdd, Nat.reduceMul, Nat.reduceLeDiff, Nat.le_refl, eq_self, Nat.succ_ne_self, or_true, or_false, tab_3, tab_25, tab_40, zs_len, hrl, zs_get]
      refine ⟨⟨by omega, by omega⟩, by omega, ⟨by omega, by omega⟩, by omega, ?_⟩
      have hmin : (if ((r.getD b 0 : Nat) : Int) < ((r.getD a 0 : Nat) : Int) then ((r.getD b 0 : Nat) : Int) else ((r.getD a 0 : Nat) : Int)) = ((min (r.getD a 0) (r.getD b 0) : Nat) : Int) := by split <;> omega
      simp only [hmin]
      refine DrawAt.fix 4 ?_
      simp only [ASt.fix, AC.fixp, ASt.setObj, ASt.obj, ASt.map, AV.map, AObj.map, dvs, AC.dv, List.getD_cons_succ, List.getD_cons_zero, List.set_cons_succ, List.set_cons_zero, List.map_cons, List.map_nil, List.drop_succ_cons, List.drop_zero, cond_true, beq_self_eq_true]
      refine DrawAt.plan tabOK mixed (.take 0 true (.take 1 true (.take 2 true (.take 3 false (.take 4 false (.take 5 false (.take 6 true (.take 7 false (.take 8 true (.alt 9 (.take 10 true (.alt 11 .done .stop)) .stop)))))))))) (by decide +kernel) ?_
      simp only [avc_done, avc_stop, avc_take, avc_alt, qstep, lstep, ownLoad, VC_region, aops_nil, aops_cons, put_some, put_none, aop, qop, isQuiet, ASt.eval, ASt.ev, AV.strip, AV.need, AV.ac, AV.cells, AV.isTup, qbin, binInt, qindexAddr, qload, splice, ned, astore, ASt.setObj, ASt.obj, frzRefs, dvs, AC.dv, DV.ac, leD, leD1, ofCells, TI.isAgg, isScalar, avOf, acOf, eInt, eList, ePair, List.getD_cons_succ, List.getD_cons_zero, List.set_cons_succ, List.set_cons_zero, List.map_cons, List.map_nil, List.cons_append, List.nil_append, List.append_nil, List.length_cons, List.length_nil, List.drop_succ_cons, List.drop_zero, List.drop_nil, List.take_succ_cons, List.take_zero, List.take_nil, List.headD_cons, List.getElem?_cons_succ, List.getElem?_cons_zero, Int.reduceLT, Int.reduceLE, Int.cast_ofNat_Int, DV.int.injEq, exists_eq_left', Int.toNat_natCast, Int.reduceToNat, List.length_set, true_and, and_true, and_self, not_false_eq_true, Bool.false_eq_true, Nat.zero_add, Nat.reduceAdd, Nat.reduceMul, Nat.reduceLeDiff, Nat.le_refl, eq_self, Nat.succ_ne_self, or_true, tab_3, tab_25, tab_40, zs_len, hrl, zs_get, zs_set]
      refine ⟨⟨by omega, by omega⟩, by omega, ⟨by omega, by omega⟩, by omega, j + 1, by omega, by omega, ?_⟩
      rw [hnx, show stp r (a, b) = (r.set a (min (r.getD a 0) (r.getD b 0))).set b (min (r.getD a 0) (r.getD b 0)) from rfl]
      (simp only [LessC, lessS, lessO, belowS, belowO, AV.below, AObj.below, AC.below, List.length_cons, List.length_nil, List.all_cons, List.all_nil, Nat.reduceLT, Int.cast_ofNat_Int, Int.natCast_add, AV.c.injEq, AC.int.injEq, true_and, and_true, and_self, reduceCtorEq, Bool.and_true, Nat.zero_add, Nat.reduceAdd, Nat.reduceLeDiff, eq_self, decide_true, or_true, or_false, false_or] <;> try omega)
      all_goals exact i64_in _ (by omega)
    · have hjn : j = E.length := by omega
      rw [hjn, List.take_length]
      refine ⟨t + 1, by omega, by omega, ?_⟩
      rw [hwn]
      (simp only [LessC, lessS, lessO, belowS, belowO, AV.below, AObj.below, AC.below, List.length_cons, List.length_nil, List.all_cons, List.all_nil, Nat.reduceLT, Int.cast_ofNat_Int, Int.natCast_add, AV.c.injEq, AC.int.injEq, true_and, and_true, and_self, reduceCtorEq, Bool.and_true, Nat.zero_add, Nat.reduceAdd, Nat.reduceLeDiff, eq_self, decide_true, or_true, or_false, false_or] <;> try omega)
      all_goals exact i64_in _ (by omega)
  have htn : t = ds.length := by omega
  rw [htn] at hwl ⊢
  rw [hboth] at hwl ⊢
  generalize mrgs E ds.length = R at *
  refine LoopAt.freeze 2 ?_
  simp only [ASt.setObj, ASt.obj, ASt.map, ASt.freeze, AV.map, AObj.map, AC.frz, List.getD_cons_succ, List.getD_cons_zero, List.set_cons_succ, List.set_cons_zero, List.map_cons, List.map_nil, cond_true, beq_self_eq_true]
  refine LoopAt.adopt 30 25 1 (List Int) [] (fun xs => [.list 1 Int 0 (fun n => [.int .i64 n]) xs]) rfl (fun _ => rfl) ?_
  simp only [newObj, adopt, List.set_cons_succ, List.set_cons_zero, List.cons_append, List.nil_append, List.length_cons, List.length_nil, Nat.zero_add, Nat.reduceAdd]
  refine LoopAt.inv (ι := Nat) (T := tab) (fun i => [(209, .c (.int .i64 i)), (30, .c (.sl 4))]) (fun i => [.gone, .gone, .gone, .gone, rowII (outTo R ds.length i)]) (fun i => i ≤ ds.length) (fun i => ds.length - i) tabOK 0 (Nat.zero_le _) ?_ ?_
  · (simp only [LessC, headSt, dsts, opDsts, resetS, putsS, lessS, lessO, belowS, belowO, AV.below, AObj.below, AC.below, List.set_cons_succ, List.set_cons_zero, List.cons_append, List.nil_append, List.append_nil, List.length_cons, List.length_nil, List.all_cons, List.all_nil, Nat.reduceLT, Int.cast_ofNat_Int, AV.c.injEq, AObj.row.injEq, heq_eq_eq, true_and, and_true, and_self, reduceCtorEq, Bool.and_true, Nat.zero_add, Nat.reduceAdd, Nat.reduceLeDiff, eq_self, decide_true, or_true] <;> try omega)
    rfl
  intro i hi
  have hol := outTo_len (r := R) (n := ds.length) (i := i)
  simp only [VCp, headSt, dsts, opDsts, resetS, putsS, VC_skip, VC_region, VC_seq, VC_cond, VC_block, VC_loop, VC_exit, aops_nil, aops_cons, put_some, aop, qop, isQuiet, ASt.eval, ASt.ev, AV.strip, AV.need, AV.ac, AV.isTup, qbin, binInt, qlen, ned, isScalar, avOf, acOf, eInt, eList, List.getD_cons_succ, List.getD_cons_zero, List.set_cons_succ, List.set_cons_zero, List.map_cons, List.map_nil, List.cons_append, List.nil_append, List.append_nil, decide_eq_true_eq, decide_eq_false_iff_not, Int.not_lt, true_and, and_self, Bool.and_true, cond_true, beq_self_eq_true, if_true, eq_self, tab_3, tab_25, zs_len, hwl]
  refine ⟨fun h => ?_, fun h => ?_⟩
  · have hi' : i < ds.length := by omega
    have hnx := outTo_next (r := R) (n := ds.length) (i := i)
    refine LoopAt.thenFreeze 5 ?_
    refine LoopAt.adopt 32 3 1 Int 0 (fun n => [.int .i64 n]) rfl (fun _ => rfl) ?_
    simp only [newObj, ASt.setObj, ASt.obj, ASt.map, ASt.freeze, adopt, List.set_cons_succ, List.set_cons_zero, List.cons_append, List.nil_append, List.length_cons, List.length_nil, Nat.zero_add, Nat.reduceAdd]
    refine LoopAt.inv (ι := Nat) (T := tab) (fun k => [(214, .c (.int .i64 k)), (32, .c (.sl 5))]) (fun k => [.gone, .gone, .gone, .gone, rowII (outTo R ds.length i), rowI (zs (grpTo R i k))]) (fun k => k ≤ ds.length) (fun k => ds.length - k) tabOK 0 (Nat.zero_le _) ?_ ?_
    · (simp only [LessC, headSt, dsts, opDsts, resetS, putsS, lessS, lessO, belowS, belowO, AV.below, AObj.below, AC.below, List.set_cons_succ, List.set_cons_zero, List.cons_append, List.nil_append, List.append_nil, List.length_cons, List.length_nil, List.all_cons, List.all_nil, Nat.reduceLT, Int.cast_ofNat_Int, AV.c.injEq, AObj.row.injEq, heq_eq_eq, true_and, and_true, and_self, reduceCtorEq, Bool.and_true, Nat.zero_add, Nat.reduceAdd, Nat.reduceLeDiff, eq_self, decide_true, or_true] <;> try omega)
      rfl
    intro k hk
    have hgl := grpTo_len (r := R) (i := i) (k := k)
    have hgn := grpTo_next (r := R) (i := i) (k := k)
    simp only [VCp, headSt, dsts, opDsts, resetS, putsS, ownSl, ownPart, appRows, VC_skip, VC_region, VC_seq, VC_cond, VC_block, VC_exit, aops_nil, aops_cons, put_some, aop, qop, isQuiet, ASt.eval, ASt.ev, AV.strip, AV.need, AV.ac, AV.cells, AV.isTup, qbin, binInt, qlen, qindexAddr, qload, needAll, ned, partsOf, fitAll, AC.fits, abuildSlice, elems, setPart, appSrc, aappend, newObj, ASt.setObj, ASt.obj, ASt.map, frzRefs, AV.map, AObj.map, AC.frz, AC.kill, dvs, AC.dv, DV.ac, leD, leD1, ofCells, TI.isAgg, isScalar, avOf, acOf, eInt, eList, List.getD_cons_succ, List.getD_cons_zero, List.set_cons_succ, List.set_cons_zero, List.map_cons, List.map_nil, List.replicate_succ, List.replicate_zero, List.cons_append, List.nil_append, List.append_nil, List.length_cons, List.length_nil, List.take_succ_cons, List.take_nil, List.headD_cons, List.all_cons, List.all_nil, List.flatMap_cons, List.flatMap_nil, Nat.reduceLT, ↓ex_rfl, cast_eq, heq_eq_eq, DV.int.injEq, exists_eq_left', Int.toNat_natCast, decide_eq_true_eq, decide_eq_false_iff_not, Int.not_lt, true_and, and_true, and_self, not_false_eq_true, Bool.and_true, cond_true, cond_false, beq_self_eq_true, if_true, if_false, Nat.zero_add, Nat.reduceAdd, Nat.reduceMul, Nat.reduceBEq, Nat.reduceEqDiff, Nat.reduceLeDiff, Nat.le_refl, eq_self, Nat.succ_ne_self, tab_3, tab_25, tab_46, zs_len, hwl, zs_get]
    refine ⟨fun h => ?_, fun h => ?_⟩
    · refine ⟨⟨by omega, by omega⟩, fun he => ?_, fun he => ?_⟩
      · rw [if_pos (by omega)] at hgn
        refine ⟨by omega, by omega, k + 1, by omega, by omega, ?_⟩
        rw [hgn, ← zs_add]
        (simp only [LessC, lessS, lessO, belowS, belowO, AV.below, AObj.below, AC.below, List.length_cons, List.length_nil, List.all_cons, List.all_nil, Nat.reduceLT, Int.cast_ofNat_Int, Int.natCast_add, AV.c.injEq, AC.int.injEq, true_and, and_true, and_self, reduceCtorEq, Bool.and_true, Nat.zero_add, Nat.reduceAdd, Nat.reduceLeDiff, eq_self, decide_true, or_true, or_false, false_or] <;> try omega)
        all_goals exact i64_in _ (by omega)
      · rw [if_neg (by omega)] at hgn
        refine ⟨k + 1, by omega, by omega, ?_⟩
        rw [hgn]
        (simp only [LessC, lessS, lessO, belowS, belowO, AV.below, AObj.below, AC.below, List.length_cons, List.length_nil, List.all_cons, List.all_nil, Nat.reduceLT, Int.cast_ofNat_Int, Int.natCast_add, AV.c.injEq, AC.int.injEq, true_and, and_true, and_self, reduceCtorEq, Bool.and_true, Nat.zero_add, Nat.reduceAdd, Nat.reduceLeDiff, eq_self, decide_true, or_true, or_false, false_or] <;> try omega)
        all_goals exact i64_in _ (by omega)
    · have hkn : k = ds.length := by omega
      rw [hkn]
      refine ⟨fun hl => ?_, fun hl => ?_⟩
      · rw [if_pos (by omega)] at hnx
        refine ⟨_, rfl, by omega, by omega, i + 1, by omega, by omega, ?_⟩
        rw [hnx]
        (simp only [LessC, lessS, lessO, belowS, belowO, AV.below, AObj.below, AC.below, List.length_cons, List.length_nil, List.all_cons, List.all_nil, Nat.reduceLT, Int.cast_ofNat_Int, Int.natCast_add, AV.c.injEq, AC.int.injEq, true_and, and_true, and_self, reduceCtorEq, Bool.and_true, Nat.zero_add, Nat.reduceAdd, Nat.reduceLeDiff, eq_self, decide_true, or_true, or_false, false_or] <;> try omega)
        all_goals exact i64_in _ (by omega)
      · rw [if_neg (by omega)] at hnx
        refine ⟨i + 1, by omega, by omega, ?_⟩
        rw [hnx]
        (simp only [LessC, lessS, lessO, belowS, belowO, AV.below, AObj.below, AC.below, List.length_cons, List.length_nil, List.all_cons, List.all_nil, Nat.reduceLT, Int.cast_ofNat_Int, Int.natCast_add, AV.c.injEq, AC.int.injEq, true_and, and_true, and_self, reduceCtorEq, Bool.and_true, Nat.zero_add, Nat.reduceAdd, Nat.reduceLeDiff, eq_self, decide_true, or_true, or_false, false_or] <;> try omega)
        all_goals exact i64_in _ (by omega)
  have hin : i = ds.length := by omega
  rw [hin]
  refine CallAt.plain (equalP_spec (zp E) (by rw [zp_len]; omega)) rfl ?_
  rintro r os ⟨rfl, rfl⟩
  simp only [VC_ret, aops_nil, aops_cons, put_some, aop, qop, isQuiet, ASt.eval, ASt.ev, AV.strip, AV.need, AV.ac, AV.isTup, onG, guardOf, qpick, ned, AV.map, avOf, acOf, AC.ren, giveBack, afterCall, List.getD_cons_succ, List.getD_cons_zero, List.set_cons_succ, List.set_cons_zero, List.map_cons, List.map_nil, List.append_nil, List.length_cons, List.length_nil, List.getElem?_cons_succ, List.getElem?_cons_zero, Option.bind_some, implies_true, true_and, and_true, and_self, forall_const, false_implies, Bool.true_eq_false, beq_self_eq_true, Nat.zero_add, Nat.reduceAdd, eq_self]
  have hol2 := outTo_len (r := R) (n := ds.length) (i := ds.length)
  refine CallAt.view [4] (equalII_spec (outTo R ds.length ds.length) (by omega) (fun x hx => by have := outTo_mem hx; omega)) rfl (fun r os h => by obtain ⟨rfl, rfl⟩ := h; exact ⟨trivial, fun _ h => by cases h⟩) ?_
  rintro r os ⟨rfl, rfl⟩
  simp only [VC_ret, aops_nil, aops_cons, put_some, qop, isQuiet, ASt.eval, AV.need, AV.ac, qpick, qpick0, AV.map, avOf, acOf, AC.ren, giveBack, afterCall, List.getD_cons_succ, List.getD_cons_zero, List.set_cons_succ, List.set_cons_zero, List.map_nil, List.append_nil, List.length_cons, List.length_nil, true_and, and_self, cond_true, Nat.zero_add, Nat.reduceAdd]
  (refine RetAt.leaf ?_ ?_ <;> simp only [resOf, tupOf, ASt.eval, AV.strip, AV.need, AV.map, AC.ren, List.getD_cons_succ, List.getD_cons_zero, and_self, eq_self])
end Go.Vc.Ng
