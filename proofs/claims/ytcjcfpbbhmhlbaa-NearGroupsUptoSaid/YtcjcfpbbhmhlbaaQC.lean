/- Pairs. -/
import Derived.Test.YtcjcfpbbhmhlbaaQB
set_option linter.unusedVariables false
set_option linter.unusedSimpArgs false
namespace Go.Vc.Ng
open Go.Proofs Go.IntWalk Go.Vc.Ne
set_option maxRecDepth 100000
/-- what two texts have in common, and together -/
noncomputable def cmI (a b : List Int) : Nat := inB (refS b) (refS a)
noncomputable def allI (a b : List Int) : Nat := (refS b).length + (refS a).length - inB (refS b) (refS a)
noncomputable def edge (ds : List (List Int)) (num den : Int) (i k : Nat) : Bool := decide (num * (allI (ds.getD i []) (ds.getD k []) : Int) ≤ (cmI (ds.getD i []) (ds.getD k []) : Int) * den)
theorem mul_b {a b A B : Int} (h1 : 0 ≤ a) (h2 : a ≤ A) (h3 : 0 ≤ b) (h4 : b ≤ B) : 0 ≤ a * b ∧ a * b ≤ A * B := ⟨Int.mul_nonneg h1 h3, Int.mul_le_mul h2 h4 h3 (by omega)⟩
theorem cmI_le {a b : List Int} (hl : a.length ≤ 1048576) : cmI a b ≤ 1048577 := Nat.le_trans inB_le (refS_len hl)
theorem allI_le {a b : List Int} (hl : a.length ≤ 1048576) (hl2 : b.length ≤ 1048576) : allI a b ≤ 2097154 := by
  have h1 := refS_len hl
  have h2 := refS_len hl2
  unfold allI
  omega
theorem common2_spec (a b : List Int) (hl : a.length ≤ 1048576) (hl2 : b.length ≤ 1048576) : ACall Try.prog 37 [.c (rS (shS a)), .c (rS (shS b))] [] (fun r os =>
    r = .tup [(false, [.int .i64 (cmI a b : Nat)]), (false, [.int .i64 (allI a b : Nat)])] ∧ os = []) := by
  have h := common_spec (shS a) (shS b) (shS_len hl) (shS_len hl2)
  obtain ⟨e1, e2⟩ := com_ref a b
  have e3 := (com_ref b b).2
  have hle : inB (refS b) (refS a) ≤ (refS a).length := inB_le
  unfold cmI allI
  rw [e1, e2, e3, show ((refS a).length : Int) + ((refS b).length : Int) - ((inB (refS b) (refS a) : Nat) : Int) = ((((refS b).length + (refS a).length - inB (refS b) (refS a) : Nat)) : Int) by omega] at h
  exact h
theorem chk_zero {ds : List (List Int)} {num den : Int} (h : chk ds num den = 0) : ds.length ≤ 60 ∧ 1 ≤ den ∧ den ≤ 1000 ∧ 0 ≤ num ∧ num ≤ den := by
  unfold chk at h
  split at h
  · cases h
  · rename_i h1
    split at h
    · cases h
    · have : ¬ 60 < ds.length := fun h2 => h1 (.inl h2)
      omega
theorem getD_len {ds : List (List Int)} {B : Nat} (h : ∀ d ∈ ds, d.length ≤ B) (i : Nat) : (ds.getD i []).length ≤ B := by
  by_cases hi : i < ds.length
  · exact h _ (getD_in _ hi)
  · simp [List.getD, List.getElem?_eq_none (show ds.length ≤ i by omega)]
abbrev rowSS (xss : List (List ByteArray)) : AObj := .row 74 1 (List ByteArray) [] (fun xs => [.list 1 ByteArray ⟨#[]⟩ (fun s => [.str s]) xs]) xss
abbrev rowP (ps : List (Int × Int)) : AObj := .row 40 2 (Int × Int) (0, 0) (fun p => [.int .i64 p.1, .int .i64 p.2]) ps
def PairsR (ds : List (List Int)) (num den : Int) (r : AV) (os : List AObj) : Prop :=
  (¬ chk ds num den = 0 ∧ r = .tup [(false, [.nil]), (false, [.int .i64 (chk ds num den)])] ∧ os = []) ∨
  (chk ds num den = 0 ∧ r = .tup [(false, [.sl 0]), (false, [.int .i64 0])] ∧ os = [rowP (zp (prsTo (edge ds num den) ds.length ds.length))])
set_option maxHeartbeats 8000000 in
theorem pairs_spec (ds : List (List Int)) (num den : Int) (hl : ds.length ≤ 1048576) (hb : ∀ d ∈ ds, d.length ≤ 1048576) : ACall Try.prog 15 [.c (rBB ds), .c (.int .i64 num), .c (.int .i64 den)] [] (PairsR ds num den) := by
  have hg := getD_len hb
  have key : chk ds num den = 0 → ds.length ≤ 60 ∧ 1 ≤ den ∧ den ≤ 1000 ∧ 0 ≤ num ∧ num ≤ den := chk_zero
  (refine ACall.of_body (nt := 76) (rs := [.tmp 6, .tmp 7]) tabOK Try.func15 rfl rfl rfl rfl ?_; simp only [startSt, List.length_cons, List.length_nil, Nat.reduceAdd, Nat.reduceSub, List.replicate_succ, List.replicate_zero, List.cons_append, List.nil_append])
  simp only [VCp, VC_region, VC_seq, aops_nil, aops_cons, put_some, aop, qop, isQuiet, ASt.eval, ASt.ev, AV.strip, AV.need, AV.isTup, ned, avOf, acOf, List.getD_cons_succ, List.getD_cons_zero, List.set_cons_succ, List.set_cons_zero, List.map_cons, List.map_nil, true_and, and_self, Bool.and_true, cond_true, beq_self_eq_true, eq_self]
  refine CallAt.plain (check_spec ds num den hl) rfl ?_
  rintro r os ⟨rfl, rfl⟩
  simp only [VC_skip, VC_region, VC_seq, VC_cond, VC_block, VC_loop, VC_ret, aops_nil, aops_cons, put_some, qop, isQuiet, ASt.eval, AV.need, AV.ac, qbin, binInt, qlen, AV.map, isScalar, avOf, acOf, AC.ren, giveBack, afterCall, eInt, eList, List.getD_cons_succ, List.getD_cons_zero, List.set_cons_succ, List.set_cons_zero, List.map_nil, List.append_nil, List.length_nil, decide_eq_false_iff_not, Bool.not_eq_true', true_and, and_self, Bool.and_true, cond_true, beq_self_eq_true, eq_self, tab_23, tab_28]
  refine ⟨fun h0 => ?_, fun h0 => ?_⟩
  · (refine RetAt.leaf ?_ ?_ <;> simp only [resOf, tupOf, compOf, ASt.eval, AV.strip, AV.need, AV.map, findIx, AC.ren, List.getD_cons_succ, List.getD_cons_zero, List.map_cons, List.map_nil, and_self])
    exact .inl ⟨h0, rfl, rfl⟩
  have h0 : chk ds num den = 0 := by simpa using h0
  obtain ⟨k1, k2, k3, k4, k5⟩ := key h0
  refine LoopAt.adopt 9 74 1 (List ByteArray) [] (fun xs => [.list 1 ByteArray ⟨#[]⟩ (fun s => [.str s]) xs]) rfl (fun _ => rfl) ?_
  simp only [newObj, adopt, List.set_cons_succ, List.set_cons_zero, List.nil_append, List.length_nil]
  refine LoopAt.inv (ι := Nat) (T := tab) (fun i => [(26, .c (.int .i64 i)), (9, .c (.sl 0))]) (fun i => [rowSS ((ds.take i).map shS)]) (fun i => i ≤ ds.length) (fun i => ds.length - i) tabOK 0 (Nat.zero_le _) ?_ ?_
  · (simp only [LessC, headSt, dsts, opDsts, resetS, putsS, lessS, lessO, belowS, belowO, AV.below, AObj.below, AC.below, List.set_cons_succ, List.set_cons_zero, List.map_nil, List.cons_append, List.nil_append, List.append_nil, List.length_cons, List.length_nil, List.take_zero, Nat.reduceLT, Int.cast_ofNat_Int, AV.c.injEq, and_self, reduceCtorEq, Bool.and_true, Nat.zero_add, Nat.reduceLeDiff, eq_self, decide_true, or_true] <;> try omega)
  intro i hi
  have hil : ((ds.take i).map shS).length = i := by simp; omega
  simp only [VCp, headSt, dsts, opDsts, resetS, putsS, VC_skip, VC_region, VC_seq, VC_cond, VC_block, VC_loop, VC_exit, aops_nil, aops_cons, put_some, aop, qop, isQuiet, ASt.eval, ASt.ev, AV.strip, AV.need, AV.ac, AV.isTup, qbin, binInt, qlen, qindexAddr, qload, ned, DV.ac, ofCells, TI.isAgg, isScalar, avOf, acOf, eInt, eList, List.getD_cons_succ, List.getD_cons_zero, List.set_cons_succ, List.set_cons_zero, List.map_cons, List.map_nil, List.cons_append, List.nil_append, List.append_nil, List.length_cons, List.length_nil, List.take_succ_cons, List.take_nil, List.headD_cons, Int.toNat_natCast, decide_eq_true_eq, decide_eq_false_iff_not, Int.not_lt, true_and, and_self, not_false_eq_true, Bool.and_true, cond_true, beq_self_eq_true, if_true, Nat.zero_add, Nat.le_refl, eq_self, Nat.succ_ne_self, tab_3, tab_22, tab_23]
  refine ⟨fun h => ?_, fun h => ?_⟩
  · refine ⟨⟨by omega, by omega⟩, ?_⟩
    have hnx : (ds.take (i + 1)).map shS = (ds.take i).map shS ++ [shS (ds.getD i [])] := by rw [take_next ds i [] (by omega), List.map_append]; rfl
    refine CallAt.thenFreeze 1 ?_
    refine CallAt.plain (shingles_spec (ds.getD i []) (hg i)) rfl ?_
    intro r os h1
    rcases h1 with ⟨rfl, rfl⟩ | ⟨zs, m, rfl, rfl, hz, hm⟩
    · simp only [ownSl, ownPart, appRows, VC_region, aops_nil, aops_cons, put_some, aop, qop, isQuiet, ASt.eval, AV.need, AV.ac, AV.cells, AV.isTup, qbin, binInt, needAll, ned, partsOf, fitAll, AC.fits, abuildSlice, elems, setPart, appSrc, aappend, newObj, ASt.setObj, ASt.obj, ASt.map, ASt.freeze, frzRefs, AV.map, AObj.map, AC.frz, AC.kill, dvs, AC.dv, leD, leD1, isScalar, avOf, acOf, AC.ren, backIx, giveBack, afterCall, frzF, eInt, eStr, eList, List.getD_cons_succ, List.getD_cons_zero, List.set_cons_succ, List.set_cons_zero, List.map_cons, List.map_nil, List.replicate_succ, List.replicate_zero, List.cons_append, List.nil_append, List.append_nil, List.length_cons, List.length_nil, List.all_cons, List.all_nil, List.flatMap_cons, List.flatMap_nil, List.getElem?_nil, Nat.reduceLT, ↓ex_rfl, cast_eq, heq_eq_eq, true_and, and_true, and_self, not_false_eq_true, Bool.and_true, cond_true, cond_false, beq_self_eq_true, Nat.add_zero, Nat.zero_add, Nat.reduceAdd, Nat.reduceSub, Nat.reduceMul, Nat.reduceBEq, Nat.reduceLeDiff, Nat.le_refl, eq_self, Nat.succ_ne_self, tab_3, tab_73, tab_74, hil]
      refine ⟨_, rfl, by omega, by omega, i + 1, by omega, by omega, ?_⟩
      rw [hnx]
      (simp only [LessC, lessS, lessO, belowS, belowO, AV.below, AObj.below, AC.below, List.length_cons, List.length_nil, Nat.reduceLT, Int.cast_ofNat_Int, Int.natCast_add, AV.c.injEq, AC.int.injEq, true_and, and_true, and_self, reduceCtorEq, Bool.and_true, Nat.zero_add, Nat.reduceLeDiff, eq_self, decide_true, or_true, or_false, false_or] <;> try omega)
      exact i64_in _ (by omega)
    · simp only [ownSl, ownPart, appRows, VC_region, aops_nil, aops_cons, put_some, aop, qop, isQuiet, ASt.eval, AV.need, AV.ac, AV.cells, AV.isTup, qbin, binInt, needAll, ned, partsOf, fitAll, AC.fits, abuildSlice, elems, setPart, appSrc, aappend, newObj, ASt.setObj, ASt.obj, ASt.map, ASt.freeze, frzRefs, AV.map, AObj.map, AC.frz, AC.kill, dvs, AC.dv, leD, leD1, isScalar, avOf, acOf, AC.ren, backIx, giveBack, afterCall, frzF, eInt, eStr, eList, List.getD_cons_succ, List.getD_cons_zero, List.set_cons_succ, List.set_cons_zero, List.map_cons, List.map_nil, List.replicate_succ, List.replicate_zero, List.cons_append, List.nil_append, List.append_nil, List.length_cons, List.length_nil, List.drop_zero, List.all_cons, List.all_nil, List.flatMap_cons, List.flatMap_nil, List.getElem?_nil, Nat.reduceLT, ↓ex_rfl, cast_eq, heq_eq_eq, true_and, and_true, and_self, not_false_eq_true, Bool.and_true, cond_true, cond_false, beq_self_eq_true, Nat.add_zero, Nat.zero_add, Nat.reduceAdd, Nat.reduceSub, Nat.reduceMul, Nat.reduceBEq, Nat.reduceLeDiff, Nat.le_refl, eq_self, Nat.succ_ne_self, tab_3, tab_73, tab_74, hil, hz]
      refine ⟨_, rfl, by omega, by omega, i + 1, by omega, by omega, ?_⟩
      rw [hnx]
      (simp only [LessC, lessS, lessO, belowS, belowO, AV.below, AObj.below, AC.below, List.length_cons, List.length_nil, Nat.reduceLT, Int.cast_ofNat_Int, Int.natCast_add, AV.c.injEq, AC.int.injEq, true_and, and_true, and_self, reduceCtorEq, Bool.and_true, Nat.zero_add, Nat.reduceLeDiff, eq_self, decide_true, or_true, or_false, false_or] <;> try omega)
      exact i64_in _ (by omega)
  · have hin : i = ds.length := by omega
    rw [hin, List.take_length]
    refine LoopAt.freeze 0 ?_
    simp only [ASt.setObj, ASt.obj, ASt.map, ASt.freeze, AV.map, AObj.map, AC.frz, List.getD_cons_zero, List.set_cons_zero, List.map_cons, List.map_nil, cond_true, beq_self_eq_true]
    refine LoopAt.adopt 12 40 2 (Int × Int) (0, 0) (fun p => [.int .i64 p.1, .int .i64 p.2]) rfl (fun _ => rfl) ?_
    simp only [newObj, adopt, List.set_cons_succ, List.set_cons_zero, List.cons_append, List.nil_append, List.length_cons, List.length_nil, Nat.zero_add]
    have hpl := prsTo_len (f := edge ds num den) (n := ds.length)
    refine LoopAt.inv (ι := Nat) (T := tab) (fun i => [(38, .c (.int .i64 i)), (12, .c (.sl 1))]) (fun i => [.gone, rowP (zp (prsTo (edge ds num den) ds.length i))]) (fun i => i ≤ ds.length) (fun i => ds.length - i) tabOK 0 (Nat.zero_le _) ?_ ?_
    · (simp only [LessC, headSt, dsts, opDsts, resetS, putsS, lessS, lessO, belowS, belowO, AV.below, AObj.below, AC.below, List.set_cons_succ, List.set_cons_zero, List.cons_append, List.nil_append, List.append_nil, List.length_cons, List.length_nil, Nat.reduceLT, Int.cast_ofNat_Int, AV.c.injEq, AObj.row.injEq, heq_eq_eq, true_and, and_true, and_self, reduceCtorEq, Bool.and_true, Nat.zero_add, Nat.reduceAdd, Nat.reduceLeDiff, eq_self, decide_true, or_true] <;> try omega)
      rfl
    intro i hi
    simp only [VCp, headSt, dsts, opDsts, resetS, putsS, VC_skip, VC_region, VC_seq, VC_cond, VC_block, VC_loop, VC_exit, VC_ret, aops_nil, aops_cons, put_some, qop, isQuiet, ASt.eval, AV.need, AV.ac, qbin, binInt, isScalar, avOf, acOf, eInt, List.getD_cons_succ, List.getD_cons_zero, List.set_cons_succ, List.set_cons_zero, List.cons_append, List.nil_append, List.append_nil, decide_eq_true_eq, decide_eq_false_iff_not, Int.not_lt, true_and, and_self, if_true, eq_self, tab_3]
    refine ⟨fun h => ?_, fun h => ?_⟩
    · have hi' : i < ds.length := by omega
      have w1 : IntKind.i64.wrap ((i : Int) + 1) = ((i + 1 : Nat) : Int) := by rw [i64_in _ (by omega)]; omega
      simp only [w1]
      refine LoopAt.inv (ι := Nat) (T := tab) (fun k => [(14, .c (.int .i64 k)), (12, .c (.sl 1))]) (fun k => [.gone, rowP (zp (prsTo (edge ds num den) ds.length i ++ rowTo (edge ds num den) i k))]) (fun k => i < k ∧ k ≤ ds.length) (fun k => ds.length - k) tabOK (i + 1) ⟨by omega, by omega⟩ ?_ ?_
      · (simp only [LessC, headSt, dsts, opDsts, resetS, putsS, lessS, lessO, belowS, belowO, AV.below, AObj.below, AC.below, List.set_cons_succ, List.set_cons_zero, List.cons_append, List.nil_append, List.append_nil, List.length_cons, List.length_nil, Nat.reduceLT, Int.cast_ofNat_Int, Int.natCast_add, AV.c.injEq, AObj.row.injEq, heq_eq_eq, true_and, and_true, and_self, reduceCtorEq, Bool.and_true, Nat.zero_add, Nat.reduceAdd, Nat.reduceLeDiff, eq_self, decide_true, or_true] <;> try omega)
        rw [rowTo_zero (Nat.le_refl _), List.append_nil]
      rintro k ⟨hik, hk⟩
      have hpi := hpl i
      have hrk := rowTo_len (f := edge ds num den) (i := i) (k := k)
      have hnn : i * ds.length ≤ 60 * 60 := Nat.mul_le_mul (by omega) (by omega)
      have hzl : (zp (prsTo (edge ds num den) ds.length i ++ rowTo (edge ds num den) i k)).length ≤ 4000 := by rw [zp_len, List.length_append]; omega
      simp only [VCp, headSt, dsts, opDsts, resetS, putsS, VC_skip, VC_region, VC_draw, VC_seq, VC_cond, VC_block, VC_exit, VC_ret, aops_nil, aops_cons, put_some, qop, isQuiet, ASt.eval, AV.need, AV.ac, qbin, binInt, qlen, isScalar, avOf, acOf, eInt, eList, List.getD_cons_succ, List.getD_cons_zero, List.set_cons_succ, List.set_cons_zero, List.cons_append, List.nil_append, List.append_nil, Int.cast_ofNat_Int, Int.natCast_add, decide_eq_true_eq, decide_eq_false_iff_not, Int.not_lt, true_and, and_self, if_true, if_false, Nat.reduceEqDiff, eq_self, Nat.succ_ne_self, tab_3, tab_23]
      refine ⟨fun h => ?_, fun h => ?_⟩
      · have hk' : k < ds.length := by omega
        refine DrawAt.plan tabOK mixed (.take 0 false (.take 1 false (.take 2 false (.take 3 true (.take 4 false (.take 5 false (.take 6 false (.take 7 true (.alt 8 (.take 9 true (.take 10 true (.take 11 true (.take 12 true (.take 13 true .done))))) .stop))))))))) (by decide +kernel) ?_
        simp only [avc_stop, avc_take, avc_alt, qstep, lstep, ownLoad, put_n0, put_some, aop, qop, isQuiet, ASt.eval, ASt.ev, AV.strip, AV.need, AV.ac, AV.isTup, qindexAddr, qload, ned, DV.ac, ofCells, TI.isAgg, eStr, eList, List.getD_cons_succ, List.getD_cons_zero, List.set_cons_succ, List.set_cons_zero, List.map_cons, List.map_nil, List.length_cons, List.length_nil, List.take_succ_cons, List.take_nil, List.headD_cons, List.getElem?_cons_succ, List.getElem?_cons_zero, Int.toNat_natCast, true_and, and_true, and_self, not_false_eq_true, Bool.false_eq_true, Nat.zero_add, Nat.le_refl, eq_self, Nat.succ_ne_self, or_true, tab_73, tab_74]
        have hml : (ds.map shS).length = ds.length := by simp
        refine ⟨⟨by omega, by omega⟩, ⟨by omega, by omega⟩, ?_⟩
        have g1 : ∀ j, j < ds.length → (ds.map shS).getD j [] = shS (ds.getD j []) := fun j hj => by simp [List.getD, hj]
        rw [g1 i hi', g1 k hk']
        refine CallAt.plain (common2_spec (ds.getD i []) (ds.getD k []) (hg i) (hg k)) rfl ?_
        rintro r os ⟨rfl, rfl⟩
        have c1 := cmI_le (b := ds.getD k []) (hg i)
        have c2 := allI_le (hg i) (hg k)
        have c3 := mul_b (a := (cmI (ds.getD i []) (ds.getD k []) : Int)) (A := 1048577) (b := den) (B := 1000) (by omega) (by omega) (by omega) (by omega)
        have c4 := mul_b (a := num) (A := 1000) (b := (allI (ds.getD i []) (ds.getD k []) : Int)) (B := 2097154) (by omega) (by omega) (by omega) (by omega)
        have w2 : IntKind.i64.wrap ((cmI (ds.getD i []) (ds.getD k []) : Int) * den) = (cmI (ds.getD i []) (ds.getD k []) : Int) * den := i64_in _ (by omega)
        have w3 : IntKind.i64.wrap (num * (allI (ds.getD i []) (ds.getD k []) : Int)) = num * (allI (ds.getD i []) (ds.getD k []) : Int) := i64_in _ (by omega)
        simp only [ownSl, ownPart, appRows, avc_done, avc_take, qstep, ownLoad, VC_skip, VC_region, VC_seq, VC_cond, aops_nil, aops_cons, put_some, aop, qop, isQuiet, ASt.eval, AV.need, AV.ac, AV.cells, AV.isTup, qbin, binInt, qextract, qbuild, fillParts, splice, needAll, ned, partsOf, fitAll, AC.fits, abuildSlice, elems, setPart, appSrc, aappend, newObj, ASt.setObj, ASt.obj, ASt.map, frzRefs, AV.map, AObj.map, AC.kill, dvs, AC.dv, leD, leD1, isScalar, avOf, acOf, AC.ren, giveBack, afterCall, eInt, eList, ePair, List.getD_cons_succ, List.getD_cons_zero, List.set_cons_succ, List.set_cons_zero, List.map_cons, List.map_nil, List.replicate_succ, List.replicate_zero, List.cons_append, List.nil_append, List.append_nil, List.length_cons, List.length_nil, List.drop_succ_cons, List.drop_zero, List.drop_nil, List.take_succ_cons, List.take_zero, List.headD_cons, List.all_cons, List.all_nil, List.flatMap_cons, List.flatMap_nil, List.getElem?_cons_succ, List.getElem?_cons_zero, Nat.reduceLT, ↓ex_rfl, cast_eq, heq_eq_eq, DV.int.injEq, decide_eq_true_eq, decide_eq_false_iff_not, Int.not_le, true_and, and_true, and_self, reduceCtorEq, not_false_eq_true, Bool.and_true, cond_true, cond_false, beq_self_eq_true, Nat.zero_add, Nat.reduceAdd, Nat.reduceMul, Nat.reduceBEq, Nat.reduceLeDiff, Nat.le_refl, eq_self, or_true, tab_3, tab_39, tab_40, w2, w3]
        have hnx := rowTo_next (f := edge ds num den) hik
        refine ⟨fun he => ?_, fun he => ?_⟩
        · have he' : edge ds num den i k = true := by unfold edge; rw [decide_eq_true_eq]; exact he
          rw [if_pos he'] at hnx
          refine ⟨((i : Int), (k : Int)), ⟨rfl, rfl⟩, by omega, by omega, k + 1, ⟨by omega, by omega⟩, by omega, ?_⟩
          rw [hnx, ← List.append_assoc, ← zp_add]
          (simp only [LessC, lessS, lessO, belowS, belowO, AV.below, AObj.below, AC.below, List.length_cons, List.length_nil, Nat.reduceLT, Int.cast_ofNat_Int, Int.natCast_add, AV.c.injEq, AC.int.injEq, true_and, and_true, and_self, reduceCtorEq, Bool.and_true, Nat.zero_add, Nat.reduceAdd, Nat.reduceLeDiff, eq_self, decide_true, or_true, or_false, false_or] <;> try omega)
          all_goals exact i64_in _ (by omega)
        · have he' : ¬ edge ds num den i k = true := by unfold edge; rw [decide_eq_true_eq]; omega
          rw [if_neg he'] at hnx
          refine ⟨k + 1, ⟨by omega, by omega⟩, by omega, ?_⟩
          rw [hnx]
          (simp only [LessC, lessS, lessO, belowS, belowO, AV.below, AObj.below, AC.below, List.length_cons, List.length_nil, Nat.reduceLT, Int.cast_ofNat_Int, Int.natCast_add, AV.c.injEq, AC.int.injEq, true_and, and_true, and_self, reduceCtorEq, Bool.and_true, Nat.zero_add, Nat.reduceAdd, Nat.reduceLeDiff, eq_self, decide_true, or_true, or_false, false_or] <;> try omega)
          all_goals exact i64_in _ (by omega)
      · have hkn : k = ds.length := by omega
        subst hkn
        refine ⟨i + 1, by omega, by omega, ?_⟩
        rw [prsTo_next]
        (simp only [LessC, lessS, lessO, belowS, belowO, AV.below, AObj.below, AC.below, List.length_cons, List.length_nil, Nat.reduceLT, Int.cast_ofNat_Int, Int.natCast_add, AV.c.injEq, AC.int.injEq, true_and, and_true, and_self, reduceCtorEq, Bool.and_true, Nat.zero_add, Nat.reduceAdd, Nat.reduceLeDiff, eq_self, decide_true, or_true, or_false, false_or] <;> try omega)
        all_goals exact i64_in _ (by omega)
    · have hin : i = ds.length := by omega
      rw [hin]
      refine RetAt.keeping [1] (by decide) ?_ ?_ <;> simp only [resOf, tupOf, compOf, keepObjs, keepObjs, XObj.amap, ASt.eval, AV.strip, AV.need, AV.map, AObj.map, findIx, AC.ren, List.getD_cons_succ, List.getD_cons_zero, List.map_cons, List.map_nil, and_self, cond_true, beq_self_eq_true]
      exact .inr ⟨h0, rfl, rfl⟩
end Go.Vc.Ng
