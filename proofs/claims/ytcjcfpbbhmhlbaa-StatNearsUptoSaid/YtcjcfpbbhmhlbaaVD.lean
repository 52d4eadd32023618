/- The functions of statistics: what each computes. -/
import Derived.Test.YtcjcfpbbhmhlbaaVB
set_option linter.unusedVariables false
set_option linter.unusedSimpArgs false
namespace Go.Vc
open Go.Proofs Go.IntWalk
set_option maxRecDepth 100000
theorem log4_le (n : Int) : 0 ≤ log4 n ∧ log4 n ≤ 63 := by
  unfold log4
  split
  · omega
  · obtain ⟨h1, h2⟩ := mulB n n 1 65535 1 65535 (by omega) (by omega) (by omega) (by omega) (by omega) (by omega)
    obtain ⟨h3, h4⟩ := mulB (n * n) (n * n) 1 4294836225 1 4294836225 (by omega) (by omega) (by omega) (by omega) (by omega) (by omega)
    have := bl_le (n := n * n * (n * n)) (by omega)
    obtain ⟨b, e, _⟩ := bl_in (n := n * n * (n * n)) (by omega)
    omega
def entF (n k : Int) : Int := if 0 < k then k * (log4 n - log4 k) else 0
def repF (k : Int) : Int := (k * (k - 1)).tdiv 2
def sumF (f : Int → Int) (l : List Int) : Int := (l.map f).sum
theorem sumF_take (f : Int → Int) (l : List Int) (i : Nat) (h : i < l.length) : sumF f (l.take (i + 1)) = sumF f (l.take i) + f (l.getD i 0) := by
  rw [← take_snoc l i h]
  simp [sumF]
theorem sumF_le (f : Int → Int) (B : Int) (l : List Int) (h : ∀ x ∈ l, -B ≤ f x ∧ f x ≤ B) : -(B * l.length) ≤ sumF f l ∧ sumF f l ≤ B * l.length := by
  induction l with
  | nil => simp [sumF]
  | cons x l ih =>
    have h1 := h x (by simp)
    have h2 := ih fun y hy => h y (by simp [hy])
    have e : sumF f (x :: l) = f x + sumF f l := by simp [sumF]
    rw [e, List.length_cons]
    have e2 : B * ((l.length + 1 : Nat) : Int) = B * l.length + B := by
      rw [Int.natCast_add, Int.mul_add]; simp
    omega
theorem mem_counts {xs : List Int} {k : Int} (h : k ∈ counts xs) : 0 ≤ k ∧ k ≤ xs.length := by
  simp only [counts, List.mem_map] at h
  obtain ⟨c, _, rfl⟩ := h
  have := List.count_le_length (a := (c : Int)) (l := xs)
  omega
theorem entF_le (n k : Int) (h : 0 ≤ k ∧ k ≤ 65535) : -4128705 ≤ entF n k ∧ entF n k ≤ 4128705 := by
  unfold entF
  have h1 := log4_le n
  have h2 := log4_le k
  split
  · have h3 : k * (log4 n - log4 k) = k * log4 n - k * log4 k := Int.mul_sub ..
    obtain ⟨h4, h5⟩ := mulB k (log4 n) 0 65535 0 63 (by omega) (by omega) (by omega) (by omega) (by omega) (by omega)
    obtain ⟨h6, h7⟩ := mulB k (log4 k) 0 65535 0 63 (by omega) (by omega) (by omega) (by omega) (by omega) (by omega)
    omega
  · omega
theorem repF_le (k : Int) (h : 0 ≤ k ∧ k ≤ 65535) : -4294836225 ≤ repF k ∧ repF k ≤ 4294836225 ∧ -4294836225 ≤ k * (k - 1) ∧ k * (k - 1) ≤ 4294836225 := by
  unfold repF
  have h3 : k * (k - 1) = k * k - k := by rw [Int.mul_sub, Int.mul_one]
  obtain ⟨h4, h5⟩ := mulB k k 0 65535 0 65535 (by omega) (by omega) (by omega) (by omega) (by omega) (by omega)
  have h6 : 0 ≤ k * (k - 1) := by
    rcases Int.lt_or_le 0 k with h | h
    · exact Int.mul_nonneg (by omega) (by omega)
    · have : k = 0 := by omega
      subst this
      decide
  rw [Int.tdiv_eq_ediv_of_nonneg h6]
  omega
theorem take_mem {l : List Int} {i : Nat} {x : Int} (h : x ∈ l.take i) : x ∈ l := List.mem_of_mem_take h

theorem getD_mem {l : List Int} {i : Nat} (h : i < l.length) (z : Int) : l.getD i z ∈ l := by
  rw [List.getD_eq_getElem?_getD, List.getElem?_eq_getElem h]
  exact List.getElem_mem h
def ent (xs : List Int) : Int := sumF (entF xs.length) (counts xs)
def reps (xs : List Int) : Int := sumF repF (counts xs)
set_option maxHeartbeats 4000000 in
theorem entropy_spec (xs : List Int) (h8 : U8s xs) (hl : xs.length < 9223372036854775807) : ACall Try.prog 24 [.c (.rd 1 Int 0 encU8 xs)] [] (fun r os => r = .tup (if 65535 < xs.length then [(false, [.int .i64 0]), (false, [.int .i64 2])] else [(false, [.int .i64 (ent xs)]), (false, [.int .i64 0])]) ∧ os = []) := by
  (refine ACall.of_body (nt := 31) (rs := [.tmp 2, .tmp 3]) tabOK Try.func24 rfl rfl rfl rfl ?_; simp only [startSt, List.length_cons, List.length_nil, Nat.reduceAdd, Nat.reduceSub, List.replicate_succ, List.replicate_zero, List.cons_append, List.nil_append])
  unfold encU8
  simp only [VCp, VC_skip, VC_region, VC_seq, VC_cond, VC_ret, aops_nil, aops_cons, put_some, aop, qop, isQuiet, ASt.eval, ASt.ev, AV.strip, AV.need, AV.ac, AV.isTup, qbin, binInt, qlen, ned, isScalar, avOf, acOf, eInt, eList, List.getD_cons_succ, List.getD_cons_zero, List.set_cons_succ, List.set_cons_zero, List.map_cons, List.map_nil, decide_eq_true_eq, decide_eq_false_iff_not, Int.not_lt, true_and, and_self, eq_self, tab_3, tab_22]
  repeat' (first | (with_reducible apply And.intro) | (with_reducible intro _))
  · rename_i h
    (refine RetAt.leaf ?_ ?_ <;> simp only [resOf, tupOf, compOf, ASt.eval, AV.strip, AV.need, AV.map, findIx, AC.ren, List.getD_cons_succ, List.getD_cons_zero, List.map_cons, List.map_nil, and_true, and_self, eq_self])
    rw [if_pos (by omega)]
  · rename_i h
    refine CallAt.plain (counts_spec xs h8 hl) rfl ?_
    rintro r os ⟨rfl, rfl⟩
    simp only [VC_block, VC_loop, aops_nil, aops_cons, put_some, qop, isQuiet, ASt.eval, AV.need, AV.ac, qlen, ASt.obj, AV.map, AObj.map, avOf, acOf, AC.ren, backIx, giveBack, afterCall, eInt, eList, List.getD_cons_succ, List.getD_cons_zero, List.set_cons_succ, List.set_cons_zero, List.map_cons, List.map_nil, List.nil_append, List.length_nil, List.getElem?_nil, Int.cast_ofNat_Int, true_and, and_self, Nat.add_zero, Nat.reduceSub, tab_25, counts_len]
    refine LoopAt.inv (ι := Nat) (T := tab) (fun i => [(13, .c (.int .i64 i)), (4, .c (.int .i64 (sumF (entF xs.length) ((counts xs).take i))))]) (fun i => [.row 3 1 Int 0 (eInt .i64).enc (counts xs)]) (fun i => i ≤ 256) (fun i => 256 - i) tabOK 0 (Nat.zero_le _) ?_ ?_
    · (simp only [LessC, headSt, dsts, opDsts, resetS, putsS, lessS, lessO, belowS, belowO, AV.below, AObj.below, AC.below, eInt, List.set_cons_succ, List.set_cons_zero, List.cons_append, List.nil_append, List.append_nil, List.length_cons, List.length_nil, List.take_zero, Nat.reduceLT, Int.cast_ofNat_Int, AV.c.injEq, AC.int.injEq, true_and, and_true, and_self, reduceCtorEq, Bool.and_true, Nat.zero_add, Nat.reduceLeDiff, eq_self, decide_true, or_true, false_or] <;> try omega)
      simp [sumF]
    · intro i hi
      have hb := sumF_le (entF xs.length) 4128705 ((counts xs).take i) fun x hx => entF_le _ _ (by have := mem_counts (take_mem hx); omega)
      rw [show ((counts xs).take i).length = i by simp [counts_len]; omega] at hb
      simp only [VCp, headSt, dsts, opDsts, resetS, putsS, VC_skip, VC_region, VC_seq, VC_cond, VC_block, VC_exit, VC_ret, aops_nil, aops_cons, put_some, aop, qop, isQuiet, ASt.eval, ASt.ev, AV.strip, AV.need, AV.ac, AV.isTup, qbin, binInt, qlen, qindexAddr, qload, ned, ASt.obj, DV.ac, ofCells, TI.isAgg, isScalar, avOf, acOf, eInt, eList, List.getD_cons_succ, List.getD_cons_zero, List.set_cons_succ, List.set_cons_zero, List.map_cons, List.map_nil, List.cons_append, List.nil_append, List.append_nil, List.drop_zero, List.take_succ_cons, List.take_nil, List.headD_cons, Int.cast_ofNat_Int, Int.toNat_natCast, decide_eq_true_eq, decide_eq_false_iff_not, Int.not_lt, true_and, and_true, and_self, not_false_eq_true, if_true, Nat.zero_add, Nat.le_refl, eq_self, Nat.succ_ne_self, tab_3, tab_22, tab_25, counts_len]
      have hs := fun h => sumF_take (entF xs.length) (counts xs) i (by rw [counts_len]; exact h)
      have hk := fun (h : i < 256) => mem_counts (getD_mem (l := counts xs) (i := i) (by rw [counts_len]; exact h) 0)
      have hl0 := log4_le xs.length
      have hl1 := log4_le ((counts xs).getD i 0)
      refine ⟨fun h' => ⟨by omega, by omega, fun h0 => ?_, fun h0 => ?_⟩, fun h' => ?_⟩
      · refine CallAt.plain (log_spec _) rfl ?_
        rintro r os ⟨rfl, rfl⟩
        simp only [aops_cons, put_some, aop, qop, isQuiet, ASt.eval, ASt.ev, AV.strip, AV.need, AV.isTup, ned, AV.map, AC.ren, giveBack, afterCall, List.getD_cons_succ, List.getD_cons_zero, List.set_cons_succ, List.set_cons_zero, List.map_cons, List.map_nil, List.append_nil, List.length_cons, List.length_nil, true_and, and_self, Nat.zero_add, eq_self]
        refine CallAt.plain (log_spec _) rfl ?_
        rintro r os ⟨rfl, rfl⟩
        simp only [VC_region, aops_nil, aops_cons, put_some, qop, isQuiet, ASt.eval, AV.need, AV.ac, qbin, binInt, AV.map, isScalar, avOf, acOf, AC.ren, giveBack, afterCall, eInt, List.getD_cons_succ, List.getD_cons_zero, List.set_cons_succ, List.set_cons_zero, List.map_nil, List.append_nil, List.length_cons, List.length_nil, true_and, and_self, Nat.zero_add, eq_self, tab_3]
        refine ⟨i + 1, by omega, by omega, ?_⟩
        (simp only [LessC, lessS, lessO, belowS, belowO, AV.below, AObj.below, AC.below, List.length_cons, List.length_nil, Nat.reduceLT, Int.cast_ofNat_Int, Int.natCast_add, AV.c.injEq, AC.int.injEq, true_and, and_true, and_self, reduceCtorEq, Bool.and_true, Nat.zero_add, Nat.reduceLeDiff, eq_self, decide_true, or_true, or_false, false_or] <;> try omega)
        have hi' : i < 256 := by omega
        have e := entF_le xs.length ((counts xs).getD i 0) (by have := hk hi'; omega)
        have e1 : entF xs.length ((counts xs).getD i 0) = (counts xs).getD i 0 * (log4 xs.length - log4 ((counts xs).getD i 0)) := if_pos h0
        rw [hs hi', e1]
        rw [e1] at e
        simp (disch := omega) only [i64_in]
        simp
      · refine ⟨i + 1, by omega, by omega, ?_⟩
        (simp only [LessC, lessS, lessO, belowS, belowO, AV.below, AObj.below, AC.below, List.length_cons, List.length_nil, Nat.reduceLT, Int.cast_ofNat_Int, Int.natCast_add, AV.c.injEq, AC.int.injEq, true_and, and_true, and_self, reduceCtorEq, Bool.and_true, Nat.zero_add, Nat.reduceLeDiff, eq_self, decide_true, or_true, or_false, false_or] <;> try omega)
        have e1 : entF xs.length ((counts xs).getD i 0) = 0 := if_neg (by omega)
        rw [hs (by omega), e1]
        simp (disch := omega) only [i64_in]
        simp
      · have : i = 256 := by omega
        subst this
        (refine RetAt.leaf ?_ ?_ <;> simp only [resOf, tupOf, compOf, ASt.eval, AV.strip, AV.need, AV.map, findIx, AC.ren, List.getD_cons_succ, List.getD_cons_zero, List.map_cons, List.map_nil, Int.reduceLT, Int.cast_ofNat_Int, and_true, and_self, eq_self, decide_false])
        rw [if_neg (by omega), List.take_of_length_le (by rw [counts_len]; omega)]
        simp [ent]
set_option maxHeartbeats 4000000 in
theorem repeats_spec (xs : List Int) (h8 : U8s xs) (hl : xs.length < 9223372036854775807) : ACall Try.prog 25 [.c (.rd 1 Int 0 encU8 xs)] [] (fun r os => r = .tup (if 65535 < xs.length then [(false, [.int .i64 0]), (false, [.int .i64 2])] else [(false, [.int .i64 (reps xs)]), (false, [.int .i64 0])]) ∧ os = []) := by
  (refine ACall.of_body (nt := 26) (rs := [.tmp 2, .tmp 3]) tabOK Try.func25 rfl rfl rfl rfl ?_; simp only [startSt, List.length_cons, List.length_nil, Nat.reduceAdd, Nat.reduceSub, List.replicate_succ, List.replicate_zero, List.cons_append, List.nil_append])
  unfold encU8
  simp only [VCp, VC_skip, VC_region, VC_seq, VC_cond, VC_ret, aops_nil, aops_cons, put_some, aop, qop, isQuiet, ASt.eval, ASt.ev, AV.strip, AV.need, AV.ac, AV.isTup, qbin, binInt, qlen, ned, isScalar, avOf, acOf, eInt, eList, List.getD_cons_succ, List.getD_cons_zero, List.set_cons_succ, List.set_cons_zero, List.map_cons, List.map_nil, decide_eq_true_eq, decide_eq_false_iff_not, Int.not_lt, true_and, and_self, eq_self, tab_3, tab_22]
  repeat' (first | (with_reducible apply And.intro) | (with_reducible intro _))
  · rename_i h
    (refine RetAt.leaf ?_ ?_ <;> simp only [resOf, tupOf, compOf, ASt.eval, AV.strip, AV.need, AV.map, findIx, AC.ren, List.getD_cons_succ, List.getD_cons_zero, List.map_cons, List.map_nil, and_true, and_self, eq_self])
    rw [if_pos (by omega)]
  · rename_i h
    refine CallAt.plain (counts_spec xs h8 hl) rfl ?_
    rintro r os ⟨rfl, rfl⟩
    simp only [VC_block, VC_loop, aops_nil, aops_cons, put_some, qop, isQuiet, ASt.eval, AV.need, AV.ac, qlen, ASt.obj, AV.map, AObj.map, avOf, acOf, AC.ren, backIx, giveBack, afterCall, eInt, eList, List.getD_cons_succ, List.getD_cons_zero, List.set_cons_succ, List.set_cons_zero, List.map_cons, List.map_nil, List.nil_append, List.length_nil, List.getElem?_nil, Int.cast_ofNat_Int, true_and, and_self, Nat.add_zero, Nat.reduceSub, tab_25, counts_len]
    refine LoopAt.inv (ι := Nat) (T := tab) (fun i => [(13, .c (.int .i64 i)), (4, .c (.int .i64 (sumF repF ((counts xs).take i))))]) (fun i => [.row 3 1 Int 0 (eInt .i64).enc (counts xs)]) (fun i => i ≤ 256) (fun i => 256 - i) tabOK 0 (Nat.zero_le _) ?_ ?_
    · (simp only [LessC, headSt, dsts, opDsts, resetS, putsS, lessS, lessO, belowS, belowO, AV.below, AObj.below, AC.below, eInt, List.set_cons_succ, List.set_cons_zero, List.cons_append, List.nil_append, List.append_nil, List.length_cons, List.length_nil, List.take_zero, Nat.reduceLT, Int.cast_ofNat_Int, AV.c.injEq, AC.int.injEq, true_and, and_true, and_self, reduceCtorEq, Bool.and_true, Nat.zero_add, Nat.reduceLeDiff, eq_self, decide_true, or_true, false_or] <;> try omega)
      simp [sumF]
    · intro i hi
      have hb := sumF_le repF 4294836225 ((counts xs).take i) fun x hx => (by have := repF_le x (by have := mem_counts (take_mem hx); omega); omega)
      rw [show ((counts xs).take i).length = i by simp [counts_len]; omega] at hb
      simp only [VCp, headSt, dsts, opDsts, resetS, putsS, VC_skip, VC_region, VC_seq, VC_cond, VC_block, VC_exit, VC_ret, aops_nil, aops_cons, put_some, qop, isQuiet, ASt.eval, AV.need, AV.ac, qbin, binInt, qindexAddr, qload, ASt.obj, DV.ac, ofCells, TI.isAgg, isScalar, avOf, acOf, eInt, eList, List.getD_cons_succ, List.getD_cons_zero, List.set_cons_succ, List.set_cons_zero, List.map_cons, List.map_nil, List.cons_append, List.nil_append, List.append_nil, List.drop_zero, List.take_succ_cons, List.take_nil, List.headD_cons, Int.reduceEq, Int.cast_ofNat_Int, Int.toNat_natCast, decide_eq_true_eq, decide_eq_false_iff_not, Int.not_lt, true_and, and_true, and_self, not_false_eq_true, if_true, Nat.zero_add, Nat.le_refl, eq_self, Nat.succ_ne_self, tab_3, tab_25, counts_len]
      have hs := fun h => sumF_take repF (counts xs) i (by rw [counts_len]; exact h)
      have hk := fun (h : i < 256) => mem_counts (getD_mem (l := counts xs) (i := i) (by rw [counts_len]; exact h) 0)
      refine ⟨fun h' => ?_, fun h' => ?_⟩
      · have hi' : i < 256 := by omega
        have e := repF_le ((counts xs).getD i 0) (by have := hk hi'; omega)
        have hk := hk hi'
        repeat' (first | (with_reducible apply And.intro) | (with_reducible intro _))
        all_goals first | omega | skip
        refine ⟨i + 1, by omega, by omega, ?_⟩
        (simp only [LessC, lessS, lessO, belowS, belowO, AV.below, AObj.below, AC.below, List.length_cons, List.length_nil, Nat.reduceLT, Int.cast_ofNat_Int, Int.natCast_add, AV.c.injEq, AC.int.injEq, true_and, and_true, and_self, reduceCtorEq, Bool.and_true, Nat.zero_add, Nat.reduceLeDiff, eq_self, decide_true, or_true, or_false, false_or] <;> try omega)
        have e1 : repF ((counts xs).getD i 0) = ((counts xs).getD i 0 * ((counts xs).getD i 0 - 1)).tdiv 2 := rfl
        rw [hs hi', e1]
        rw [e1] at e
        simp (disch := omega) only [i64_in]
        simp
      · have : i = 256 := by omega
        subst this
        (refine RetAt.leaf ?_ ?_ <;> simp only [resOf, tupOf, compOf, ASt.eval, AV.strip, AV.need, AV.map, findIx, AC.ren, List.getD_cons_succ, List.getD_cons_zero, List.map_cons, List.map_nil, Int.reduceLT, Int.cast_ofNat_Int, and_true, and_self, eq_self, decide_false])
        rw [if_neg (by omega), List.take_of_length_le (by rw [counts_len]; omega)]
        simp [reps]
end Go.Vc
set_option linter.unusedVariables false
set_option linter.unusedSimpArgs false
namespace Go.Vc
open Go.Proofs Go.IntWalk
set_option maxRecDepth 100000
theorem ent_ab : ent [97, 98] = 8 := by decide +kernel
theorem reps_aab : reps [97, 97, 98] = 1 := by decide +kernel
theorem log4_3 : log4 3 = 6 := by decide +kernel
set_option maxHeartbeats 4000000 in
theorem counted_spec : ACall Try.prog 7 [] [] (fun r os => r = .c (.bool true) ∧ os = []) := by
  (refine ACall.of_body (nt := 35) (rs := [.tmp 0]) tabOK Try.func7 rfl rfl rfl rfl ?_; simp only [startSt, List.length_cons, List.length_nil, Nat.reduceAdd, Nat.reduceSub, List.replicate_succ, List.replicate_zero, List.cons_append, List.nil_append])
  simp only [VCp, adoptC, isNilAt, ASt.renum, keepObjs, ASt.fix, AC.fixp, capsClear, qmlen, qlookup, lookRes, keyOf, kshOf, encIs, qentry, qslice3, qslice3v, xstore, xabsorb, ownSl, isRows, ownPart, abuildRows, amakeMap, AV.isA, amapUpdate, amapDelete, arange, anext, appRows, aappRows, aclear, AC.absorb, AC.shallow, ASt.shallow, AC.merge, encL, XObj.amap, XObj.below, nilZero, amakePlain, KA.ac, avc_done, avc_stop, avc_take, avc_alt, qstep, lstep, ownLoad, put_n0, VC_skip, VC_label, VC_region, VC_draw, VC_seq, VC_cond, VC_block, VC_loop, VC_exit, VC_ret, aops_nil, aops_cons, put_some, put_none, aop, qop, isQuiet, ASt.eval, ASt.ev, AV.strip, AV.need, AV.ac, AV.cells, AV.isTup, onG, guardOf, qbin, binInt, binStr, binBool, qpick, qpick0, qun, qmax, qmin, qlen, qindexAddr, qfieldAddr, qfield, qindex, qload, qconvert, qslice, within, cutLo, cutHi, qextract, qbuild, fillParts, structPlace, splice, needAll, ned, partsOf, fitAll, AC.fits, capsOf, astore, amake, abuildSlice, elems, setPart, appSrc, aappend, nilTest, aconv, newObj, ASt.setObj, ASt.obj, ASt.map, ASt.freeze, frzRefs, AV.map, AObj.map, AC.frz, AC.kill, dvs, AC.dv, DV.ac, leD, leD1, ofCells, TI.isAgg, isScalar, avOf, acOf, adopt, findIx, AC.ren, AC.ren.renCaps, backIx, giveBack, afterCall, callArg, AC.view, frzF, acopy, intsEq, aappZeros, encM, eInt, eBool, eStr, eList, ePair, encU8, List.getLast?_concat, List.getLast?_append, List.getLast?_singleton, Option.some_or, List.getD_cons_succ, List.getD_cons_zero, List.getD_nil, List.set_cons_succ, List.set_cons_zero, List.set_nil, List.map_cons, List.map_nil, List.replicate_succ, List.replicate_zero, List.cons_append, List.nil_append, List.append_nil, List.length_cons, List.length_nil, List.length_append, List.drop_succ_cons, List.drop_zero, List.drop_nil, List.take_succ_cons, List.take_zero, List.take_nil, List.headD_cons, List.all_cons, List.all_nil, List.flatMap_cons, List.flatMap_nil, List.range_zero, List.getElem?_toArray, List.getElem?_cons_succ, List.getElem?_cons_zero, List.getElem?_nil, List.contains_cons, List.contains_nil, Option.bind_some, Option.map_some, Option.map_none, Option.toList_some, Option.toList_none, Option.getD_some, Option.getD_none, Int.reduceLT, Int.reduceLE, Int.reduceEq, Int.reduceAdd, Int.reduceSub, Int.reduceMul, Int.reduceNeg, Nat.reduceLT, Int.cast_ofNat_Int, Int.natCast_add, ↓ex_rfl, cast_eq, AV.c.injEq, AC.int.injEq, AC.bool.injEq, AC.str.injEq, AC.rd.injEq, AC.md.injEq, AObj.row.injEq, AObj.cells.injEq, heq_eq_eq, DV.int.injEq, DV.bool.injEq, DV.str.injEq, exists_eq_left', exists_eq_left, Int.toNat_natCast, Int.reduceToNat, List.length_set, implies_true, imp_self, beq_false, beq_true, decide_eq_true_eq, decide_eq_false_iff_not, Bool.not_eq_true', Bool.cond_true_left, Bool.cond_false_right, Bool.or_eq_true, Bool.and_eq_true, Bool.or_eq_false_iff, Bool.and_eq_false_iff, Int.not_lt, Int.not_le, true_and, and_true, and_self, forall_const, reduceCtorEq, false_implies, not_false_eq_true, Bool.and_true, Bool.true_and, Bool.and_false, Bool.false_and, Bool.false_eq_true, Bool.true_eq_false, Bool.not_true, Bool.not_false, cond_true, cond_false, beq_self_eq_true, if_true, if_false, Nat.add_zero, Nat.zero_add, Nat.reduceAdd, Nat.reduceSub, Nat.reduceMul, Nat.reduceBEq, Nat.reduceEqDiff, Nat.reduceLeDiff, Nat.not_le, Nat.le_refl, eq_self, ne_eq, Nat.succ_ne_self, Nat.one_ne_zero, decide_true, decide_false, and_false, false_and, or_true, true_or, or_false, false_or, tab_2, tab_3, tab_4, tab_5, tab_9, tab_12, tab_15, tab_16, tab_17, tab_21, tab_22, tab_23, tab_24, tab_25, tab_26, tab_27, tab_28, tab_35, tab_39, tab_40, tab_41, tab_46, tab_50, tab_62, tab_63, tab_64, tab_67, tab_70, tab_73, tab_74, tab_78, tab_80, tab_94, tab_103, tab_107, tab_116, tab_120, tab_122, tab_134]
  repeat' (first | (with_reducible apply And.intro) | (with_reducible intro _))
  all_goals first | omega | decide | skip
  refine CallAt.plain (entropy_spec [97, 98] (by unfold U8s; decide) (by decide)) rfl ?_
  rintro r os ⟨rfl, rfl⟩
  rw [ent_ab]
  simp only [VCp, adoptC, isNilAt, ASt.renum, keepObjs, ASt.fix, AC.fixp, capsClear, qmlen, qlookup, lookRes, keyOf, kshOf, encIs, qentry, qslice3, qslice3v, xstore, xabsorb, ownSl, isRows, ownPart, abuildRows, amakeMap, AV.isA, amapUpdate, amapDelete, arange, anext, appRows, aappRows, aclear, AC.absorb, AC.shallow, ASt.shallow, AC.merge, encL, XObj.amap, XObj.below, nilZero, amakePlain, KA.ac, avc_done, avc_stop, avc_take, avc_alt, qstep, lstep, ownLoad, put_n0, VC_skip, VC_label, VC_region, VC_draw, VC_seq, VC_cond, VC_block, VC_loop, VC_exit, VC_ret, aops_nil, aops_cons, put_some, put_none, aop, qop, isQuiet, ASt.eval, ASt.ev, AV.strip, AV.need, AV.ac, AV.cells, AV.isTup, onG, guardOf, qbin, binInt, binStr, binBool, qpick, qpick0, qun, qmax, qmin, qlen, qindexAddr, qfieldAddr, qfield, qindex, qload, qconvert, qslice, within, cutLo, cutHi, qextract, qbuild, fillParts, structPlace, splice, needAll, ned, partsOf, fitAll, AC.fits, capsOf, astore, amake, abuildSlice, elems, setPart, appSrc, aappend, nilTest, aconv, newObj, ASt.setObj, ASt.obj, ASt.map, ASt.freeze, frzRefs, AV.map, AObj.map, AC.frz, AC.kill, dvs, AC.dv, DV.ac, leD, leD1, ofCells, TI.isAgg, isScalar, avOf, acOf, adopt, findIx, AC.ren, AC.ren.renCaps, backIx, giveBack, afterCall, callArg, AC.view, frzF, acopy, intsEq, aappZeros, encM, eInt, eBool, eStr, eList, ePair, encU8, List.getLast?_concat, List.getLast?_append, List.getLast?_singleton, Option.some_or, List.getD_cons_succ, List.getD_cons_zero, List.getD_nil, List.set_cons_succ, List.set_cons_zero, List.set_nil, List.map_cons, List.map_nil, List.replicate_succ, List.replicate_zero, List.cons_append, List.nil_append, List.append_nil, List.length_cons, List.length_nil, List.length_append, List.drop_succ_cons, List.drop_zero, List.drop_nil, List.take_succ_cons, List.take_zero, List.take_nil, List.headD_cons, List.all_cons, List.all_nil, List.flatMap_cons, List.flatMap_nil, List.range_zero, List.getElem?_toArray, List.getElem?_cons_succ, List.getElem?_cons_zero, List.getElem?_nil, List.contains_cons, List.contains_nil, Option.bind_some, Option.map_some, Option.map_none, Option.toList_some, Option.toList_none, Option.getD_some, Option.getD_none, Int.reduceLT, Int.reduceLE, Int.reduceEq, Int.reduceAdd, Int.reduceSub, Int.reduceMul, Int.reduceNeg, Nat.reduceLT, Int.cast_ofNat_Int, Int.natCast_add, ↓ex_rfl, cast_eq, AV.c.injEq, AC.int.injEq, AC.bool.injEq, AC.str.injEq, AC.rd.injEq, AC.md.injEq, AObj.row.injEq, AObj.cells.injEq, heq_eq_eq, DV.int.injEq, DV.bool.injEq, DV.str.injEq, exists_eq_left', exists_eq_left, Int.toNat_natCast, Int.reduceToNat, List.length_set, implies_true, imp_self, beq_false, beq_true, decide_eq_true_eq, decide_eq_false_iff_not, Bool.not_eq_true', Bool.cond_true_left, Bool.cond_false_right, Bool.or_eq_true, Bool.and_eq_true, Bool.or_eq_false_iff, Bool.and_eq_false_iff, Int.not_lt, Int.not_le, true_and, and_true, and_self, forall_const, reduceCtorEq, false_implies, not_false_eq_true, Bool.and_true, Bool.true_and, Bool.and_false, Bool.false_and, Bool.false_eq_true, Bool.true_eq_false, Bool.not_true, Bool.not_false, cond_true, cond_false, beq_self_eq_true, if_true, if_false, Nat.add_zero, Nat.zero_add, Nat.reduceAdd, Nat.reduceSub, Nat.reduceMul, Nat.reduceBEq, Nat.reduceEqDiff, Nat.reduceLeDiff, Nat.not_le, Nat.le_refl, eq_self, ne_eq, Nat.succ_ne_self, Nat.one_ne_zero, decide_true, decide_false, and_false, false_and, or_true, true_or, or_false, false_or, tab_2, tab_3, tab_4, tab_5, tab_9, tab_12, tab_15, tab_16, tab_17, tab_21, tab_22, tab_23, tab_24, tab_25, tab_26, tab_27, tab_28, tab_35, tab_39, tab_40, tab_41, tab_46, tab_50, tab_62, tab_63, tab_64, tab_67, tab_70, tab_73, tab_74, tab_78, tab_80, tab_94, tab_103, tab_107, tab_116, tab_120, tab_122, tab_134]
  repeat' (first | (with_reducible apply And.intro) | (with_reducible intro _))
  all_goals first | omega | decide | skip
  refine CallAt.plain (repeats_spec [97, 97, 98] (by unfold U8s; decide) (by decide)) rfl ?_
  rintro r os ⟨rfl, rfl⟩
  rw [reps_aab]
  simp only [VCp, adoptC, isNilAt, ASt.renum, keepObjs, ASt.fix, AC.fixp, capsClear, qmlen, qlookup, lookRes, keyOf, kshOf, encIs, qentry, qslice3, qslice3v, xstore, xabsorb, ownSl, isRows, ownPart, abuildRows, amakeMap, AV.isA, amapUpdate, amapDelete, arange, anext, appRows, aappRows, aclear, AC.absorb, AC.shallow, ASt.shallow, AC.merge, encL, XObj.amap, XObj.below, nilZero, amakePlain, KA.ac, avc_done, avc_stop, avc_take, avc_alt, qstep, lstep, ownLoad, put_n0, VC_skip, VC_label, VC_region, VC_draw, VC_seq, VC_cond, VC_block, VC_loop, VC_exit, VC_ret, aops_nil, aops_cons, put_some, put_none, aop, qop, isQuiet, ASt.eval, ASt.ev, AV.strip, AV.need, AV.ac, AV.cells, AV.isTup, onG, guardOf, qbin, binInt, binStr, binBool, qpick, qpick0, qun, qmax, qmin, qlen, qindexAddr, qfieldAddr, qfield, qindex, qload, qconvert, qslice, within, cutLo, cutHi, qextract, qbuild, fillParts, structPlace, splice, needAll, ned, partsOf, fitAll, AC.fits, capsOf, astore, amake, abuildSlice, elems, setPart, appSrc, aappend, nilTest, aconv, newObj, ASt.setObj, ASt.obj, ASt.map, ASt.freeze, frzRefs, AV.map, AObj.map, AC.frz, AC.kill, dvs, AC.dv, DV.ac, leD, leD1, ofCells, TI.isAgg, isScalar, avOf, acOf, adopt, findIx, AC.ren, AC.ren.renCaps, backIx, giveBack, afterCall, callArg, AC.view, frzF, acopy, intsEq, aappZeros, encM, eInt, eBool, eStr, eList, ePair, encU8, List.getLast?_concat, List.getLast?_append, List.getLast?_singleton, Option.some_or, List.getD_cons_succ, List.getD_cons_zero, List.getD_nil, List.set_cons_succ, List.set_cons_zero, List.set_nil, List.map_cons, List.map_nil, List.replicate_succ, List.replicate_zero, List.cons_append, List.nil_append, List.append_nil, List.length_cons, List.length_nil, List.length_append, List.drop_succ_cons, List.drop_zero, List.drop_nil, List.take_succ_cons, List.take_zero, List.take_nil, List.headD_cons, List.all_cons, List.all_nil, List.flatMap_cons, List.flatMap_nil, List.range_zero, List.getElem?_toArray, List.getElem?_cons_succ, List.getElem?_cons_zero, List.getElem?_nil, List.contains_cons, List.contains_nil, Option.bind_some, Option.map_some, Option.map_none, Option.toList_some, Option.toList_none, Option.getD_some, Option.getD_none, Int.reduceLT, Int.reduceLE, Int.reduceEq, Int.reduceAdd, Int.reduceSub, Int.reduceMul, Int.reduceNeg, Nat.reduceLT, Int.cast_ofNat_Int, Int.natCast_add, ↓ex_rfl, cast_eq, AV.c.injEq, AC.int.injEq, AC.bool.injEq, AC.str.injEq, AC.rd.injEq, AC.md.injEq, AObj.row.injEq, AObj.cells.injEq, heq_eq_eq, DV.int.injEq, DV.bool.injEq, DV.str.injEq, exists_eq_left', exists_eq_left, Int.toNat_natCast, Int.reduceToNat, List.length_set, implies_true, imp_self, beq_false, beq_true, decide_eq_true_eq, decide_eq_false_iff_not, Bool.not_eq_true', Bool.cond_true_left, Bool.cond_false_right, Bool.or_eq_true, Bool.and_eq_true, Bool.or_eq_false_iff, Bool.and_eq_false_iff, Int.not_lt, Int.not_le, true_and, and_true, and_self, forall_const, reduceCtorEq, false_implies, not_false_eq_true, Bool.and_true, Bool.true_and, Bool.and_false, Bool.false_and, Bool.false_eq_true, Bool.true_eq_false, Bool.not_true, Bool.not_false, cond_true, cond_false, beq_self_eq_true, if_true, if_false, Nat.add_zero, Nat.zero_add, Nat.reduceAdd, Nat.reduceSub, Nat.reduceMul, Nat.reduceBEq, Nat.reduceEqDiff, Nat.reduceLeDiff, Nat.not_le, Nat.le_refl, eq_self, ne_eq, Nat.succ_ne_self, Nat.one_ne_zero, decide_true, decide_false, and_false, false_and, or_true, true_or, or_false, false_or, tab_2, tab_3, tab_4, tab_5, tab_9, tab_12, tab_15, tab_16, tab_17, tab_21, tab_22, tab_23, tab_24, tab_25, tab_26, tab_27, tab_28, tab_35, tab_39, tab_40, tab_41, tab_46, tab_50, tab_62, tab_63, tab_64, tab_67, tab_70, tab_73, tab_74, tab_78, tab_80, tab_94, tab_103, tab_107, tab_116, tab_120, tab_122, tab_134]
  repeat' (first | (with_reducible apply And.intro) | (with_reducible intro _))
  all_goals first | omega | decide | skip
  refine CallAt.plain (log_spec _) rfl ?_
  rintro r os ⟨rfl, rfl⟩
  rw [log4_3]
  simp only [VCp, adoptC, isNilAt, ASt.renum, keepObjs, ASt.fix, AC.fixp, capsClear, qmlen, qlookup, lookRes, keyOf, kshOf, encIs, qentry, qslice3, qslice3v, xstore, xabsorb, ownSl, isRows, ownPart, abuildRows, amakeMap, AV.isA, amapUpdate, amapDelete, arange, anext, appRows, aappRows, aclear, AC.absorb, AC.shallow, ASt.shallow, AC.merge, encL, XObj.amap, XObj.below, nilZero, amakePlain, KA.ac, avc_done, avc_stop, avc_take, avc_alt, qstep, lstep, ownLoad, put_n0, VC_skip, VC_label, VC_region, VC_draw, VC_seq, VC_cond, VC_block, VC_loop, VC_exit, VC_ret, aops_nil, aops_cons, put_some, put_none, aop, qop, isQuiet, ASt.eval, ASt.ev, AV.strip, AV.need, AV.ac, AV.cells, AV.isTup, onG, guardOf, qbin, binInt, binStr, binBool, qpick, qpick0, qun, qmax, qmin, qlen, qindexAddr, qfieldAddr, qfield, qindex, qload, qconvert, qslice, within, cutLo, cutHi, qextract, qbuild, fillParts, structPlace, splice, needAll, ned, partsOf, fitAll, AC.fits, capsOf, astore, amake, abuildSlice, elems, setPart, appSrc, aappend, nilTest, aconv, newObj, ASt.setObj, ASt.obj, ASt.map, ASt.freeze, frzRefs, AV.map, AObj.map, AC.frz, AC.kill, dvs, AC.dv, DV.ac, leD, leD1, ofCells, TI.isAgg, isScalar, avOf, acOf, adopt, findIx, AC.ren, AC.ren.renCaps, backIx, giveBack, afterCall, callArg, AC.view, frzF, acopy, intsEq, aappZeros, encM, eInt, eBool, eStr, eList, ePair, encU8, List.getLast?_concat, List.getLast?_append, List.getLast?_singleton, Option.some_or, List.getD_cons_succ, List.getD_cons_zero, List.getD_nil, List.set_cons_succ, List.set_cons_zero, List.set_nil, List.map_cons, List.map_nil, List.replicate_succ, List.replicate_zero, List.cons_append, List.nil_append, List.append_nil, List.length_cons, List.length_nil, List.length_append, List.drop_succ_cons, List.drop_zero, List.drop_nil, List.take_succ_cons, List.take_zero, List.take_nil, List.headD_cons, List.all_cons, List.all_nil, List.flatMap_cons, List.flatMap_nil, List.range_zero, List.getElem?_toArray, List.getElem?_cons_succ, List.getElem?_cons_zero, List.getElem?_nil, List.contains_cons, List.contains_nil, Option.bind_some, Option.map_some, Option.map_none, Option.toList_some, Option.toList_none, Option.getD_some, Option.getD_none, Int.reduceLT, Int.reduceLE, Int.reduceEq, Int.reduceAdd, Int.reduceSub, Int.reduceMul, Int.reduceNeg, Nat.reduceLT, Int.cast_ofNat_Int, Int.natCast_add, ↓ex_rfl, cast_eq, AV.c.injEq, AC.int.injEq, AC.bool.injEq, AC.str.injEq, AC.rd.injEq, AC.md.injEq, AObj.row.injEq, AObj.cells.injEq, heq_eq_eq, DV.int.injEq, DV.bool.injEq, DV.str.injEq, exists_eq_left', exists_eq_left, Int.toNat_natCast, Int.reduceToNat, List.length_set, implies_true, imp_self, beq_false, beq_true, decide_eq_true_eq, decide_eq_false_iff_not, Bool.not_eq_true', Bool.cond_true_left, Bool.cond_false_right, Bool.or_eq_true, Bool.and_eq_true, Bool.or_eq_false_iff, Bool.and_eq_false_iff, Int.not_lt, Int.not_le, true_and, and_true, and_self, forall_const, reduceCtorEq, false_implies, not_false_eq_true, Bool.and_true, Bool.true_and, Bool.and_false, Bool.false_and, Bool.false_eq_true, Bool.true_eq_false, Bool.not_true, Bool.not_false, cond_true, cond_false, beq_self_eq_true, if_true, if_false, Nat.add_zero, Nat.zero_add, Nat.reduceAdd, Nat.reduceSub, Nat.reduceMul, Nat.reduceBEq, Nat.reduceEqDiff, Nat.reduceLeDiff, Nat.not_le, Nat.le_refl, eq_self, ne_eq, Nat.succ_ne_self, Nat.one_ne_zero, decide_true, decide_false, and_false, false_and, or_true, true_or, or_false, false_or, tab_2, tab_3, tab_4, tab_5, tab_9, tab_12, tab_15, tab_16, tab_17, tab_21, tab_22, tab_23, tab_24, tab_25, tab_26, tab_27, tab_28, tab_35, tab_39, tab_40, tab_41, tab_46, tab_50, tab_62, tab_63, tab_64, tab_67, tab_70, tab_73, tab_74, tab_78, tab_80, tab_94, tab_103, tab_107, tab_116, tab_120, tab_122, tab_134]
  repeat' (first | (with_reducible apply And.intro) | (with_reducible intro _))
  all_goals first | omega | decide | skip
  (refine RetAt.leaf ?_ ?_ <;> simp only [resOf, tupOf, compOf, keepObjs, adoptC, isNilAt, ASt.renum, keepObjs, ASt.fix, AC.fixp, capsClear, qmlen, qlookup, lookRes, keyOf, kshOf, encIs, qentry, qslice3, qslice3v, xstore, xabsorb, ownSl, isRows, ownPart, abuildRows, amakeMap, AV.isA, amapUpdate, amapDelete, arange, anext, appRows, aappRows, aclear, AC.absorb, AC.shallow, ASt.shallow, AC.merge, encL, XObj.amap, XObj.below, nilZero, amakePlain, KA.ac, avc_done, avc_stop, avc_take, avc_alt, qstep, lstep, ownLoad, put_n0, VC_skip, VC_label, VC_region, VC_draw, VC_seq, VC_cond, VC_block, VC_loop, VC_exit, VC_ret, aops_nil, aops_cons, put_some, put_none, aop, qop, isQuiet, ASt.eval, ASt.ev, AV.strip, AV.need, AV.ac, AV.cells, AV.isTup, onG, guardOf, qbin, binInt, binStr, binBool, qpick, qpick0, qun, qmax, qmin, qlen, qindexAddr, qfieldAddr, qfield, qindex, qload, qconvert, qslice, within, cutLo, cutHi, qextract, qbuild, fillParts, structPlace, splice, needAll, ned, partsOf, fitAll, AC.fits, capsOf, astore, amake, abuildSlice, elems, setPart, appSrc, aappend, nilTest, aconv, newObj, ASt.setObj, ASt.obj, ASt.map, ASt.freeze, frzRefs, AV.map, AObj.map, AC.frz, AC.kill, dvs, AC.dv, DV.ac, leD, leD1, ofCells, TI.isAgg, isScalar, avOf, acOf, adopt, findIx, AC.ren, AC.ren.renCaps, backIx, giveBack, afterCall, callArg, AC.view, frzF, acopy, intsEq, aappZeros, encM, eInt, eBool, eStr, eList, ePair, encU8, List.getLast?_concat, List.getLast?_append, List.getLast?_singleton, Option.some_or, List.getD_cons_succ, List.getD_cons_zero, List.getD_nil, List.set_cons_succ, List.set_cons_zero, List.set_nil, List.map_cons, List.map_nil, List.replicate_succ, List.replicate_zero, List.cons_append, List.nil_append, List.append_nil, List.length_cons, List.length_nil, List.length_append, List.drop_succ_cons, List.drop_zero, List.drop_nil, List.take_succ_cons, List.take_zero, List.take_nil, List.headD_cons, List.all_cons, List.all_nil, List.flatMap_cons, List.flatMap_nil, List.range_zero, List.getElem?_toArray, List.getElem?_cons_succ, List.getElem?_cons_zero, List.getElem?_nil, List.contains_cons, List.contains_nil, Option.bind_some, Option.map_some, Option.map_none, Option.toList_some, Option.toList_none, Option.getD_some, Option.getD_none, Int.reduceLT, Int.reduceLE, Int.reduceEq, Int.reduceAdd, Int.reduceSub, Int.reduceMul, Int.reduceNeg, Nat.reduceLT, Int.cast_ofNat_Int, Int.natCast_add, ↓ex_rfl, cast_eq, AV.c.injEq, AC.int.injEq, AC.bool.injEq, AC.str.injEq, AC.rd.injEq, AC.md.injEq, AObj.row.injEq, AObj.cells.injEq, heq_eq_eq, DV.int.injEq, DV.bool.injEq, DV.str.injEq, exists_eq_left', exists_eq_left, Int.toNat_natCast, Int.reduceToNat, List.length_set, implies_true, imp_self, beq_false, beq_true, decide_eq_true_eq, decide_eq_false_iff_not, Bool.not_eq_true', Bool.cond_true_left, Bool.cond_false_right, Bool.or_eq_true, Bool.and_eq_true, Bool.or_eq_false_iff, Bool.and_eq_false_iff, Int.not_lt, Int.not_le, true_and, and_true, and_self, forall_const, reduceCtorEq, false_implies, not_false_eq_true, Bool.and_true, Bool.true_and, Bool.and_false, Bool.false_and, Bool.false_eq_true, Bool.true_eq_false, Bool.not_true, Bool.not_false, cond_true, cond_false, beq_self_eq_true, if_true, if_false, Nat.add_zero, Nat.zero_add, Nat.reduceAdd, Nat.reduceSub, Nat.reduceMul, Nat.reduceBEq, Nat.reduceEqDiff, Nat.reduceLeDiff, Nat.not_le, Nat.le_refl, eq_self, ne_eq, Nat.succ_ne_self, Nat.one_ne_zero, decide_true, decide_false, and_false, false_and, or_true, true_or, or_false, false_or, tab_2, tab_3, tab_4, tab_5, tab_9, tab_12, tab_15, tab_16, tab_17, tab_21, tab_22, tab_23, tab_24, tab_25, tab_26, tab_27, tab_28, tab_35, tab_39, tab_40, tab_41, tab_46, tab_50, tab_62, tab_63, tab_64, tab_67, tab_70, tab_73, tab_74, tab_78, tab_80, tab_94, tab_103, tab_107, tab_116, tab_120, tab_122, tab_134])
end Go.Vc
