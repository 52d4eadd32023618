/- What is asked of a list of texts; lists compared. -/
import Derived.Test.YtcjcfpbbhmhlbaaMK
import Derived.Test.YtcjcfpbbhmhlbaaQA
set_option linter.unusedVariables false
set_option linter.unusedSimpArgs false
namespace Go.Vc.Ng
open Go.Proofs Go.IntWalk Go.Vc.Ne
set_option maxRecDepth 100000
abbrev rBB (ds : List (List Int)) : AC := .rd 1 (List Int) [] (fun xs => [.list 1 Int 0 (fun n => [.int .u8 n]) xs]) ds
abbrev rI (xs : List Int) : AC := .rd 1 Int 0 (fun n => [.int .i64 n]) xs
abbrev rII (xss : List (List Int)) : AC := .rd 1 (List Int) [] (fun xs => [.list 1 Int 0 (fun n => [.int .i64 n]) xs]) xss
abbrev rP (ps : List (Int × Int)) : AC := .rd 2 (Int × Int) (0, 0) (fun p => [.int .i64 p.1, .int .i64 p.2]) ps
def big (ds : List (List Int)) : Bool := ds.any fun d => decide (2048 < d.length)
theorem getD_in {α : Type} {l : List α} {i : Nat} (z : α) (h : i < l.length) : l.getD i z ∈ l := by simp [List.getD, h]
theorem big_at {ds : List (List Int)} {i : Nat} (hi : i < ds.length) (h : 2048 < (ds.getD i []).length) : big ds = true := by
  unfold big
  rw [List.any_eq_true]
  exact ⟨_, getD_in _ hi, by simpa using h⟩
theorem big_none {ds : List (List Int)} (h : ∀ i, i < ds.length → (ds.getD i []).length ≤ 2048) : big ds = false := by
  unfold big
  rw [List.any_eq_false]
  intro d hd
  obtain ⟨i, hi, rfl⟩ := List.getElem_of_mem hd
  have := h i hi
  simp only [List.getD, List.getElem?_eq_getElem hi, Option.getD_some] at this
  simp only [decide_eq_true_eq]
  omega
def chk (ds : List (List Int)) (num den : Int) : Int :=
  if 60 < ds.length ∨ big ds = true then 2 else if den < 1 ∨ 1000 < den ∨ num < 0 ∨ den < num then 1 else 0
theorem clo_spec (d : List Int) : ACall Try.prog 18 [.c (rB d)] [] (fun r os => r = .c (.bool (decide (2048 < (d.length : Int)))) ∧ os = []) := by
  (refine ACall.of_body (nt := 6) (rs := [.tmp 2]) tabOK Try.func18 rfl rfl rfl rfl ?_; simp only [startSt, List.length_cons, List.length_nil, Nat.reduceAdd, Nat.reduceSub, List.replicate_succ, List.replicate_zero, List.cons_append, List.nil_append])
  unfold rB encU8
  simp only [VCp, VC_region, VC_seq, VC_ret, aops_nil, aops_cons, put_some, qop, isQuiet, ASt.eval, AV.need, AV.ac, qbin, binInt, qlen, isScalar, avOf, acOf, eInt, eList, List.getD_cons_succ, List.getD_cons_zero, List.set_cons_succ, List.set_cons_zero, true_and, and_self, eq_self, tab_3, tab_22]
  (refine RetAt.leaf ?_ ?_ <;> simp only [resOf, tupOf, ASt.eval, AV.strip, AV.need, AV.map, AC.ren, List.getD_cons_succ, List.getD_cons_zero, and_self, eq_self])
set_option maxHeartbeats 8000000 in
theorem index_spec (ds : List (List Int)) (hl : ds.length ≤ 1048576) : ACall Try.prog 38 [.c (rBB ds), .c (.fn 18 [])] [] (fun r os => ∃ n : Int, r = .c (.int .i64 n) ∧ (decide (0 ≤ n)) = big ds ∧ os = []) := by
  (refine ACall.of_body (nt := 19) (rs := [.tmp 4]) tabOK Try.func38 rfl rfl rfl rfl ?_; simp only [startSt, List.length_cons, List.length_nil, Nat.reduceAdd, Nat.reduceSub, List.replicate_succ, List.replicate_zero, List.cons_append, List.nil_append])
  simp only [VCp, VC_region, VC_seq, VC_block, VC_loop, aops_nil, aops_cons, put_some, qop, isQuiet, ASt.eval, AV.need, AV.ac, qlen, avOf, acOf, eInt, eList, List.getD_cons_succ, List.getD_cons_zero, List.set_cons_succ, List.set_cons_zero, Int.reduceNeg, true_and, and_self, tab_23]
  refine LoopAt.inv (ι := Nat) (T := tab) (fun i => [(8, .c (.int .i64 i))]) (fun i => []) (fun i => i ≤ ds.length ∧ ∀ j, j < i → (ds.getD j []).length ≤ 2048) (fun i => ds.length - i) tabOK 0 ⟨Nat.zero_le _, fun j h => by omega⟩ ?_ ?_
  · (simp only [LessC, headSt, dsts, opDsts, resetS, putsS, lessS, lessO, belowS, belowO, AV.below, AC.below, List.set_cons_succ, List.set_cons_zero, List.cons_append, List.nil_append, List.append_nil, List.length_nil, List.all_nil, Int.cast_ofNat_Int, AV.c.injEq, and_self, reduceCtorEq, Bool.and_true, Nat.le_refl, eq_self, or_true, or_false] <;> try omega)
  rintro i ⟨hi, hj⟩
  simp only [VCp, headSt, dsts, opDsts, resetS, putsS, VC_skip, VC_region, VC_seq, VC_cond, VC_block, VC_exit, VC_ret, aops_nil, aops_cons, put_some, aop, qop, isQuiet, ASt.eval, ASt.ev, AV.strip, AV.need, AV.ac, AV.isTup, qbin, binInt, qindexAddr, qload, ned, DV.ac, ofCells, TI.isAgg, isScalar, avOf, acOf, eInt, eList, List.getD_cons_succ, List.getD_cons_zero, List.set_cons_succ, List.set_cons_zero, List.map_cons, List.map_nil, List.cons_append, List.nil_append, List.append_nil, List.length_cons, List.length_nil, List.take_succ_cons, List.take_nil, List.headD_cons, Int.reduceNeg, Int.toNat_natCast, decide_eq_true_eq, decide_eq_false_iff_not, Int.not_lt, true_and, and_self, not_false_eq_true, if_true, Nat.zero_add, Nat.le_refl, eq_self, Nat.succ_ne_self, tab_3, tab_22, tab_23]
  refine ⟨fun h => ?_, fun h => ?_⟩
  · refine ⟨⟨by omega, by omega⟩, ?_⟩
    refine CallAt.plain (clo_spec (ds.getD i [])) rfl ?_
    rintro r os ⟨rfl, rfl⟩
    simp only [VC_skip, VC_region, VC_seq, VC_cond, VC_ret, aops_nil, aops_cons, put_some, qop, isQuiet, ASt.eval, AV.need, AV.ac, qbin, binInt, AV.map, isScalar, avOf, acOf, AC.ren, giveBack, afterCall, eInt, List.getD_cons_succ, List.getD_cons_zero, List.set_cons_succ, List.set_cons_zero, List.map_nil, List.append_nil, List.length_nil, Int.reduceNeg, decide_eq_true_eq, decide_eq_false_iff_not, Int.not_lt, true_and, and_self, eq_self, tab_3]
    refine ⟨fun h2 => ?_, fun h2 => ?_⟩
    · (refine RetAt.leaf ?_ ?_ <;> simp only [resOf, tupOf, ASt.eval, AV.strip, AV.need, AV.map, AC.ren, List.getD_cons_succ, List.getD_cons_zero, AV.c.injEq, AC.int.injEq, exists_eq_left', true_and, and_true, and_self, eq_self])
      rw [big_at (i := i) (by omega) (by omega), decide_eq_true_eq]
      omega
    · refine ⟨i + 1, ⟨by omega, fun j h3 => ?_⟩, by omega, ?_⟩
      · by_cases e : j = i
        · subst e; omega
        · exact hj j (by omega)
      · (simp only [LessC, lessS, lessO, belowS, belowO, AV.below, AC.below, List.length_nil, List.all_nil, Int.cast_ofNat_Int, Int.natCast_add, AV.c.injEq, AC.int.injEq, true_and, and_true, and_self, reduceCtorEq, Bool.and_true, Nat.le_refl, eq_self, or_true, or_false, false_or] <;> try omega)
        exact i64_in _ (by omega)
  · (refine RetAt.leaf ?_ ?_ <;> simp only [resOf, tupOf, ASt.eval, AV.strip, AV.need, AV.map, AC.ren, List.getD_cons_succ, List.getD_cons_zero, Int.reduceLE, Int.reduceNeg, AV.c.injEq, AC.int.injEq, exists_eq_left', true_and, and_true, and_self, eq_self, decide_false])
    rw [big_none fun j h3 => hj j (by omega)]
theorem contains_spec (ds : List (List Int)) (hl : ds.length ≤ 1048576) : ACall Try.prog 17 [.c (rBB ds), .c (.fn 18 [])] [] (fun r os => r = .c (.bool (big ds)) ∧ os = []) := by
  (refine ACall.of_body (nt := 9) (rs := [.tmp 4]) tabOK Try.func17 rfl rfl rfl rfl ?_; simp only [startSt, List.length_cons, List.length_nil, Nat.reduceAdd, Nat.reduceSub, List.replicate_succ, List.replicate_zero, List.cons_append, List.nil_append])
  simp only [VCp, VC_region, VC_seq, aops_nil, aops_cons, put_some, aop, qop, isQuiet, ASt.eval, ASt.ev, AV.strip, AV.need, AV.isTup, ned, avOf, acOf, List.getD_cons_succ, List.getD_cons_zero, List.set_cons_succ, List.set_cons_zero, List.map_cons, List.map_nil, true_and, and_self, eq_self]
  refine CallAt.plain (index_spec ds hl) rfl ?_
  rintro r os ⟨n, rfl, hn, rfl⟩
  simp only [VC_ret, aops_nil, aops_cons, put_some, qop, isQuiet, ASt.eval, AV.need, AV.ac, qbin, binInt, AV.map, isScalar, avOf, acOf, AC.ren, giveBack, afterCall, eInt, List.getD_cons_succ, List.getD_cons_zero, List.set_cons_succ, List.set_cons_zero, List.map_nil, List.append_nil, List.length_nil, true_and, and_self, eq_self, tab_3, hn]
  (refine RetAt.leaf ?_ ?_ <;> simp only [resOf, tupOf, ASt.eval, AV.strip, AV.need, AV.map, AC.ren, List.getD_cons_succ, List.getD_cons_zero, and_self, eq_self])
set_option maxHeartbeats 8000000 in
theorem check_spec (ds : List (List Int)) (num den : Int) (hl : ds.length ≤ 1048576) : ACall Try.prog 35 [.c (rBB ds), .c (.int .i64 num), .c (.int .i64 den)] [] (fun r os => r = .c (.int .i64 (chk ds num den)) ∧ os = []) := by
  (refine ACall.of_body (nt := 37) (rs := [.tmp 6]) tabOK Try.func35 rfl rfl rfl rfl ?_; simp only [startSt, List.length_cons, List.length_nil, Nat.reduceAdd, Nat.reduceSub, List.replicate_succ, List.replicate_zero, List.cons_append, List.nil_append])
  simp only [VCp, VC_skip, VC_region, VC_seq, VC_cond, VC_block, VC_loop, VC_ret, aops_nil, aops_cons, put_some, qop, isQuiet, ASt.eval, AV.need, AV.ac, qbin, binInt, qlen, isScalar, avOf, acOf, eInt, eList, List.getD_cons_succ, List.getD_cons_zero, List.set_cons_succ, List.set_cons_zero, decide_eq_true_eq, decide_eq_false_iff_not, Int.not_lt, true_and, and_self, eq_self, tab_3, tab_23]
  refine ⟨fun h => ?_, fun h => ?_⟩
  · (refine RetAt.leaf ?_ ?_ <;> simp only [resOf, tupOf, ASt.eval, AV.strip, AV.need, AV.map, AC.ren, List.getD_cons_succ, List.getD_cons_zero, AV.c.injEq, AC.int.injEq, true_and, and_true, and_self, eq_self])
    unfold chk
    rw [if_pos (.inl (by omega))]
  refine LoopAt.inv (ι := Nat) (T := tab) (fun i => [(14, .c (.int .i64 i))]) (fun i => []) (fun i => i ≤ ds.length ∧ ∀ j, j < i → (ds.getD j []).length ≤ 2048) (fun i => ds.length - i) tabOK 0 ⟨Nat.zero_le _, fun j h => by omega⟩ ?_ ?_
  · (simp only [LessC, headSt, dsts, opDsts, resetS, putsS, lessS, lessO, belowS, belowO, AV.below, AC.below, List.set_cons_succ, List.set_cons_zero, List.cons_append, List.nil_append, List.append_nil, List.length_nil, Int.cast_ofNat_Int, AV.c.injEq, and_self, reduceCtorEq, Bool.and_true, Nat.le_refl, eq_self, or_true, or_false] <;> try omega)
  rintro i ⟨hi, hj⟩
  simp only [VCp, headSt, dsts, opDsts, resetS, putsS, VC_skip, VC_region, VC_seq, VC_cond, VC_block, VC_exit, VC_ret, aops_nil, aops_cons, put_some, qop, isQuiet, ASt.eval, AV.need, AV.ac, onG, guardOf, qbin, binInt, qpick, qpick0, qlen, qindexAddr, qload, DV.ac, ofCells, TI.isAgg, isScalar, avOf, acOf, eInt, eList, List.getD_cons_succ, List.getD_cons_zero, List.set_cons_succ, List.set_cons_zero, List.map_cons, List.map_nil, List.cons_append, List.nil_append, List.append_nil, List.length_cons, List.length_nil, List.take_succ_cons, List.take_nil, List.headD_cons, List.getElem?_cons_succ, List.getElem?_cons_zero, Option.bind_some, Int.toNat_natCast, implies_true, imp_self, beq_false, decide_eq_true_eq, decide_eq_false_iff_not, Bool.not_eq_true', Bool.cond_true_left, Bool.or_eq_true, Bool.or_eq_false_iff, Int.not_lt, true_and, and_self, not_false_eq_true, Bool.true_and, if_true, Nat.zero_add, Nat.le_refl, eq_self, Nat.succ_ne_self, tab_3, tab_22, tab_23]
  refine ⟨fun h1 => ?_, fun h1 => ?_⟩
  · refine ⟨⟨by omega, by omega⟩, fun h2 => ?_, fun h2 => ?_⟩
    · (refine RetAt.leaf ?_ ?_ <;> simp only [resOf, tupOf, ASt.eval, AV.strip, AV.need, AV.map, AC.ren, List.getD_cons_succ, List.getD_cons_zero, AV.c.injEq, AC.int.injEq, true_and, and_true, and_self, eq_self])
      unfold chk
      rw [if_pos (.inr (big_at (i := i) (by omega) (by omega)))]
    · refine ⟨i + 1, ⟨by omega, fun j h3 => ?_⟩, by omega, ?_⟩
      · by_cases e : j = i
        · subst e; omega
        · exact hj j (by omega)
      · (simp only [LessC, lessS, lessO, belowS, belowO, AV.below, AC.below, List.length_nil, Int.cast_ofNat_Int, Int.natCast_add, AV.c.injEq, AC.int.injEq, true_and, and_true, and_self, reduceCtorEq, Bool.and_true, Nat.le_refl, eq_self, or_true, or_false, false_or] <;> try omega)
        exact i64_in _ (by omega)
  · have hb : ¬ (60 < ds.length ∨ big ds = true) := by
      rw [big_none fun j h3 => hj j (by omega)]
      intro h'
      rcases h' with h' | h'
      · omega
      · cases h'
    unfold chk
    rw [if_neg hb]
    refine ⟨fun hc => ?_, fun hc => ?_⟩
    · (refine RetAt.leaf ?_ ?_ <;> simp only [resOf, tupOf, ASt.eval, AV.strip, AV.need, AV.map, AC.ren, List.getD_cons_succ, List.getD_cons_zero, AV.c.injEq, AC.int.injEq, true_and, and_true, and_self, eq_self])
      rw [if_pos (by omega)]
    · (refine RetAt.leaf ?_ ?_ <;> simp only [resOf, tupOf, ASt.eval, AV.strip, AV.need, AV.map, AC.ren, List.getD_cons_succ, List.getD_cons_zero, AV.c.injEq, AC.int.injEq, true_and, and_true, and_self, eq_self])
      rw [if_neg (by omega)]
set_option maxHeartbeats 8000000 in
theorem equalI_spec (xs : List Int) (hl : xs.length ≤ 1048576) : ACall Try.prog 9 [.c (rI xs), .c (rI xs)] [] (fun r os => r = .c (.bool true) ∧ os = []) := by
  (refine ACall.of_body (nt := 26) (rs := [.tmp 4]) tabOK Try.func9 rfl rfl rfl rfl ?_; simp only [startSt, List.length_cons, List.length_nil, Nat.reduceAdd, Nat.reduceSub, List.replicate_succ, List.replicate_zero, List.cons_append, List.nil_append])
  simp only [VCp, VC_skip, VC_region, VC_seq, VC_cond, VC_block, VC_loop, VC_ret, aops_nil, aops_cons, put_some, qop, isQuiet, ASt.eval, AV.need, AV.ac, qbin, binInt, qlen, isScalar, avOf, acOf, eInt, eList, List.getD_cons_succ, List.getD_cons_zero, List.set_cons_succ, List.set_cons_zero, true_and, and_self, forall_const, false_implies, Bool.false_eq_true, Bool.not_true, eq_self, decide_true, tab_3, tab_25]
  refine LoopAt.inv (ι := Nat) (T := tab) (fun i => [(13, .c (.int .i64 i))]) (fun i => []) (fun i => i ≤ xs.length) (fun i => xs.length - i) tabOK 0 (Nat.zero_le _) ?_ ?_
  · (simp only [LessC, headSt, dsts, opDsts, resetS, putsS, lessS, lessO, belowS, belowO, AV.below, AC.below, List.set_cons_succ, List.set_cons_zero, List.cons_append, List.nil_append, List.append_nil, List.length_nil, Int.cast_ofNat_Int, AV.c.injEq, and_self, reduceCtorEq, Bool.and_true, Nat.le_refl, eq_self, or_true, or_false] <;> try omega)
  intro i hi
  simp only [VCp, headSt, dsts, opDsts, resetS, putsS, VC_skip, VC_region, VC_draw, VC_seq, VC_cond, VC_block, VC_exit, VC_ret, aops_nil, aops_cons, put_some, qop, isQuiet, ASt.eval, AV.need, AV.ac, qbin, binInt, isScalar, avOf, acOf, eInt, List.getD_cons_succ, List.getD_cons_zero, List.set_cons_succ, List.set_cons_zero, List.cons_append, List.nil_append, List.append_nil, decide_eq_true_eq, decide_eq_false_iff_not, Int.not_lt, true_and, and_self, if_true, eq_self, tab_3]
  refine ⟨fun h => ?_, fun h => ?_⟩
  · refine DrawAt.plan tabOK mixed (.take 0 true (.take 1 true (.take 2 true (.take 3 true (.take 4 true (.take 5 true (.take 6 true (.take 7 true (.take 8 true .done))))))))) (by decide +kernel) ?_
    simp only [avc_done, avc_take, qstep, ownLoad, VC_skip, VC_region, VC_seq, VC_cond, VC_ret, aops_nil, aops_cons, put_some, qop, isQuiet, ASt.eval, AV.need, AV.ac, qbin, binInt, qindexAddr, qload, DV.ac, ofCells, TI.isAgg, isScalar, avOf, acOf, eInt, eList, List.getD_cons_succ, List.getD_cons_zero, List.set_cons_succ, List.set_cons_zero, List.map_cons, List.map_nil, List.length_cons, List.length_nil, List.take_succ_cons, List.take_nil, List.headD_cons, List.getElem?_cons_succ, List.getElem?_cons_zero, Int.toNat_natCast, true_and, and_self, forall_const, false_implies, not_false_eq_true, Bool.false_eq_true, Bool.not_true, Nat.zero_add, Nat.le_refl, eq_self, Nat.succ_ne_self, decide_true, or_true, tab_3, tab_25]
    refine ⟨⟨by omega, by omega⟩, ⟨by omega, by omega⟩, i + 1, by omega, by omega, ?_⟩
    (simp only [LessC, lessS, lessO, belowS, belowO, AV.below, AC.below, List.length_nil, Int.cast_ofNat_Int, Int.natCast_add, AV.c.injEq, AC.int.injEq, true_and, and_true, and_self, reduceCtorEq, Bool.and_true, Nat.le_refl, eq_self, or_true, or_false, false_or] <;> try omega)
    exact i64_in _ (by omega)
  · (refine RetAt.leaf ?_ ?_ <;> simp only [resOf, tupOf, ASt.eval, AV.strip, AV.need, AV.map, AC.ren, List.getD_cons_succ, List.getD_cons_zero, and_self, eq_self])
set_option maxHeartbeats 8000000 in
theorem equalP_spec (xs : List (Int × Int)) (hl : xs.length ≤ 1048576) : ACall Try.prog 21 [.c (rP xs), .c (rP xs)] [] (fun r os => r = .c (.bool true) ∧ os = []) := by
  (refine ACall.of_body (nt := 26) (rs := [.tmp 4]) tabOK Try.func21 rfl rfl rfl rfl ?_; simp only [startSt, List.length_cons, List.length_nil, Nat.reduceAdd, Nat.reduceSub, List.replicate_succ, List.replicate_zero, List.cons_append, List.nil_append])
  simp only [VCp, VC_skip, VC_region, VC_seq, VC_cond, VC_block, VC_loop, VC_ret, aops_nil, aops_cons, put_some, qop, isQuiet, ASt.eval, AV.need, AV.ac, qbin, binInt, qlen, isScalar, avOf, acOf, eInt, eList, ePair, List.getD_cons_succ, List.getD_cons_zero, List.set_cons_succ, List.set_cons_zero, List.cons_append, List.nil_append, true_and, and_self, forall_const, false_implies, Bool.false_eq_true, Bool.not_true, eq_self, decide_true, tab_3, tab_39]
  refine LoopAt.inv (ι := Nat) (T := tab) (fun i => [(13, .c (.int .i64 i))]) (fun i => []) (fun i => i ≤ xs.length) (fun i => xs.length - i) tabOK 0 (Nat.zero_le _) ?_ ?_
  · (simp only [LessC, headSt, dsts, opDsts, resetS, putsS, lessS, lessO, belowS, belowO, AV.below, AC.below, List.set_cons_succ, List.set_cons_zero, List.cons_append, List.nil_append, List.append_nil, List.length_nil, Int.cast_ofNat_Int, AV.c.injEq, and_self, reduceCtorEq, Bool.and_true, Nat.le_refl, eq_self, or_true, or_false] <;> try omega)
  intro i hi
  simp only [VCp, headSt, dsts, opDsts, resetS, putsS, VC_skip, VC_region, VC_draw, VC_seq, VC_cond, VC_block, VC_exit, VC_ret, aops_nil, aops_cons, put_some, qop, isQuiet, ASt.eval, AV.need, AV.ac, qbin, binInt, isScalar, avOf, acOf, eInt, List.getD_cons_succ, List.getD_cons_zero, List.set_cons_succ, List.set_cons_zero, List.cons_append, List.nil_append, List.append_nil, decide_eq_true_eq, decide_eq_false_iff_not, Int.not_lt, true_and, and_self, if_true, eq_self, tab_3]
  refine ⟨fun h => ?_, fun h => ?_⟩
  · refine DrawAt.plan tabOK mixed (.take 0 false (.take 1 false (.take 2 false (.take 3 true (.take 4 false (.take 5 false (.take 6 false (.take 7 true (.alt 8 .done .stop))))))))) (by decide +kernel) ?_
    simp only [avc_done, avc_stop, avc_take, avc_alt, qstep, lstep, ownLoad, VC_skip, VC_region, VC_seq, VC_cond, VC_ret, aops_nil, aops_cons, put_some, aop, qop, isQuiet, ASt.eval, AV.need, AV.ac, AV.isTup, qbin, binInt, qindexAddr, qload, ned, DV.ac, ofCells, TI.isAgg, isScalar, avOf, acOf, intsEq, eInt, eList, ePair, List.getD_cons_succ, List.getD_cons_zero, List.set_cons_succ, List.set_cons_zero, List.map_cons, List.map_nil, List.cons_append, List.nil_append, List.length_cons, List.length_nil, List.take_succ_cons, List.take_nil, List.getElem?_cons_succ, List.getElem?_cons_zero, Int.toNat_natCast, true_and, and_true, and_self, forall_const, reduceCtorEq, false_implies, not_false_eq_true, Bool.and_true, Bool.false_eq_true, Bool.not_true, beq_self_eq_true, Nat.zero_add, Nat.reduceAdd, Nat.le_refl, eq_self, or_true, tab_3, tab_39, tab_40]
    refine ⟨⟨by omega, by omega⟩, ⟨by omega, by omega⟩, i + 1, by omega, by omega, ?_⟩
    (simp only [LessC, lessS, lessO, belowS, belowO, AV.below, AC.below, List.length_nil, Int.cast_ofNat_Int, Int.natCast_add, AV.c.injEq, AC.int.injEq, true_and, and_true, and_self, reduceCtorEq, Bool.and_true, Nat.le_refl, eq_self, or_true, or_false, false_or] <;> try omega)
    exact i64_in _ (by omega)
  · (refine RetAt.leaf ?_ ?_ <;> simp only [resOf, tupOf, ASt.eval, AV.strip, AV.need, AV.map, AC.ren, List.getD_cons_succ, List.getD_cons_zero, and_self, eq_self])
set_option maxHeartbeats 8000000 in
theorem equalII_spec (xs : List (List Int)) (hl : xs.length ≤ 1048576) (hx : ∀ x ∈ xs, x.length ≤ 1048576) : ACall Try.prog 22 [.c (rII xs), .c (rII xs), .c (.fn 9 [])] [] (fun r os => r = .c (.bool true) ∧ os = []) := by
  (refine ACall.of_body (nt := 32) (rs := [.tmp 6]) tabOK Try.func22 rfl rfl rfl rfl ?_; simp only [startSt, List.length_cons, List.length_nil, Nat.reduceAdd, Nat.reduceSub, List.replicate_succ, List.replicate_zero, List.cons_append, List.nil_append])
  simp only [VCp, VC_skip, VC_region, VC_seq, VC_cond, VC_block, VC_loop, VC_ret, aops_nil, aops_cons, put_some, qop, isQuiet, ASt.eval, AV.need, AV.ac, qbin, binInt, qlen, isScalar, avOf, acOf, eInt, eList, List.getD_cons_succ, List.getD_cons_zero, List.set_cons_succ, List.set_cons_zero, true_and, and_self, forall_const, false_implies, Bool.false_eq_true, Bool.not_true, eq_self, decide_true, tab_3, tab_46]
  refine LoopAt.inv (ι := Nat) (T := tab) (fun i => [(17, .c (.int .i64 i))]) (fun i => []) (fun i => i ≤ xs.length) (fun i => xs.length - i) tabOK 0 (Nat.zero_le _) ?_ ?_
  · (simp only [LessC, headSt, dsts, opDsts, resetS, putsS, lessS, lessO, belowS, belowO, AV.below, AC.below, List.set_cons_succ, List.set_cons_zero, List.cons_append, List.nil_append, List.append_nil, List.length_nil, List.all_nil, Int.cast_ofNat_Int, AV.c.injEq, and_self, reduceCtorEq, Bool.and_true, Nat.le_refl, eq_self, or_true, or_false] <;> try omega)
  intro i hi
  simp only [VCp, headSt, dsts, opDsts, resetS, putsS, VC_skip, VC_region, VC_seq, VC_cond, VC_block, VC_exit, VC_ret, aops_nil, aops_cons, put_some, aop, qop, isQuiet, ASt.eval, ASt.ev, AV.strip, AV.need, AV.ac, AV.isTup, qbin, binInt, qindexAddr, qload, ned, DV.ac, ofCells, TI.isAgg, isScalar, avOf, acOf, eInt, eList, List.getD_cons_succ, List.getD_cons_zero, List.set_cons_succ, List.set_cons_zero, List.map_cons, List.map_nil, List.cons_append, List.nil_append, List.append_nil, List.length_cons, List.length_nil, List.take_succ_cons, List.take_nil, List.headD_cons, Int.toNat_natCast, decide_eq_true_eq, decide_eq_false_iff_not, Int.not_lt, true_and, and_self, not_false_eq_true, if_true, Nat.zero_add, Nat.le_refl, eq_self, Nat.succ_ne_self, tab_3, tab_25, tab_46]
  refine ⟨fun h => ?_, fun h => ?_⟩
  · refine ⟨⟨by omega, by omega⟩, ⟨by omega, by omega⟩, ?_⟩
    refine CallAt.plain (equalI_spec (xs.getD i []) (hx _ (getD_in _ (by omega)))) rfl ?_
    rintro r os ⟨rfl, rfl⟩
    simp only [VC_skip, VC_region, VC_seq, VC_cond, VC_ret, aops_nil, aops_cons, put_some, qop, isQuiet, ASt.eval, AV.need, AV.ac, qbin, binInt, qun, AV.map, isScalar, avOf, acOf, AC.ren, giveBack, afterCall, eInt, List.getD_cons_succ, List.getD_cons_zero, List.set_cons_succ, List.set_cons_zero, List.map_nil, List.append_nil, List.length_nil, true_and, and_self, forall_const, false_implies, Bool.false_eq_true, Bool.not_true, eq_self, tab_3]
    refine ⟨i + 1, by omega, by omega, ?_⟩
    (simp only [LessC, lessS, lessO, belowS, belowO, AV.below, AC.below, List.length_nil, List.all_nil, Int.cast_ofNat_Int, Int.natCast_add, AV.c.injEq, AC.int.injEq, true_and, and_true, and_self, reduceCtorEq, Bool.and_true, Nat.le_refl, eq_self, or_true, or_false, false_or] <;> try omega)
    exact i64_in _ (by omega)
  · (refine RetAt.leaf ?_ ?_ <;> simp only [resOf, tupOf, ASt.eval, AV.strip, AV.need, AV.map, AC.ren, List.getD_cons_succ, List.getD_cons_zero, and_self, eq_self])
end Go.Vc.Ng
