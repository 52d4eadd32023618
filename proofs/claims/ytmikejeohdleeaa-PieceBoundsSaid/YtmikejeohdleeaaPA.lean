/- Lists searched and compared. -/
import Derived.Test.YtmikejeohdleeaaV26
import Derived.Test.YtmikejeohdleeaaVT
import Derived.IntWalk
set_option linter.unusedVariables false
set_option linter.unusedSimpArgs false
namespace Go.Vc.Pc
open Go.Proofs Go.IntWalk
set_option maxRecDepth 100000
theorem take_next {β : Type} (l : List β) (i : Nat) (z : β) (h : i < l.length) : l.take (i + 1) = l.take i ++ [l.getD i z] := by
  rw [List.take_add_one, List.getElem?_eq_getElem h]
  simp [List.getD, h]
theorem index_none {xs : List Int} {x : Int} {i : Nat} (h : x ∉ xs.take i) (hi : i < xs.length) (hx : ¬ x = xs.getD i 0) : x ∉ xs.take (i + 1) := by
  rw [take_next xs i 0 hi]
  simp only [List.mem_append, List.mem_singleton, not_or]
  exact ⟨h, hx⟩
set_option maxHeartbeats 4000000 in
theorem index_spec (xs : List Int) (x : Int) (hl : xs.length < 9223372036854775807) :
    ACall Try.prog 97 [.c (.rd 1 Int 0 (fun n => [.int .i64 n]) xs), .c (.int .i64 x)] [] (fun r os => (∃ k : Int, r = .c (.int .i64 k) ∧ (0 ≤ k ↔ x ∈ xs)) ∧ os = []) := by
  (refine ACall.of_body (nt := 19) (rs := [.tmp 4]) tabOK Try.func97 rfl rfl rfl rfl ?_; simp only [startSt, List.length_cons, List.length_nil, Nat.reduceAdd, Nat.reduceSub, List.replicate_succ, List.replicate_zero, List.cons_append, List.nil_append])
  simp only [VCp, VC_region, VC_seq, VC_block, VC_loop, aops_nil, aops_cons, put_some, qop, isQuiet, ASt.eval, AV.need, AV.ac, qlen, avOf, acOf, eInt, eList, List.getD_cons_succ, List.getD_cons_zero, List.set_cons_succ, List.set_cons_zero, Int.reduceNeg, true_and, and_self, tab_26]
  refine LoopAt.inv (ι := Nat) (T := tab) (fun i => [(8, .c (.int .i64 i))]) (fun i => [])
    (fun i => i ≤ xs.length ∧ x ∉ xs.take i) (fun i => xs.length - i) tabOK 0 ⟨Nat.zero_le _, by simp⟩ ?_ ?_
  · (simp only [LessC, headSt, dsts, opDsts, resetS, putsS, lessS, lessO, belowS, belowO, AV.below, AC.below, List.set_cons_succ, List.set_cons_zero, List.cons_append, List.nil_append, List.append_nil, List.length_nil, Int.cast_ofNat_Int, AV.c.injEq, and_self, reduceCtorEq, Bool.and_true, Nat.le_refl, eq_self, or_true, or_false] <;> try omega)
  rintro i ⟨hi, hn⟩
  simp only [VCp, headSt, dsts, opDsts, resetS, putsS, VC_skip, VC_region, VC_seq, VC_cond, VC_block, VC_exit, VC_ret, aops_nil, aops_cons, put_some, qop, isQuiet, ASt.eval, AV.need, AV.ac, qbin, binInt, qindexAddr, qload, DV.ac, ofCells, TI.isAgg, isScalar, avOf, acOf, eInt, eList, List.getD_cons_succ, List.getD_cons_zero, List.set_cons_succ, List.set_cons_zero, List.map_cons, List.map_nil, List.cons_append, List.nil_append, List.append_nil, List.length_cons, List.length_nil, List.take_succ_cons, List.take_nil, List.headD_cons, Int.reduceNeg, Int.toNat_natCast, decide_eq_true_eq, decide_eq_false_iff_not, Int.not_lt, true_and, and_self, not_false_eq_true, if_true, Nat.zero_add, Nat.le_refl, eq_self, Nat.succ_ne_self, tab_3, tab_26]
  refine ⟨fun h => ?_, fun h => ?_⟩
  · have hi' : i < xs.length := by omega
    refine ⟨⟨by omega, by omega⟩, fun hc => ?_, fun hc => ⟨i + 1, ⟨by omega, index_none hn hi' hc⟩, by omega, ?_⟩⟩
    · (refine RetAt.leaf ?_ ?_ <;> simp only [resOf, tupOf, ASt.eval, AV.strip, AV.need, AV.map, AC.ren, List.getD_cons_succ, List.getD_cons_zero, AV.c.injEq, AC.int.injEq, exists_eq_left', true_and, and_true, and_self, eq_self])
      refine ⟨fun _ => ?_, fun _ => by omega⟩
      rw [hc]
      simp [List.getD, hi']
    · (simp only [LessC, lessS, lessO, belowS, belowO, AV.below, AC.below, List.length_nil, Int.cast_ofNat_Int, Int.natCast_add, AV.c.injEq, AC.int.injEq, true_and, and_true, and_self, reduceCtorEq, Bool.and_true, Nat.le_refl, eq_self, or_true, or_false, false_or] <;> try omega)
      exact i64_in _ (by omega)
  · have : i = xs.length := by omega
    subst this
    rw [List.take_length] at hn
    (refine RetAt.leaf ?_ ?_ <;> simp only [resOf, tupOf, ASt.eval, AV.strip, AV.need, AV.map, AC.ren, List.getD_cons_succ, List.getD_cons_zero, Int.reduceLE, Int.reduceNeg, AV.c.injEq, AC.int.injEq, exists_eq_left', true_and, and_true, and_self, eq_self])
    exact ⟨fun h => h.elim, fun h => absurd h hn⟩
theorem contains_spec (xs : List Int) (x : Int) (hl : xs.length < 9223372036854775807) :
    ACall Try.prog 70 [.c (.rd 1 Int 0 (fun n => [.int .i64 n]) xs), .c (.int .i64 x)] [] (fun r os => r = .c (.bool (decide (x ∈ xs))) ∧ os = []) := by
  (refine ACall.of_body (nt := 9) (rs := [.tmp 4]) tabOK Try.func70 rfl rfl rfl rfl ?_; simp only [startSt, List.length_cons, List.length_nil, Nat.reduceAdd, Nat.reduceSub, List.replicate_succ, List.replicate_zero, List.cons_append, List.nil_append])
  simp only [VCp, VC_region, VC_seq, aops_nil, aops_cons, put_some, aop, qop, isQuiet, ASt.eval, ASt.ev, AV.strip, AV.need, AV.isTup, ned, avOf, acOf, List.getD_cons_succ, List.getD_cons_zero, List.set_cons_succ, List.set_cons_zero, List.map_cons, List.map_nil, true_and, and_self, eq_self]
  refine CallAt.plain (index_spec xs x hl) rfl ?_
  rintro r os ⟨⟨k, rfl, hk⟩, rfl⟩
  simp only [VC_ret, aops_nil, aops_cons, put_some, qop, isQuiet, ASt.eval, AV.need, AV.ac, qbin, binInt, AV.map, isScalar, avOf, acOf, AC.ren, giveBack, afterCall, eInt, List.getD_cons_succ, List.getD_cons_zero, List.set_cons_succ, List.set_cons_zero, List.map_nil, List.append_nil, List.length_nil, true_and, and_self, eq_self, tab_3]
  (refine RetAt.leaf ?_ ?_ <;> simp only [resOf, tupOf, ASt.eval, AV.strip, AV.need, AV.map, AC.ren, List.getD_cons_succ, List.getD_cons_zero, AV.c.injEq, AC.bool.injEq, and_true, and_self, eq_self])
  simp [hk]

set_option maxHeartbeats 4000000 in
theorem equalI_spec (xs : List Int) (hl : xs.length ≤ 65535) : ACall Try.prog 27 [.c (.rd 1 Int 0 (fun n => [.int .i64 n]) xs), .c (.rd 1 Int 0 (fun n => [.int .i64 n]) xs)] [] (fun r os => r = .c (.bool true) ∧ os = []) := by
  (refine ACall.of_body (nt := 26) (rs := [.tmp 4]) tabOK Try.func27 rfl rfl rfl rfl ?_; simp only [startSt, List.length_cons, List.length_nil, Nat.reduceAdd, Nat.reduceSub, List.replicate_succ, List.replicate_zero, List.cons_append, List.nil_append])
  simp only [VCp, VC_skip, VC_region, VC_seq, VC_cond, VC_block, VC_loop, VC_ret, aops_nil, aops_cons, put_some, qop, isQuiet, ASt.eval, AV.need, AV.ac, qbin, binInt, qlen, isScalar, avOf, acOf, eInt, eList, List.getD_cons_succ, List.getD_cons_zero, List.set_cons_succ, List.set_cons_zero, true_and, and_self, forall_const, false_implies, Bool.false_eq_true, Bool.not_true, eq_self, decide_true, tab_3, tab_26]
  refine LoopAt.inv (ι := Nat) (T := tab) (fun i => [(13, .c (.int .i64 i))]) (fun i => []) (fun i => i ≤ xs.length) (fun i => xs.length - i) tabOK 0 (Nat.zero_le _) ?_ ?_
  · (simp only [LessC, headSt, dsts, opDsts, resetS, putsS, lessS, lessO, belowS, belowO, AV.below, AC.below, List.set_cons_succ, List.set_cons_zero, List.cons_append, List.nil_append, List.append_nil, List.length_nil, Int.cast_ofNat_Int, AV.c.injEq, and_self, reduceCtorEq, Bool.and_true, Nat.le_refl, eq_self, or_true, or_false] <;> try omega)
  · intro i hi
    simp only [VCp, headSt, dsts, opDsts, resetS, putsS, VC_skip, VC_region, VC_draw, VC_seq, VC_cond, VC_block, VC_exit, VC_ret, aops_nil, aops_cons, put_some, qop, isQuiet, ASt.eval, AV.need, AV.ac, qbin, binInt, isScalar, avOf, acOf, eInt, List.getD_cons_succ, List.getD_cons_zero, List.set_cons_succ, List.set_cons_zero, List.cons_append, List.nil_append, List.append_nil, decide_eq_true_eq, decide_eq_false_iff_not, Int.not_lt, true_and, and_self, if_true, eq_self, tab_3]
    refine ⟨fun h => ?_, fun h => ?_⟩
    · refine DrawAt.plan tabOK mixed (.take 0 true (.take 1 true (.take 2 true (.take 3 true (.take 4 true (.take 5 true (.take 6 true (.take 7 true (.take 8 true .done))))))))) (by decide +kernel) ?_
      simp only [avc_done, avc_take, qstep, ownLoad, VC_skip, VC_region, VC_seq, VC_cond, VC_ret, aops_nil, aops_cons, put_some, qop, isQuiet, ASt.eval, AV.need, AV.ac, qbin, binInt, qindexAddr, qload, DV.ac, ofCells, TI.isAgg, isScalar, avOf, acOf, eInt, eList, List.getD_cons_succ, List.getD_cons_zero, List.set_cons_succ, List.set_cons_zero, List.map_cons, List.map_nil, List.length_cons, List.length_nil, List.take_succ_cons, List.take_nil, List.headD_cons, List.getElem?_cons_succ, List.getElem?_cons_zero, Int.toNat_natCast, true_and, and_self, forall_const, false_implies, not_false_eq_true, Bool.false_eq_true, Bool.not_true, Nat.zero_add, Nat.le_refl, eq_self, Nat.succ_ne_self, decide_true, or_true, tab_3, tab_26]
      refine ⟨⟨by omega, by omega⟩, ⟨by omega, by omega⟩, i + 1, by omega, by omega, ?_⟩
      (simp only [LessC, lessS, lessO, belowS, belowO, AV.below, AC.below, List.length_nil, Int.cast_ofNat_Int, Int.natCast_add, AV.c.injEq, AC.int.injEq, true_and, and_true, and_self, reduceCtorEq, Bool.and_true, Nat.le_refl, eq_self, or_true, or_false, false_or] <;> try omega)
      exact i64_in _ (by omega)
    · (refine RetAt.leaf ?_ ?_ <;> simp only [resOf, tupOf, ASt.eval, AV.strip, AV.need, AV.map, AC.ren, List.getD_cons_succ, List.getD_cons_zero, and_self, eq_self])

/-- a weight that is out of its range -/
def bad (w : Int) : Prop := w < -1000000 ∨ 1000000 < w
instance (w : Int) : Decidable (bad w) := by unfold bad; infer_instance
set_option maxHeartbeats 4000000 in
theorem wrong_spec (w : Int) : ACall Try.prog 75 [.c (.int .i64 w)] [] (fun r os => r = .c (.bool (decide (bad w))) ∧ os = []) := by
  (refine ACall.of_body (nt := 9) (rs := [.tmp 2]) tabOK Try.func75 rfl rfl rfl rfl ?_; simp only [startSt, List.length_cons, List.length_nil, Nat.reduceAdd, Nat.reduceSub, List.replicate_succ, List.replicate_zero, List.cons_append, List.nil_append])
  simp only [VCp, VC_region, VC_seq, VC_ret, aops_nil, aops_cons, put_some, qop, isQuiet, ASt.eval, AV.need, AV.ac, onG, guardOf, qbin, binInt, qpick, qpick0, isScalar, avOf, acOf, eInt, List.getD_cons_succ, List.getD_cons_zero, List.set_cons_succ, List.set_cons_zero, List.getElem?_cons_succ, List.getElem?_cons_zero, Option.bind_some, Int.reduceNeg, implies_true, imp_self, beq_false, decide_eq_false_iff_not, Bool.not_eq_true', Bool.cond_true_left, Int.not_lt, true_and, and_self, Bool.true_and, eq_self, tab_3]
  (refine RetAt.leaf ?_ ?_ <;> simp only [resOf, tupOf, ASt.eval, AV.strip, AV.need, AV.map, AC.ren, List.getD_cons_succ, List.getD_cons_zero, Int.reduceNeg, AV.c.injEq, AC.bool.injEq, and_true, and_self, eq_self])
  rw [Bool.eq_iff_iff, decide_eq_true_iff (p := bad w)]
  unfold bad
  simp
set_option maxHeartbeats 4000000 in
theorem indexFunc_spec (xs : List Int) (hl : xs.length < 9223372036854775807) :
    ACall Try.prog 98 [.c (.rd 1 Int 0 (fun n => [.int .i64 n]) xs), .c (.fn 75 [])] [] (fun r os => (∃ k : Int, r = .c (.int .i64 k) ∧ (0 ≤ k ↔ ∃ w ∈ xs, bad w)) ∧ os = []) := by
  (refine ACall.of_body (nt := 19) (rs := [.tmp 4]) tabOK Try.func98 rfl rfl rfl rfl ?_; simp only [startSt, List.length_cons, List.length_nil, Nat.reduceAdd, Nat.reduceSub, List.replicate_succ, List.replicate_zero, List.cons_append, List.nil_append])
  simp only [VCp, VC_region, VC_seq, VC_block, VC_loop, aops_nil, aops_cons, put_some, qop, isQuiet, ASt.eval, AV.need, AV.ac, qlen, avOf, acOf, eInt, eList, List.getD_cons_succ, List.getD_cons_zero, List.set_cons_succ, List.set_cons_zero, Int.reduceNeg, true_and, and_self, tab_26]
  refine LoopAt.inv (ι := Nat) (T := tab) (fun i => [(8, .c (.int .i64 i))]) (fun i => [])
    (fun i => i ≤ xs.length ∧ ¬ ∃ w ∈ xs.take i, bad w) (fun i => xs.length - i) tabOK 0 ⟨Nat.zero_le _, by simp⟩ ?_ ?_
  · (simp only [LessC, headSt, dsts, opDsts, resetS, putsS, lessS, lessO, belowS, belowO, AV.below, AC.below, List.set_cons_succ, List.set_cons_zero, List.cons_append, List.nil_append, List.append_nil, List.length_nil, List.all_nil, Int.cast_ofNat_Int, AV.c.injEq, and_self, reduceCtorEq, Bool.and_true, Nat.le_refl, eq_self, or_true, or_false] <;> try omega)
  rintro i ⟨hi, hn⟩
  simp only [VCp, headSt, dsts, opDsts, resetS, putsS, VC_skip, VC_region, VC_seq, VC_cond, VC_block, VC_exit, VC_ret, aops_nil, aops_cons, put_some, aop, qop, isQuiet, ASt.eval, ASt.ev, AV.strip, AV.need, AV.ac, AV.isTup, qbin, binInt, qindexAddr, qload, ned, DV.ac, ofCells, TI.isAgg, isScalar, avOf, acOf, eInt, eList, List.getD_cons_succ, List.getD_cons_zero, List.set_cons_succ, List.set_cons_zero, List.map_cons, List.map_nil, List.cons_append, List.nil_append, List.append_nil, List.length_cons, List.length_nil, List.take_succ_cons, List.take_nil, List.headD_cons, Int.reduceNeg, Int.toNat_natCast, decide_eq_true_eq, decide_eq_false_iff_not, Int.not_lt, true_and, and_self, not_false_eq_true, if_true, Nat.zero_add, Nat.le_refl, eq_self, Nat.succ_ne_self, tab_3, tab_26]
  refine ⟨fun h => ?_, fun h => ?_⟩
  · have hi' : i < xs.length := by omega
    refine ⟨⟨by omega, by omega⟩, ?_⟩
    refine CallAt.plain (wrong_spec (xs.getD i 0)) rfl ?_
    rintro r os ⟨rfl, rfl⟩
    simp only [VC_skip, VC_region, VC_seq, VC_cond, VC_ret, aops_nil, aops_cons, put_some, qop, isQuiet, ASt.eval, AV.need, AV.ac, qbin, binInt, AV.map, isScalar, avOf, acOf, AC.ren, giveBack, afterCall, eInt, List.getD_cons_succ, List.getD_cons_zero, List.set_cons_succ, List.set_cons_zero, List.map_nil, List.append_nil, List.length_nil, Int.reduceNeg, decide_eq_true_eq, decide_eq_false_iff_not, true_and, and_self, eq_self, tab_3]
    refine ⟨fun hc => ?_, fun hc => ⟨i + 1, ⟨by omega, ?_⟩, by omega, ?_⟩⟩
    · (refine RetAt.leaf ?_ ?_ <;> simp only [resOf, tupOf, ASt.eval, AV.strip, AV.need, AV.map, AC.ren, List.getD_cons_succ, List.getD_cons_zero, AV.c.injEq, AC.int.injEq, exists_eq_left', true_and, and_true, and_self, eq_self])
      refine ⟨fun _ => ⟨xs.getD i 0, ?_, hc⟩, fun _ => by omega⟩
      simp [List.getD, hi']
    · rw [take_next xs i 0 hi']
      rintro ⟨w, hw, hb⟩
      rcases List.mem_append.1 hw with hw | hw
      · exact hn ⟨w, hw, hb⟩
      · simp only [List.mem_singleton] at hw
        subst hw
        exact hc hb
    · (simp only [LessC, lessS, lessO, belowS, belowO, AV.below, AC.below, List.length_nil, List.all_nil, Int.cast_ofNat_Int, Int.natCast_add, AV.c.injEq, AC.int.injEq, true_and, and_true, and_self, reduceCtorEq, Bool.and_true, Nat.le_refl, eq_self, or_true, or_false, false_or] <;> try omega)
      exact i64_in _ (by omega)
  · have : i = xs.length := by omega
    subst this
    rw [List.take_length] at hn
    (refine RetAt.leaf ?_ ?_ <;> simp only [resOf, tupOf, ASt.eval, AV.strip, AV.need, AV.map, AC.ren, List.getD_cons_succ, List.getD_cons_zero, Int.reduceLE, Int.reduceNeg, AV.c.injEq, AC.int.injEq, exists_eq_left', true_and, and_true, and_self, eq_self])
    exact ⟨fun h => h.elim, fun h => absurd h hn⟩
theorem containsFunc_spec (xs : List Int) (hl : xs.length < 9223372036854775807) :
    ACall Try.prog 76 [.c (.rd 1 Int 0 (fun n => [.int .i64 n]) xs), .c (.fn 75 [])] [] (fun r os => r = .c (.bool (decide (∃ w ∈ xs, bad w))) ∧ os = []) := by
  (refine ACall.of_body (nt := 9) (rs := [.tmp 4]) tabOK Try.func76 rfl rfl rfl rfl ?_; simp only [startSt, List.length_cons, List.length_nil, Nat.reduceAdd, Nat.reduceSub, List.replicate_succ, List.replicate_zero, List.cons_append, List.nil_append])
  simp only [VCp, VC_region, VC_seq, aops_nil, aops_cons, put_some, aop, qop, isQuiet, ASt.eval, ASt.ev, AV.strip, AV.need, AV.isTup, ned, avOf, acOf, List.getD_cons_succ, List.getD_cons_zero, List.set_cons_succ, List.set_cons_zero, List.map_cons, List.map_nil, true_and, and_self, eq_self]
  refine CallAt.plain (indexFunc_spec xs hl) rfl ?_
  rintro r os ⟨⟨k, rfl, hk⟩, rfl⟩
  simp only [VC_ret, aops_nil, aops_cons, put_some, qop, isQuiet, ASt.eval, AV.need, AV.ac, qbin, binInt, AV.map, isScalar, avOf, acOf, AC.ren, giveBack, afterCall, eInt, List.getD_cons_succ, List.getD_cons_zero, List.set_cons_succ, List.set_cons_zero, List.map_nil, List.append_nil, List.length_nil, true_and, and_self, eq_self, tab_3]
  (refine RetAt.leaf ?_ ?_ <;> simp only [resOf, tupOf, ASt.eval, AV.strip, AV.need, AV.map, AC.ren, List.getD_cons_succ, List.getD_cons_zero, AV.c.injEq, AC.bool.injEq, and_true, and_self, eq_self])
  simp [hk]
end Go.Vc.Pc
