/- Strings compared, hashes, lists of numbers compared. -/
import Derived.Test.YtmikejeohdleeaaNA
import Derived.Sort.Walk0
import Derived.IntWalk
set_option linter.unusedVariables false
set_option linter.unusedSimpArgs false
namespace Go.Vc.Ne
open Go.Proofs Go.IntWalk
set_option maxRecDepth 100000
theorem take_next {α : Type} (xs : List α) (i : Nat) (z : α) (h : i < xs.length) : xs.take (i + 1) = xs.take i ++ [xs.getD i z] := by
  rw [List.take_add_one, List.getElem?_eq_getElem h]
  simp [List.getD, h]
theorem nd {p : Prop} [Decidable p] (h : (!decide p) = false) : p := by simpa using h
abbrev keyS (s : ByteArray) : List UInt8 := s.toList
theorem keyS_inj {a b : ByteArray} (h : keyS a = keyS b) : a = b := by
  unfold keyS at h
  rw [ByteArray.toList_eq, ByteArray.toList_eq] at h
  cases a; cases b
  simp only at h
  congr 1
  exact Array.toList_inj.1 h
def ltS (a b : ByteArray) : Prop := keyS a < keyS b
instance {a b : ByteArray} : Decidable (ltS a b) := by unfold ltS; exact inferInstance
theorem bytesLess_lt (a b : ByteArray) : Op.bytesLess a.toList b.toList = decide (ltS a b) := bytesLess_eq _ _
theorem beq_eq (a b : ByteArray) : (a.toList == b.toList) = decide (a = b) := by
  rw [Bool.eq_iff_iff, beq_iff_eq, decide_eq_true_iff]
  exact ⟨fun h => keyS_inj h, fun h => by rw [h]⟩
theorem ltS_irrefl (a : ByteArray) : ¬ ltS a a := List.lt_irrefl _
theorem ltS_trans {a b c : ByteArray} (h1 : ltS a b) (h2 : ltS b c) : ltS a c := List.lt_trans h1 h2
theorem ltS_total {a b : ByteArray} (h : ¬ a = b) (h2 : ¬ ltS a b) : ltS b a := by
  have h3 : ¬ keyS a = keyS b := fun e => h (keyS_inj e)
  unfold ltS at *
  rcases List.le_total (keyS a) (keyS b) with h4 | h4
  · rcases List.le_iff_lt_or_eq.1 h4 with h5 | h5
    · exact absurd h5 h2
    · exact absurd h5 h3
  · rcases List.le_iff_lt_or_eq.1 h4 with h5 | h5
    · exact h5
    · exact absurd h5.symm h3
set_option maxHeartbeats 4000000 in
theorem isNaN_spec (a : ByteArray) : ACall Try.prog 112 [.c (.str a)] [] (fun r os => r = .c (.bool false) ∧ os = []) := by
  (refine ACall.of_body (nt := 6) (rs := [.tmp 2]) tabOK Try.func112 rfl rfl rfl rfl ?_; simp only [startSt, List.length_cons, List.length_nil, Nat.reduceAdd, Nat.reduceSub, List.replicate_succ, List.replicate_zero, List.cons_append, List.nil_append])
  simp only [VCp, VC_region, VC_seq, VC_ret, aops_nil, aops_cons, put_some, qop, isQuiet, ASt.eval, AV.need, AV.ac, qbin, binStr, isScalar, avOf, acOf, eStr, List.getD_cons_succ, List.getD_cons_zero, List.set_cons_succ, List.set_cons_zero, true_and, and_self, Bool.not_true, beq_self_eq_true, tab_9]
  (refine RetAt.leaf ?_ ?_ <;> simp only [resOf, tupOf, ASt.eval, AV.strip, AV.need, AV.map, AC.ren, List.getD_cons_succ, List.getD_cons_zero, and_self, eq_self])
set_option maxHeartbeats 4000000 in
theorem cmp_spec (a b : ByteArray) : ACall Try.prog 109 [.c (.str a), .c (.str b)] [] (fun r os => r = .c (.int .i64 (if ltS a b then -1 else if a = b then 0 else 1)) ∧ os = []) := by
  (refine ACall.of_body (nt := 20) (rs := [.tmp 4]) tabOK Try.func109 rfl rfl rfl rfl ?_; simp only [startSt, List.length_cons, List.length_nil, Nat.reduceAdd, Nat.reduceSub, List.replicate_succ, List.replicate_zero, List.cons_append, List.nil_append])
  simp only [VCp, VC_region, VC_seq, aops_nil, aops_cons, put_some, aop, qop, isQuiet, ASt.eval, ASt.ev, AV.strip, AV.need, AV.isTup, ned, avOf, acOf, List.getD_cons_succ, List.getD_cons_zero, List.set_cons_succ, List.set_cons_zero, List.map_cons, List.map_nil, Int.reduceNeg, true_and, and_self, eq_self]
  refine CallAt.plain (isNaN_spec a) rfl ?_
  rintro r os ⟨rfl, rfl⟩
  simp only [VC_region, VC_seq, aops_nil, aops_cons, put_some, aop, qop, isQuiet, ASt.eval, ASt.ev, AV.strip, AV.need, AV.isTup, ned, AV.map, AC.ren, giveBack, afterCall, List.getD_cons_succ, List.getD_cons_zero, List.set_cons_succ, List.set_cons_zero, List.map_cons, List.map_nil, List.append_nil, List.length_nil, Int.reduceNeg, true_and, and_self, eq_self]
  refine CallAt.plain (isNaN_spec b) rfl ?_
  rintro r os ⟨rfl, rfl⟩
  simp only [VC_skip, VC_region, VC_seq, VC_cond, VC_ret, aops_nil, aops_cons, put_some, qop, isQuiet, ASt.eval, AV.need, AV.ac, qbin, binStr, AV.map, isScalar, avOf, acOf, AC.ren, giveBack, afterCall, eStr, List.getD_cons_succ, List.getD_cons_zero, List.set_cons_succ, List.set_cons_zero, List.map_nil, List.append_nil, List.length_nil, Int.reduceNeg, decide_eq_true_eq, decide_eq_false_iff_not, Bool.not_eq_true', Bool.or_eq_false_iff, true_and, and_self, forall_const, false_implies, Bool.false_eq_true, eq_self, tab_9, bytesLess_lt, beq_eq]
  refine ⟨fun h => ?_, fun h => ⟨fun h' => ?_, fun h' => ?_⟩⟩
  · (refine RetAt.leaf ?_ ?_ <;> simp only [resOf, tupOf, ASt.eval, AV.strip, AV.need, AV.map, AC.ren, List.getD_cons_succ, List.getD_cons_zero, Int.reduceNeg, AV.c.injEq, AC.int.injEq, true_and, and_true, and_self, eq_self])
    simp [h]
  · (refine RetAt.leaf ?_ ?_ <;> simp only [resOf, tupOf, ASt.eval, AV.strip, AV.need, AV.map, AC.ren, List.getD_cons_succ, List.getD_cons_zero, Int.reduceNeg, AV.c.injEq, AC.int.injEq, true_and, and_true, and_self, eq_self])
    simp [h, h'.2]
  · (refine RetAt.leaf ?_ ?_ <;> simp only [resOf, tupOf, ASt.eval, AV.strip, AV.need, AV.map, AC.ren, List.getD_cons_succ, List.getD_cons_zero, Int.reduceNeg, AV.c.injEq, AC.int.injEq, true_and, and_true, and_self, eq_self])
    simp at h'
    have := h' h
    subst this
    simp [ltS_irrefl]
set_option maxHeartbeats 4000000 in
theorem less_spec (a b : ByteArray) : ACall Try.prog 94 [.c (.str a), .c (.str b)] [] (fun r os => r = .c (.bool (decide (ltS a b))) ∧ os = []) := by
  (refine ACall.of_body (nt := 17) (rs := [.tmp 4]) tabOK Try.func94 rfl rfl rfl rfl ?_; simp only [startSt, List.length_cons, List.length_nil, Nat.reduceAdd, Nat.reduceSub, List.replicate_succ, List.replicate_zero, List.cons_append, List.nil_append])
  simp only [VCp, VC_region, VC_seq, aops_nil, aops_cons, put_some, aop, qop, isQuiet, ASt.eval, ASt.ev, AV.strip, AV.need, AV.isTup, ned, avOf, acOf, List.getD_cons_succ, List.getD_cons_zero, List.set_cons_succ, List.set_cons_zero, List.map_cons, List.map_nil, true_and, and_self, eq_self]
  refine CallAt.plain (isNaN_spec a) rfl ?_
  rintro r os ⟨rfl, rfl⟩
  simp only [VC_ret, aops_nil, aops_cons, put_some, aop, qop, isQuiet, ASt.eval, ASt.ev, AV.strip, AV.need, AV.ac, AV.isTup, onG, guardOf, qbin, binStr, qpick, qpick0, qun, ned, AV.map, isScalar, avOf, acOf, AC.ren, giveBack, afterCall, eStr, List.getD_cons_succ, List.getD_cons_zero, List.set_cons_succ, List.set_cons_zero, List.map_cons, List.map_nil, List.append_nil, List.length_nil, List.getElem?_cons_succ, List.getElem?_cons_zero, Option.bind_some, implies_true, imp_self, beq_true, true_and, and_true, and_self, forall_const, Bool.and_true, Bool.and_false, Bool.false_eq_true, Bool.not_false, cond_false, beq_self_eq_true, eq_self, and_false, false_and, tab_9, bytesLess_lt]
  (refine RetAt.leaf ?_ ?_ <;> simp only [resOf, tupOf, ASt.eval, AV.strip, AV.need, AV.map, AC.ren, List.getD_cons_succ, List.getD_cons_zero, and_self, eq_self])
def hashStep (h x : Int) : Int :=
  bits .xor .u64 (IntKind.u64.wrap (bits .xor .u64 h (IntKind.u64.wrap x) * 1099511628211)) (shr .u64 (IntKind.u64.wrap (bits .xor .u64 h (IntKind.u64.wrap x) * 1099511628211)) 29)
def hashF (xs : List Int) : Int := xs.foldl hashStep 11400714819323198485
set_option maxHeartbeats 4000000 in
theorem hash_spec (xs : List Int) (hl : xs.length < 9223372036854775807) : ACall Try.prog 95 [.c (.rd 1 Int 0 encU8 xs)] [] (fun r os => r = .c (.int .u64 (hashF xs)) ∧ os = []) := by
  (refine ACall.of_body (nt := 23) (rs := [.tmp 2]) tabOK Try.func95 rfl rfl rfl rfl ?_; simp only [startSt, List.length_cons, List.length_nil, Nat.reduceAdd, Nat.reduceSub, List.replicate_succ, List.replicate_zero, List.cons_append, List.nil_append])
  unfold encU8
  simp only [VCp, VC_region, VC_seq, VC_block, VC_loop, aops_nil, aops_cons, put_some, qop, isQuiet, ASt.eval, AV.need, AV.ac, qlen, avOf, acOf, eInt, eList, List.getD_cons_succ, List.getD_cons_zero, List.set_cons_succ, List.set_cons_zero, true_and, and_self, tab_29]
  refine LoopAt.inv (ι := Nat) (T := tab) (fun i => [(8, .c (.int .i64 i)), (3, .c (.int .u64 (hashF (xs.take i))))]) (fun i => []) (fun i => i ≤ xs.length) (fun i => xs.length - i) tabOK 0 (Nat.zero_le _) ?_ ?_
  · (simp only [LessC, headSt, dsts, opDsts, resetS, putsS, lessS, lessO, belowS, belowO, AV.below, AC.below, List.set_cons_succ, List.set_cons_zero, List.cons_append, List.nil_append, List.append_nil, List.length_nil, List.take_zero, Int.cast_ofNat_Int, AV.c.injEq, AC.int.injEq, true_and, and_true, and_self, reduceCtorEq, Bool.and_true, Nat.le_refl, eq_self, or_true, false_or] <;> try omega)
    rfl
  intro i hi
  simp only [VCp, headSt, dsts, opDsts, resetS, putsS, VC_skip, VC_region, VC_seq, VC_cond, VC_block, VC_exit, VC_ret, aops_nil, aops_cons, put_some, qop, isQuiet, ASt.eval, AV.need, AV.ac, qbin, binInt, qindexAddr, qload, qconvert, DV.ac, ofCells, TI.isAgg, isScalar, avOf, acOf, eInt, eList, List.getD_cons_succ, List.getD_cons_zero, List.set_cons_succ, List.set_cons_zero, List.map_cons, List.map_nil, List.cons_append, List.nil_append, List.append_nil, List.length_cons, List.length_nil, List.take_succ_cons, List.take_nil, List.headD_cons, Int.reduceLE, Int.toNat_natCast, decide_eq_true_eq, decide_eq_false_iff_not, Int.not_lt, true_and, and_self, not_false_eq_true, Bool.and_true, if_true, Nat.zero_add, Nat.le_refl, eq_self, Nat.succ_ne_self, tab_3, tab_5, tab_29, tab_96]
  refine ⟨fun h => ?_, fun h => ?_⟩
  · have hs : hashF (xs.take (i + 1)) = hashStep (hashF (xs.take i)) (xs.getD i 0) := by
      rw [take_next xs i 0 (by omega)]
      unfold hashF
      rw [List.foldl_append]
      rfl
    refine ⟨⟨by omega, by omega⟩, i + 1, by omega, by omega, ?_⟩
    rw [hs]
    unfold hashStep
    (simp only [LessC, lessS, lessO, belowS, belowO, AV.below, AC.below, List.length_nil, Int.cast_ofNat_Int, Int.natCast_add, AV.c.injEq, AC.int.injEq, true_and, and_true, and_self, reduceCtorEq, Bool.and_true, Nat.le_refl, eq_self, or_true, or_false, false_or] <;> try omega)
    all_goals exact i64_in _ (by omega)
  · have : i = xs.length := by omega
    subst this
    (refine RetAt.leaf ?_ ?_ <;> simp only [resOf, tupOf, ASt.eval, AV.strip, AV.need, AV.map, AC.ren, List.getD_cons_succ, List.getD_cons_zero, AV.c.injEq, AC.int.injEq, true_and, and_true, and_self, eq_self])
    rw [List.take_length]
/-- places where two lists are alike -/
def alikeF (xs ys : List Int) : Nat → Int
  | 0 => 0
  | i + 1 => alikeF xs ys i + if xs.getD i 0 = ys.getD i 0 then 1 else 0
theorem alikeF_bounds (xs ys : List Int) : ∀ i : Nat, 0 ≤ alikeF xs ys i ∧ alikeF xs ys i ≤ i
  | 0 => by simp [alikeF]
  | i + 1 => by
    have := alikeF_bounds xs ys i
    unfold alikeF
    split <;> omega
abbrev rU (xs : List Int) : AC := .rd 1 Int 0 (fun n => [.int .u64 n]) xs
set_option maxHeartbeats 4000000 in
theorem alike_spec (xs ys : List Int) (h1 : xs.length < 9223372036854775807) (h2 : ys.length < 9223372036854775807) : ACall Try.prog 63 [.c (rU xs), .c (rU ys)] [] (fun r os => r = .c (.int .i64 (alikeF xs ys (min xs.length ys.length))) ∧ os = []) := by
  (refine ACall.of_body (nt := 28) (rs := [.tmp 4]) tabOK Try.func63 rfl rfl rfl rfl ?_; simp only [startSt, List.length_cons, List.length_nil, Nat.reduceAdd, Nat.reduceSub, List.replicate_succ, List.replicate_zero, List.cons_append, List.nil_append])
  simp only [VCp, VC_region, VC_seq, VC_block, VC_loop, aops_nil, aops_cons, put_some, qop, isQuiet, ASt.eval, AV.need, AV.ac, qmin, qlen, avOf, acOf, eInt, eList, List.getD_cons_succ, List.getD_cons_zero, List.set_cons_succ, List.set_cons_zero, true_and, and_self, eq_self, tab_91]
  have hmin : (if (ys.length : Int) < (xs.length : Int) then (ys.length : Int) else (xs.length : Int)) = ((min xs.length ys.length : Nat) : Int) := by split <;> omega
  have hm1 : min xs.length ys.length ≤ xs.length := by omega
  have hm2 : min xs.length ys.length ≤ ys.length := by omega
  generalize min xs.length ys.length = m at *
  refine LoopAt.inv (ι := Nat) (T := tab) (fun i => [(12, .c (.int .i64 i)), (5, .c (.int .i64 (alikeF xs ys i)))]) (fun i => []) (fun i => i ≤ m) (fun i => m - i) tabOK 0 (Nat.zero_le _) ?_ ?_
  · (simp only [LessC, headSt, dsts, opDsts, resetS, putsS, lessS, lessO, belowS, belowO, AV.below, AC.below, List.set_cons_succ, List.set_cons_zero, List.cons_append, List.nil_append, List.append_nil, List.length_nil, Int.cast_ofNat_Int, AV.c.injEq, AC.int.injEq, true_and, and_true, and_self, reduceCtorEq, Bool.and_true, Nat.le_refl, eq_self, or_true, false_or] <;> try omega)
    rfl
  intro i hi
  have hb := alikeF_bounds xs ys i
  simp only [VCp, headSt, dsts, opDsts, resetS, putsS, VC_skip, VC_region, VC_draw, VC_seq, VC_cond, VC_block, VC_exit, VC_ret, aops_nil, aops_cons, put_some, qop, isQuiet, ASt.eval, AV.need, AV.ac, qbin, binInt, isScalar, eInt, List.getD_cons_succ, List.getD_cons_zero, List.set_cons_succ, List.set_cons_zero, List.cons_append, List.nil_append, List.append_nil, decide_eq_true_eq, decide_eq_false_iff_not, Int.not_lt, true_and, and_self, if_true, eq_self, tab_3]
  refine ⟨fun h => ?_, fun h => ?_⟩
  · have hi' : i < m := by omega
    refine DrawAt.plan tabOK mixed (.take 0 true (.take 1 true (.take 2 true (.take 3 true (.take 4 true (.take 5 true (.take 6 true (.take 7 true (.take 8 true .done))))))))) (by decide +kernel) ?_
    simp only [avc_done, avc_take, qstep, ownLoad, VC_skip, VC_region, VC_cond, aops_nil, aops_cons, put_some, qop, isQuiet, ASt.eval, AV.need, AV.ac, qbin, binInt, qindexAddr, qload, DV.ac, ofCells, TI.isAgg, isScalar, avOf, acOf, eInt, eList, List.getD_cons_succ, List.getD_cons_zero, List.set_cons_succ, List.set_cons_zero, List.map_cons, List.map_nil, List.length_cons, List.length_nil, List.take_succ_cons, List.take_nil, List.headD_cons, List.getElem?_cons_succ, List.getElem?_cons_zero, Int.toNat_natCast, decide_eq_true_eq, decide_eq_false_iff_not, true_and, and_self, not_false_eq_true, Nat.zero_add, Nat.le_refl, eq_self, Nat.succ_ne_self, or_true, tab_3, tab_91, tab_96]
    refine ⟨⟨by omega, by omega⟩, ⟨by omega, by omega⟩, fun e => ⟨i + 1, by omega, by omega, ?_⟩, fun e => ⟨i + 1, by omega, by omega, ?_⟩⟩
    · have hs : alikeF xs ys (i + 1) = alikeF xs ys i + 1 := by show _ + (if _ then _ else _) = _; rw [if_pos e]
      rw [hs]
      (simp only [LessC, lessS, lessO, belowS, belowO, AV.below, AC.below, List.length_nil, Int.cast_ofNat_Int, Int.natCast_add, AV.c.injEq, AC.int.injEq, true_and, and_true, and_self, reduceCtorEq, Bool.and_true, Nat.le_refl, eq_self, or_true, or_false, false_or] <;> try omega)
      exact ⟨i64_in _ (by omega), i64_in _ (by omega)⟩
    · have hs : alikeF xs ys (i + 1) = alikeF xs ys i := by show _ + (if _ then _ else _) = _; rw [if_neg (by simpa using e)]; omega
      rw [hs]
      (simp only [LessC, lessS, lessO, belowS, belowO, AV.below, AC.below, List.length_nil, Int.cast_ofNat_Int, Int.natCast_add, AV.c.injEq, AC.int.injEq, true_and, and_true, and_self, reduceCtorEq, Bool.and_true, Nat.le_refl, eq_self, or_true, or_false, false_or] <;> try omega)
      all_goals exact i64_in _ (by omega)
  · have : i = m := by omega
    subst this
    (refine RetAt.leaf ?_ ?_ <;> simp only [resOf, tupOf, ASt.eval, AV.strip, AV.need, AV.map, AC.ren, List.getD_cons_succ, List.getD_cons_zero, and_self, eq_self])
set_option maxHeartbeats 4000000 in
theorem equalU_spec (xs ys : List Int) (hl : xs.length < 9223372036854775807) : ACall Try.prog 60 [.c (rU xs), .c (rU ys)] [] (fun r os => r = .c (.bool (decide (xs = ys))) ∧ os = []) := by
  (refine ACall.of_body (nt := 26) (rs := [.tmp 4]) tabOK Try.func60 rfl rfl rfl rfl ?_; simp only [startSt, List.length_cons, List.length_nil, Nat.reduceAdd, Nat.reduceSub, List.replicate_succ, List.replicate_zero, List.cons_append, List.nil_append])
  simp only [VCp, VC_skip, VC_region, VC_seq, VC_cond, VC_block, VC_loop, VC_ret, aops_nil, aops_cons, put_some, qop, isQuiet, ASt.eval, AV.need, AV.ac, qbin, binInt, qlen, isScalar, avOf, acOf, eInt, eList, List.getD_cons_succ, List.getD_cons_zero, List.set_cons_succ, List.set_cons_zero, decide_eq_false_iff_not, Bool.not_eq_true', true_and, and_self, eq_self, tab_3, tab_91]
  refine ⟨fun h => ?_, fun h => ?_⟩
  · (refine RetAt.leaf ?_ ?_ <;> simp only [resOf, tupOf, ASt.eval, AV.strip, AV.need, AV.map, AC.ren, List.getD_cons_succ, List.getD_cons_zero, AV.c.injEq, AC.bool.injEq, and_true, and_self, eq_self])
    have : ¬ xs = ys := fun e => by subst e; exact h rfl
    simp [this]
  have hlen : xs.length = ys.length := by have := nd h; omega
  refine LoopAt.inv (ι := Nat) (T := tab) (fun i => [(13, .c (.int .i64 i))]) (fun i => []) (fun i => i ≤ xs.length ∧ xs.take i = ys.take i) (fun i => xs.length - i) tabOK 0 ⟨Nat.zero_le _, rfl⟩ ?_ ?_
  · (simp only [LessC, headSt, dsts, opDsts, resetS, putsS, lessS, lessO, belowS, belowO, AV.below, AC.below, List.set_cons_succ, List.set_cons_zero, List.cons_append, List.nil_append, List.append_nil, List.length_nil, Int.cast_ofNat_Int, AV.c.injEq, and_self, reduceCtorEq, Bool.and_true, Nat.le_refl, eq_self, or_true, or_false] <;> try omega)
  · rintro i ⟨hi, he⟩
    simp only [VCp, headSt, dsts, opDsts, resetS, putsS, VC_skip, VC_region, VC_draw, VC_seq, VC_cond, VC_block, VC_exit, VC_ret, aops_nil, aops_cons, put_some, qop, isQuiet, ASt.eval, AV.need, AV.ac, qbin, binInt, isScalar, avOf, acOf, eInt, List.getD_cons_succ, List.getD_cons_zero, List.set_cons_succ, List.set_cons_zero, List.cons_append, List.nil_append, List.append_nil, decide_eq_true_eq, decide_eq_false_iff_not, Int.not_lt, true_and, and_self, if_true, eq_self, tab_3]
    refine ⟨fun h => ?_, fun h => ?_⟩
    · have hi' : i < xs.length := by omega
      refine DrawAt.plan tabOK mixed (.take 0 true (.take 1 true (.take 2 true (.take 3 true (.take 4 true (.take 5 true (.take 6 true (.take 7 true (.take 8 true .done))))))))) (by decide +kernel) ?_
      simp only [avc_done, avc_take, qstep, ownLoad, VC_skip, VC_region, VC_seq, VC_cond, VC_ret, aops_nil, aops_cons, put_some, qop, isQuiet, ASt.eval, AV.need, AV.ac, qbin, binInt, qindexAddr, qload, DV.ac, ofCells, TI.isAgg, isScalar, avOf, acOf, eInt, eList, List.getD_cons_succ, List.getD_cons_zero, List.set_cons_succ, List.set_cons_zero, List.map_cons, List.map_nil, List.length_cons, List.length_nil, List.take_succ_cons, List.take_nil, List.headD_cons, List.getElem?_cons_succ, List.getElem?_cons_zero, Int.toNat_natCast, decide_eq_false_iff_not, Bool.not_eq_true', true_and, and_self, not_false_eq_true, Nat.zero_add, Nat.le_refl, eq_self, Nat.succ_ne_self, or_true, tab_3, tab_91, tab_96]
      refine ⟨⟨by omega, by omega⟩, ⟨by omega, by omega⟩, fun hd => ?_, fun hd => ⟨i + 1, ⟨by omega, ?_⟩, by omega, ?_⟩⟩
      · (refine RetAt.leaf ?_ ?_ <;> simp only [resOf, tupOf, ASt.eval, AV.strip, AV.need, AV.map, AC.ren, List.getD_cons_succ, List.getD_cons_zero, AV.c.injEq, AC.bool.injEq, and_true, and_self, eq_self])
        have : ¬ xs = ys := fun e => by subst e; exact hd rfl
        simp [this]
      · have hd' : xs.getD i 0 = ys.getD i 0 := nd hd
        rw [take_next xs i 0 hi', take_next ys i 0 (by omega), he, hd']
      · (simp only [LessC, lessS, lessO, belowS, belowO, AV.below, AC.below, List.length_nil, Int.cast_ofNat_Int, Int.natCast_add, AV.c.injEq, AC.int.injEq, true_and, and_true, and_self, reduceCtorEq, Bool.and_true, Nat.le_refl, eq_self, or_true, or_false, false_or] <;> try omega)
        exact i64_in _ (by omega)
    · have : i = xs.length := by omega
      subst this
      rw [List.take_length, hlen, List.take_length] at he
      (refine RetAt.leaf ?_ ?_ <;> simp only [resOf, tupOf, ASt.eval, AV.strip, AV.need, AV.map, AC.ren, List.getD_cons_succ, List.getD_cons_zero, AV.c.injEq, AC.bool.injEq, and_true, and_self, eq_self])
      simp [he]
abbrev rS (xs : List ByteArray) : AC := .rd 1 ByteArray ⟨#[]⟩ (fun s => [.str s]) xs
set_option maxHeartbeats 4000000 in
theorem isSorted_spec (xs : List ByteArray) (h1 : xs.length < 9223372036854775807) (hs : ∀ i, i + 1 < xs.length → ¬ ltS (xs.getD (i + 1) ⟨#[]⟩) (xs.getD i ⟨#[]⟩)) : ACall Try.prog 59 [.c (rS xs)] [] (fun r os => r = .c (.bool true) ∧ os = []) := by
  (refine ACall.of_body (nt := 21) (rs := [.tmp 2]) tabOK Try.func59 rfl rfl rfl rfl ?_; simp only [startSt, List.length_cons, List.length_nil, Nat.reduceAdd, Nat.reduceSub, List.replicate_succ, List.replicate_zero, List.cons_append, List.nil_append])
  simp only [VCp, VC_region, VC_seq, VC_block, VC_loop, aops_nil, aops_cons, put_some, qop, isQuiet, ASt.eval, AV.need, AV.ac, qbin, binInt, qlen, isScalar, avOf, acOf, eInt, eStr, eList, List.getD_cons_succ, List.getD_cons_zero, List.set_cons_succ, List.set_cons_zero, true_and, and_self, eq_self, tab_3, tab_94]
  refine LoopAt.inv (ι := Int) (T := tab) (fun i => [(3, .c (.int .i64 i))]) (fun i => []) (fun i => -1 ≤ i ∧ i < xs.length) (fun i => i.toNat) tabOK ((xs.length : Int) - 1) ⟨by omega, by omega⟩ ?_ ?_
  · (simp only [LessC, headSt, dsts, opDsts, resetS, putsS, lessS, lessO, belowS, belowO, AV.below, AC.below, List.set_cons_succ, List.set_cons_zero, List.cons_append, List.nil_append, List.append_nil, List.length_nil, AV.c.injEq, AC.int.injEq, true_and, and_true, and_self, reduceCtorEq, Bool.and_true, Nat.le_refl, eq_self, or_true, or_false, false_or] <;> try omega)
    all_goals exact i64_in _ (by omega)
  rintro i ⟨hi1, hi2⟩
  have w1 : IntKind.i64.wrap (i - 1) = i - 1 := i64_in _ (by omega)
  simp only [VCp, headSt, dsts, opDsts, resetS, putsS, VC_skip, VC_region, VC_draw, VC_seq, VC_cond, VC_block, VC_exit, VC_ret, aops_nil, aops_cons, put_some, qop, isQuiet, ASt.eval, AV.need, AV.ac, qbin, binInt, isScalar, avOf, acOf, eInt, List.getD_cons_succ, List.getD_cons_zero, List.set_cons_succ, List.set_cons_zero, List.cons_append, List.nil_append, List.append_nil, Int.reduceNeg, decide_eq_true_eq, decide_eq_false_iff_not, Int.not_lt, true_and, and_self, if_true, eq_self, tab_3]
  refine ⟨fun h => ?_, fun h => ?_⟩
  · refine DrawAt.plan tabOK mixed (.take 0 false (.take 1 false (.take 2 false (.take 3 true (.take 4 false (.take 5 false (.take 6 false (.take 7 false (.take 8 true (.alt 9 .done .stop)))))))))) (by decide +kernel) ?_
    simp only [avc_stop, avc_take, avc_alt, qstep, lstep, ownLoad, put_n0, put_some, aop, qop, isQuiet, ASt.eval, ASt.ev, AV.strip, AV.need, AV.ac, AV.isTup, qbin, binInt, qindexAddr, qload, ned, DV.ac, ofCells, TI.isAgg, isScalar, avOf, acOf, eInt, eStr, eList, List.getD_cons_succ, List.getD_cons_zero, List.set_cons_succ, List.set_cons_zero, List.map_cons, List.map_nil, List.length_cons, List.length_nil, List.take_succ_cons, List.take_nil, List.headD_cons, List.getElem?_cons_succ, List.getElem?_cons_zero, Int.reduceNeg, true_and, and_true, and_self, not_false_eq_true, Bool.false_eq_true, Nat.zero_add, Nat.le_refl, eq_self, Nat.succ_ne_self, or_true, tab_3, tab_9, tab_94, w1]
    refine ⟨⟨by omega, by omega⟩, ⟨by omega, by omega⟩, ?_⟩
    refine CallAt.plain (less_spec (xs.getD i.toNat ⟨#[]⟩) (xs.getD (i - 1).toNat ⟨#[]⟩)) rfl ?_
    rintro r os ⟨rfl, rfl⟩
    have hlt := hs (i - 1).toNat (by omega)
    rw [show (i - 1).toNat + 1 = i.toNat by omega] at hlt
    have z1 : ltS (xs.getD i.toNat ⟨#[]⟩) (xs.getD (i - 1).toNat ⟨#[]⟩) = False := eq_false hlt
    simp only [avc_done, VC_skip, VC_region, VC_seq, VC_cond, VC_ret, aops_nil, aops_cons, put_some, qop, isQuiet, ASt.eval, AV.need, AV.ac, qbin, binInt, AV.map, isScalar, avOf, acOf, AC.ren, giveBack, afterCall, eInt, List.getD_cons_succ, List.getD_cons_zero, List.set_cons_succ, List.set_cons_zero, List.map_nil, List.append_nil, List.length_nil, Int.reduceNeg, true_and, and_self, forall_const, false_implies, Bool.false_eq_true, eq_self, decide_false, tab_3, w1, z1]
    refine ⟨i - 1, ⟨by omega, by omega⟩, by omega, ?_⟩
    (simp only [LessC, lessS, lessO, belowS, belowO, AV.below, AC.below, List.length_nil, AV.c.injEq, and_self, reduceCtorEq, Bool.and_true, Nat.le_refl, eq_self, or_true, or_false] <;> try omega)
  · (refine RetAt.leaf ?_ ?_ <;> simp only [resOf, tupOf, ASt.eval, AV.strip, AV.need, AV.map, AC.ren, List.getD_cons_succ, List.getD_cons_zero, and_self, eq_self])
end Go.Vc.Ne
