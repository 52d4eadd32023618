/- Automata: checks, acceptance, where fragments stand. -/
import Derived.Test.YtmikejeohdleeaaGB
set_option linter.unusedVariables false
set_option linter.unusedSimpArgs false
namespace Go.Vc
open Go.Proofs Go.IntWalk
set_option maxRecDepth 100000
theorem index_none {xs : List Int} {x : Int} {i : Nat} (h : x ∉ xs.take i) (hi : i < xs.length) (hx : ¬ x = xs.getD i 0) : x ∉ xs.take (i + 1) := by
  rw [take_next xs i 0 hi]
  simp only [List.mem_append, List.mem_singleton, not_or]
  exact ⟨h, hx⟩
set_option maxHeartbeats 4000000 in
theorem index_spec (xs : List Int) (x : Int) (hl : xs.length < 9223372036854775807) :
    ACall Try.prog 97 [.c (.rd 1 Int 0 (fun n => [.int .i64 n]) xs), .c (.int .i64 x)] [] (fun r os => (∃ k : Int, r = .c (.int .i64 k) ∧ (0 ≤ k ↔ x ∈ xs)) ∧ os = []) := by
  (refine ACall.of_body (nt := 19) (rs := [.tmp 4]) tabOK Try.func97 rfl rfl rfl rfl ?_; simp only [startSt, List.length_cons, List.length_nil, Nat.reduceAdd, Nat.reduceSub, List.replicate_succ, List.replicate_zero, List.cons_append, List.nil_append])
  simp only [VCp, VC_region, VC_seq, VC_block, VC_loop, aops_nil, aops_cons, put_some, qop, isQuiet, ASt.eval, AV.need, AV.ac, qlen, avOf, acOf, eInt, eList, List.getD_cons_succ, List.getD_cons_zero, List.set_cons_succ, List.set_cons_zero, Int.reduceNeg, true_and, and_self, tab_26]
  refine LoopAt.inv (ι := Nat) (T := tab) (fun i => [(8, .c (.int .i64 i))]) (fun i => [])
    (fun i => i ≤ xs.length ∧ x ∉ xs.take i) (fun i => xs.length - i) tabOK 0 ⟨Nat.zero_le _, by simp⟩ ?_ ?_
  · (simp only [LessC, headSt, dsts, opDsts, resetS, putsS, lessS, lessO, belowS, belowO, AV.below, AC.below, List.set_cons_succ, List.set_cons_zero, List.cons_append, List.nil_append, List.append_nil, List.length_nil, Int.cast_ofNat_Int, AV.c.injEq, and_self, reduceCtorEq, Bool.and_true, Nat.le_refl, eq_self, or_true, or_false] <;> try omega)
  rintro i ⟨hi, hn⟩
  simp only [VCp, headSt, dsts, opDsts, resetS, putsS, VC_skip, VC_region, VC_seq, VC_cond, VC_block, VC_exit, VC_ret, aops_nil, aops_cons, put_some, qop, isQuiet, ASt.eval, AV.need, AV.ac, qbin, binInt, qindexAddr, qload, DV.ac, ofCells, TI.isAgg, isScalar, avOf, acOf, eInt, eList, List.getD_cons_succ, List.getD_cons_zero, List.set_cons_succ, List.set_cons_zero, List.map_cons, List.map_nil, List.cons_append, List.nil_append, List.append_nil, List.length_cons, List.length_nil, List.take_succ_cons, List.take_nil, List.headD_cons, Int.reduceNeg, Int.toNat_natCast, decide_eq_true_eq, decide_eq_false_iff_not, Int.not_lt, true_and, and_self, not_false_eq_true, if_true, Nat.zero_add, Nat.le_refl, eq_self, Nat.succ_ne_self, tab_3, tab_26]
  refine ⟨fun h => ?_, fun h => ?_⟩
  · have hi' : i < xs.length := by omega
    refine ⟨⟨by omega, by omega⟩, fun hc => ?_, fun hc => ⟨i + 1, ⟨by omega, index_none hn hi' hc⟩, by omega, ?_⟩⟩
    · (refine RetAt.leaf ?_ ?_ <;> simp only [resOf, tupOf, ASt.eval, AV.strip, AV.need, AV.map, AC.ren, List.getD_cons_succ, List.getD_cons_zero, AV.c.injEq, AC.int.injEq, exists_eq_left', true_and, and_true, and_self, eq_self])
      refine ⟨fun _ => ?_, fun _ => by omega⟩
      rw [hc]
      simp [List.getD, hi']
    · (simp only [LessC, lessS, lessO, belowS, belowO, AV.below, AC.below, List.length_nil, Int.cast_ofNat_Int, Int.natCast_add, AV.c.injEq, AC.int.injEq, true_and, and_true, and_self, reduceCtorEq, Bool.and_true, Nat.le_refl, eq_self, or_true, or_false, false_or] <;> try omega)
      exact i64_in _ (by omega)
  · have : i = xs.length := by omega
    subst this
    rw [List.take_length] at hn
    (refine RetAt.leaf ?_ ?_ <;> simp only [resOf, tupOf, ASt.eval, AV.strip, AV.need, AV.map, AC.ren, List.getD_cons_succ, List.getD_cons_zero, Int.reduceLE, Int.reduceNeg, AV.c.injEq, AC.int.injEq, exists_eq_left', true_and, and_true, and_self, eq_self])
    exact ⟨fun h => h.elim, fun h => absurd h hn⟩
theorem contains_spec (xs : List Int) (x : Int) (hl : xs.length < 9223372036854775807) :
    ACall Try.prog 70 [.c (.rd 1 Int 0 (fun n => [.int .i64 n]) xs), .c (.int .i64 x)] [] (fun r os => r = .c (.bool (decide (x ∈ xs))) ∧ os = []) := by
  (refine ACall.of_body (nt := 9) (rs := [.tmp 4]) tabOK Try.func70 rfl rfl rfl rfl ?_; simp only [startSt, List.length_cons, List.length_nil, Nat.reduceAdd, Nat.reduceSub, List.replicate_succ, List.replicate_zero, List.cons_append, List.nil_append])
  simp only [VCp, VC_region, VC_seq, aops_nil, aops_cons, put_some, aop, qop, isQuiet, ASt.eval, ASt.ev, AV.strip, AV.need, AV.isTup, ned, avOf, acOf, List.getD_cons_succ, List.getD_cons_zero, List.set_cons_succ, List.set_cons_zero, List.map_cons, List.map_nil, true_and, and_self, eq_self]
  refine CallAt.plain (index_spec xs x hl) rfl ?_
  rintro r os ⟨⟨k, rfl, hk⟩, rfl⟩
  simp only [VC_ret, aops_nil, aops_cons, put_some, qop, isQuiet, ASt.eval, AV.need, AV.ac, qbin, binInt, AV.map, isScalar, avOf, acOf, AC.ren, giveBack, afterCall, eInt, List.getD_cons_succ, List.getD_cons_zero, List.set_cons_succ, List.set_cons_zero, List.map_nil, List.append_nil, List.length_nil, true_and, and_self, eq_self, tab_3]
  (refine RetAt.leaf ?_ ?_ <;> simp only [resOf, tupOf, ASt.eval, AV.strip, AV.need, AV.map, AC.ren, List.getD_cons_succ, List.getD_cons_zero, AV.c.injEq, AC.bool.injEq, and_true, and_self, eq_self])
  simp [hk]

/-! ### Check -/
def badMv (n : Int) (p : Mv) : Prop := p.1 < 0 ∨ n ≤ p.1 ∨ p.2.1 < 0 ∨ n ≤ p.2.1 ∨ p.2.2.2 < p.2.2.1
instance (n : Int) (p : Mv) : Decidable (badMv n p) := by unfold badMv; infer_instance
def endsChk (n : Int) : List Int → List Int → Int
  | _, [] => 0
  | seen, e :: es => if e < 0 ∨ n ≤ e then 4 else if e ∈ seen then 7 else endsChk n (seen ++ [e]) es
def chk (n : Int) (ms : List Mv) (es : List Int) : Int :=
  if n < 1 ∨ 32 < n ∨ 200 < ms.length then 2 else if ∃ p ∈ ms, badMv n p then 4 else endsChk n [] es
theorem endsChk_step {n : Int} {es : List Int} {i : Nat} (hi : i < es.length) : endsChk n (es.take i) (es.drop i) = if es.getD i 0 < 0 ∨ n ≤ es.getD i 0 then 4 else if es.getD i 0 ∈ es.take i then 7 else endsChk n (es.take (i + 1)) (es.drop (i + 1)) := by
  have e : es.drop i = es.getD i 0 :: es.drop (i + 1) := by
    rw [List.drop_eq_getElem_cons hi]
    simp [List.getD, hi]
  rw [e, take_next es i 0 hi]
  rfl
theorem chk_ok {n : Int} {ms : List Mv} {es : List Int} (h : chk n ms es = 0) : 1 ≤ n ∧ n ≤ 32 ∧ ms.length ≤ 200 ∧ (∀ p ∈ ms, 0 ≤ p.1 ∧ p.1 < n ∧ 0 ≤ p.2.1 ∧ p.2.1 < n) ∧ (∀ e ∈ es, 0 ≤ e ∧ e < n) ∧ es.Nodup := by
  unfold chk at h
  split at h
  · omega
  · rename_i h1
    split at h
    · omega
    · rename_i h2
      refine ⟨by omega, by omega, by omega, fun p hp => ?_, ?_⟩
      · have : ¬ badMv n p := fun hb => h2 ⟨p, hp, hb⟩
        unfold badMv at this
        omega
      · have gen : ∀ (es seen : List Int), seen.Nodup → endsChk n seen es = 0 → (∀ e ∈ es, 0 ≤ e ∧ e < n) ∧ (seen ++ es).Nodup := by
          intro es
          induction es with
          | nil => intro seen hs _; exact ⟨fun e he => (by cases he), by simpa using hs⟩
          | cons e es ih =>
            intro seen hs hc
            unfold endsChk at hc
            split at hc
            · omega
            · split at hc
              · omega
              · rename_i h3 h4
                have hs' : (seen ++ [e]).Nodup := by
                  rw [List.nodup_append]
                  exact ⟨hs, by simp, fun a ha b hb => by simp at hb; subst hb; exact fun hab => h4 (hab ▸ ha)⟩
                obtain ⟨g1, g2⟩ := ih (seen ++ [e]) hs' hc
                refine ⟨fun x hx => ?_, by simpa using g2⟩
                rcases List.mem_cons.1 hx with rfl | hx
                · omega
                · exact g1 x hx
        have := gen es [] .nil h
        exact ⟨this.1, by simpa using this.2⟩
theorem nodup_lt : ∀ (n : Nat) (l : List Nat), l.Nodup → (∀ x ∈ l, x < n) → l.length ≤ n
  | 0, l, _, h => by
    cases l with
    | nil => simp
    | cons a l => have := h a (by simp); omega
  | n + 1, l, hd, h => by
    have h1 := nodup_lt n (l.erase n) (hd.erase n) fun x hx => by
      have h2 := h x (List.mem_of_mem_erase hx)
      have h3 : x ≠ n := fun e => by subst e; exact (List.Nodup.not_mem_erase hd) hx
      omega
    rw [List.length_erase] at h1
    split at h1 <;> omega
theorem nodup_len {n : Int} {es : List Int} (h : ∀ e ∈ es, 0 ≤ e ∧ e < n) (hd : es.Nodup) (hn : n ≤ 32) (h1 : 1 ≤ n) : es.length ≤ 32 := by
  have h2 : (es.map Int.toNat).Nodup := by
    unfold List.Nodup
    rw [List.pairwise_map]
    refine List.Pairwise.imp_of_mem ?_ hd
    intro a b ha hb hab
    have := h a ha
    have := h b hb
    omega
  have := nodup_lt 32 (es.map Int.toNat) h2 fun x hx => by
    obtain ⟨e, he, rfl⟩ := List.mem_map.1 hx
    have := h e he
    omega
  simpa using this
theorem chk_mok {n : Int} {ms : List Mv} {es : List Int} (h : chk n ms es = 0) : MOK ms ∧ EOK es ∧ ms.length ≤ 200 ∧ es.length ≤ 32 := by
  obtain ⟨h1, h2, h3, h4, h5, h6⟩ := chk_ok h
  exact ⟨fun p hp => by have := h4 p hp; omega, fun e he => by have := h5 e he; omega, h3, nodup_len h5 h6 h2 h1⟩
set_option maxHeartbeats 8000000 in
theorem check_spec (n : Int) (ms : List Mv) (es : List Int) (h1 : ms.length < 9223372036854775807) (h2 : es.length < 9223372036854775807) :
    ACall Try.prog 21 [mach n ms es] [] (fun r os => r = .c (.int .i64 (chk n ms es)) ∧ os = []) := by
  (refine ACall.of_body (nt := 81) (rs := [.tmp 2]) tabOK Try.func21 rfl rfl rfl rfl ?_; simp only [startSt, List.length_cons, List.length_nil, Nat.reduceAdd, Nat.reduceSub, List.replicate_succ, List.replicate_zero, List.cons_append, List.nil_append])
  simp only [VCp, VC_skip, VC_region, VC_seq, VC_cond, VC_block, VC_loop, VC_ret, aops_nil, aops_cons, put_some, aop, qop, isQuiet, ASt.eval, AV.need, AV.ac, AV.cells, AV.isTup, onG, guardOf, qbin, binInt, qpick, qpick0, qlen, qfieldAddr, qload, ned, AC.fits, newObj, ASt.obj, ofCells, TI.isAgg, isScalar, avOf, acOf, eInt, eList, ePair, List.getD_cons_succ, List.getD_cons_zero, List.set_cons_succ, List.set_cons_zero, List.cons_append, List.nil_append, List.length_cons, List.length_nil, List.drop_succ_cons, List.drop_zero, List.take_succ_cons, List.take_zero, List.headD_cons, List.all_cons, List.all_nil, List.getElem?_cons_succ, List.getElem?_cons_zero, Option.bind_some, implies_true, imp_self, beq_false, decide_eq_true_eq, decide_eq_false_iff_not, Bool.not_eq_true', Bool.cond_true_left, Bool.or_eq_true, Bool.or_eq_false_iff, Int.not_lt, true_and, and_self, not_false_eq_true, Bool.and_true, Bool.true_and, Nat.add_zero, Nat.zero_add, Nat.reduceAdd, Nat.reduceLeDiff, eq_self, Nat.succ_ne_self, tab_3, tab_25, tab_28]
  refine ⟨fun h => ?_, fun h => ?_⟩
  · (refine RetAt.leaf ?_ ?_ <;> simp only [resOf, tupOf, ASt.eval, AV.strip, AV.need, AV.map, AC.ren, List.getD_cons_succ, List.getD_cons_zero, AV.c.injEq, AC.int.injEq, true_and, and_true, and_self, eq_self])
    unfold chk
    rw [if_pos (by omega)]
  have hc : chk n ms es = if ∃ p ∈ ms, badMv n p then 4 else endsChk n [] es := by
    unfold chk
    rw [if_neg (by omega)]
  refine LoopAt.inv (ι := Nat) (T := tab) (fun i => [(24, .c (.int .i64 i))]) (fun i => [.cells 28 (mcells n ms es)])
    (fun i => i ≤ ms.length ∧ ∀ p ∈ ms.take i, ¬ badMv n p) (fun i => ms.length - i) tabOK 0 ⟨Nat.zero_le _, by simp⟩ ?_ ?_
  · (simp only [LessC, headSt, dsts, opDsts, resetS, putsS, lessS, lessO, belowS, belowO, AV.below, AObj.below, AC.below, List.set_cons_succ, List.set_cons_zero, List.cons_append, List.nil_append, List.append_nil, List.length_cons, List.length_nil, List.all_cons, List.all_nil, Nat.reduceLT, Int.cast_ofNat_Int, AV.c.injEq, and_self, reduceCtorEq, Bool.and_true, Nat.zero_add, Nat.reduceLeDiff, eq_self, decide_true, or_true, or_false] <;> try omega)
  rintro i ⟨hi, hg⟩
  simp only [VCp, headSt, dsts, opDsts, resetS, putsS, VC_skip, VC_region, VC_seq, VC_cond, VC_block, VC_loop, VC_exit, VC_ret, aops_nil, aops_cons, put_some, put_none, aop, qop, isQuiet, ASt.eval, ASt.ev, AV.strip, AV.need, AV.ac, AV.cells, AV.isTup, onG, guardOf, qbin, binInt, qpick, qpick0, qlen, qindexAddr, qfieldAddr, qload, splice, ned, AC.fits, astore, newObj, ASt.setObj, ASt.obj, DV.ac, ofCells, TI.isAgg, isScalar, avOf, acOf, eInt, eList, ePair, List.getD_cons_succ, List.getD_cons_zero, List.set_cons_succ, List.set_cons_zero, List.map_cons, List.map_nil, List.cons_append, List.nil_append, List.append_nil, List.length_cons, List.length_nil, List.drop_succ_cons, List.drop_zero, List.drop_nil, List.take_succ_cons, List.take_zero, List.take_nil, List.headD_cons, List.all_cons, List.all_nil, List.getElem?_cons_succ, List.getElem?_cons_zero, Option.bind_some, Int.toNat_natCast, implies_true, imp_self, beq_false, decide_eq_true_eq, decide_eq_false_iff_not, Bool.not_eq_true', Bool.cond_true_left, Bool.or_eq_true, Bool.or_eq_false_iff, Int.not_lt, Int.not_le, true_and, and_self, reduceCtorEq, not_false_eq_true, Bool.and_true, Bool.true_and, if_true, Nat.add_zero, Nat.zero_add, Nat.reduceAdd, Nat.reduceLeDiff, Nat.le_refl, eq_self, Nat.succ_ne_self, tab_3, tab_5, tab_25, tab_26, tab_28, tab_105, mEnc]
  refine ⟨fun h => ?_, fun h => ?_⟩
  · have hi' : i < ms.length := by omega
    have hmem : ms.getD i mZ ∈ ms := by simp [List.getD, hi']
    refine ⟨⟨by omega, by omega⟩, fun hb => ?_, fun hb => ⟨i + 1, ⟨by omega, fun p hp => ?_⟩, by omega, ?_⟩⟩
    · (refine RetAt.leaf ?_ ?_ <;> simp only [resOf, tupOf, ASt.eval, AV.strip, AV.need, AV.map, AC.ren, List.getD_cons_succ, List.getD_cons_zero, AV.c.injEq, AC.int.injEq, true_and, and_true, and_self, eq_self])
      rw [hc, if_pos ⟨_, hmem, by unfold badMv; omega⟩]
    · rw [take_next ms i mZ hi'] at hp
      rcases List.mem_append.1 hp with hp | hp
      · exact hg p hp
      · simp only [List.mem_singleton] at hp
        subst hp
        unfold badMv
        omega
    · (simp only [LessC, lessS, lessO, belowS, belowO, AV.below, AObj.below, AC.below, List.length_cons, List.length_nil, List.all_cons, List.all_nil, Nat.reduceLT, Int.cast_ofNat_Int, Int.natCast_add, AV.c.injEq, AC.int.injEq, true_and, and_true, and_self, reduceCtorEq, Bool.and_true, Nat.zero_add, Nat.reduceLeDiff, eq_self, decide_true, or_true, or_false, false_or] <;> try omega)
      exact i64_in _ (by omega)
  have : i = ms.length := by omega
  subst this
  rw [List.take_length] at hg
  have hc2 : chk n ms es = endsChk n [] es := by
    rw [hc, if_neg]
    rintro ⟨p, hp, hb⟩
    exact hg p hp hb
  refine LoopAt.inv (ι := Nat) (T := tab) (fun i => [(61, .c (.int .i64 i))]) (fun i => [.cells 28 (mcells n ms es)])
    (fun i => i ≤ es.length ∧ endsChk n (es.take i) (es.drop i) = endsChk n [] es) (fun i => es.length - i) tabOK 0 ⟨Nat.zero_le _, rfl⟩ ?_ ?_
  · (simp only [LessC, headSt, dsts, opDsts, resetS, putsS, lessS, lessO, belowS, belowO, AV.below, AObj.below, AC.below, List.set_cons_succ, List.set_cons_zero, List.cons_append, List.nil_append, List.append_nil, List.length_cons, List.length_nil, List.all_cons, List.all_nil, Nat.reduceLT, Int.cast_ofNat_Int, AV.c.injEq, and_self, reduceCtorEq, Bool.and_true, Nat.zero_add, Nat.reduceLeDiff, eq_self, decide_true, or_true] <;> try omega)
  rintro i ⟨hi, hg⟩
  simp only [VCp, headSt, dsts, opDsts, resetS, putsS, VC_skip, VC_region, VC_seq, VC_cond, VC_block, VC_exit, VC_ret, aops_nil, aops_cons, put_some, aop, qop, isQuiet, ASt.eval, ASt.ev, AV.strip, AV.need, AV.ac, AV.isTup, onG, guardOf, qbin, binInt, qpick, qpick0, qindexAddr, qfieldAddr, qload, qslice, cutLo, cutHi, needAll, ned, ASt.obj, DV.ac, ofCells, TI.isAgg, isScalar, avOf, acOf, eInt, eList, ePair, List.getD_cons_succ, List.getD_cons_zero, List.set_cons_succ, List.set_cons_zero, List.map_cons, List.map_nil, List.cons_append, List.nil_append, List.append_nil, List.length_cons, List.length_nil, List.drop_succ_cons, List.drop_zero, List.take_succ_cons, List.take_zero, List.take_nil, List.headD_cons, List.getElem?_cons_succ, List.getElem?_cons_zero, Option.bind_some, Option.map_some, Option.map_none, Option.toList_some, Option.toList_none, Int.reduceLE, Int.toNat_natCast, Int.reduceToNat, implies_true, imp_self, beq_false, decide_eq_true_eq, decide_eq_false_iff_not, Bool.not_eq_true', Bool.cond_true_left, Bool.or_eq_true, Bool.or_eq_false_iff, Int.not_lt, Int.not_le, true_and, and_self, not_false_eq_true, Bool.true_and, if_true, Nat.add_zero, Nat.zero_add, Nat.reduceAdd, Nat.reduceLeDiff, Nat.le_refl, eq_self, Nat.succ_ne_self, tab_3, tab_26, tab_28]
  refine ⟨fun h => ?_, fun h => ?_⟩
  · have hi' : i < es.length := by omega
    rw [endsChk_step hi'] at hg
    refine ⟨⟨by omega, by omega⟩, fun hb => ?_, fun hb => ⟨⟨by omega, by omega⟩, ?_⟩⟩
    · (refine RetAt.leaf ?_ ?_ <;> simp only [resOf, tupOf, ASt.eval, AV.strip, AV.need, AV.map, AC.ren, List.getD_cons_succ, List.getD_cons_zero, AV.c.injEq, AC.int.injEq, true_and, and_true, and_self, eq_self])
      rw [if_pos (by omega)] at hg
      rw [hc2, ← hg]
    · rw [if_neg (by omega)] at hg
      refine CallAt.plain (contains_spec (es.take i) (es.getD i 0) (by simp; omega)) rfl ?_
      rintro r os ⟨rfl, rfl⟩
      simp only [VC_skip, VC_region, VC_seq, VC_cond, VC_ret, aops_nil, aops_cons, put_some, qop, isQuiet, ASt.eval, AV.need, AV.ac, qbin, binInt, AV.map, isScalar, avOf, acOf, AC.ren, giveBack, afterCall, eInt, List.getD_cons_succ, List.getD_cons_zero, List.set_cons_succ, List.set_cons_zero, List.map_nil, List.append_nil, List.length_cons, List.length_nil, decide_eq_true_eq, decide_eq_false_iff_not, true_and, and_self, Nat.zero_add, eq_self, tab_3]
      refine ⟨fun hb => ?_, fun hb => ⟨i + 1, ⟨by omega, ?_⟩, by omega, ?_⟩⟩
      · (refine RetAt.leaf ?_ ?_ <;> simp only [resOf, tupOf, ASt.eval, AV.strip, AV.need, AV.map, AC.ren, List.getD_cons_succ, List.getD_cons_zero, AV.c.injEq, AC.int.injEq, true_and, and_true, and_self, eq_self])
        rw [if_pos hb] at hg
        rw [hc2, ← hg]
      · rw [if_neg hb] at hg
        exact hg
      · (simp only [LessC, lessS, lessO, belowS, belowO, AV.below, AObj.below, AC.below, List.length_cons, List.length_nil, List.all_cons, List.all_nil, Nat.reduceLT, Int.cast_ofNat_Int, Int.natCast_add, AV.c.injEq, AC.int.injEq, true_and, and_true, and_self, reduceCtorEq, Bool.and_true, Nat.zero_add, Nat.reduceLeDiff, eq_self, decide_true, or_true, or_false, false_or] <;> try omega)
        exact i64_in _ (by omega)
  · have : i = es.length := by omega
    subst this
    rw [List.take_length, List.drop_length] at hg
    (refine RetAt.leaf ?_ ?_ <;> simp only [resOf, tupOf, ASt.eval, AV.strip, AV.need, AV.map, AC.ren, List.getD_cons_succ, List.getD_cons_zero, AV.c.injEq, AC.int.injEq, true_and, and_true, and_self, eq_self])
    rw [hc2, ← hg]
    rfl
end Go.Vc
