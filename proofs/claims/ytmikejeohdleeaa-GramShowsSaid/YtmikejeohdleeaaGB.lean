/- Automata: what the functions of package gram compute. -/
import Derived.Test.YtmikejeohdleeaaGA
set_option linter.unusedVariables false
set_option linter.unusedSimpArgs false
namespace Go.Vc
open Go.Proofs Go.IntWalk
set_option maxRecDepth 100000
abbrev mcells (n : Int) (ms : List Mv) (es : List Int) : List AC := [.int .i64 n, .rd 4 Mv mZ mEnc ms, .rd 1 Int 0 (fun n => [.int .i64 n]) es]
abbrev mach (n : Int) (ms : List Mv) (es : List Int) : AV := .agg (mcells n ms es)
set_option maxHeartbeats 4000000 in
theorem step_spec (n : Int) (ms : List Mv) (es : List Int) (m : Nat) (c : Int) (hm : m < 2 ^ 32) (ho : MOK ms) (hl : ms.length ≤ 200) :
    ACall Try.prog 96 [mach n ms es, .c (.int .u32 m), .c (.int .u8 c)] [] (fun r os => r = .c (.int .u32 (stepF ms m c)) ∧ os = []) := by
  (refine ACall.of_body (nt := 42) (rs := [.tmp 6]) tabOK Try.func96 rfl rfl rfl rfl ?_; simp only [startSt, List.length_cons, List.length_nil, Nat.reduceAdd, Nat.reduceSub, List.replicate_succ, List.replicate_zero, List.cons_append, List.nil_append])
  simp only [VCp, VC_region, VC_seq, VC_block, VC_loop, aops_nil, aops_cons, put_some, aop, qop, isQuiet, ASt.eval, AV.need, AV.ac, AV.cells, AV.isTup, qlen, qfieldAddr, qload, ned, AC.fits, newObj, ASt.obj, ofCells, TI.isAgg, avOf, acOf, eInt, eList, ePair, List.getD_cons_succ, List.getD_cons_zero, List.set_cons_succ, List.set_cons_zero, List.cons_append, List.nil_append, List.length_cons, List.length_nil, List.drop_succ_cons, List.drop_zero, List.take_succ_cons, List.take_zero, List.headD_cons, List.all_cons, List.all_nil, List.getElem?_cons_succ, List.getElem?_cons_zero, true_and, and_self, not_false_eq_true, Bool.and_true, Nat.zero_add, Nat.reduceAdd, Nat.reduceLeDiff, eq_self, Nat.succ_ne_self, tab_25, tab_28]
  refine LoopAt.inv (ι := Nat) (T := tab) (fun i => [(7, .c (.int .u32 (stepF (ms.take i) m c))), (13, .c (.int .i64 i))]) (fun i => [.cells 28 (mcells n ms es)])
    (fun i => i ≤ ms.length) (fun i => ms.length - i) tabOK 0 (Nat.zero_le _) ?_ ?_
  · (simp only [LessC, headSt, dsts, opDsts, resetS, putsS, lessS, lessO, belowS, belowO, AV.below, AObj.below, AC.below, List.set_cons_succ, List.set_cons_zero, List.cons_append, List.nil_append, List.append_nil, List.length_cons, List.length_nil, List.take_zero, List.all_cons, List.all_nil, Nat.reduceLT, Int.cast_ofNat_Int, AV.c.injEq, AC.int.injEq, true_and, and_true, and_self, reduceCtorEq, Bool.and_true, Nat.zero_add, Nat.reduceLeDiff, eq_self, decide_true, or_true, false_or] <;> try omega)
    rfl
  intro i hi
  simp only [VCp, headSt, dsts, opDsts, resetS, putsS, VC_skip, VC_region, VC_seq, VC_cond, VC_block, VC_exit, VC_ret, aops_nil, aops_cons, put_some, put_none, aop, qop, isQuiet, ASt.eval, ASt.ev, AV.strip, AV.need, AV.ac, AV.cells, AV.isTup, onG, guardOf, qbin, binInt, qpick, qpick0, qindexAddr, qfieldAddr, qload, splice, ned, AC.fits, astore, newObj, ASt.setObj, ASt.obj, DV.ac, ofCells, TI.isAgg, isScalar, avOf, acOf, eInt, eList, ePair, List.getD_cons_succ, List.getD_cons_zero, List.set_cons_succ, List.set_cons_zero, List.map_cons, List.map_nil, List.cons_append, List.nil_append, List.append_nil, List.length_cons, List.length_nil, List.drop_succ_cons, List.drop_zero, List.drop_nil, List.take_succ_cons, List.take_zero, List.take_nil, List.headD_cons, List.all_cons, List.all_nil, List.getElem?_cons_succ, List.getElem?_cons_zero, Option.bind_some, Int.toNat_natCast, implies_true, imp_self, beq_true, decide_eq_true_eq, decide_eq_false_iff_not, Bool.cond_false_right, Bool.and_eq_true, Bool.and_eq_false_iff, Int.not_lt, Int.not_le, true_and, and_self, reduceCtorEq, not_false_eq_true, Bool.and_true, Bool.true_and, if_true, Nat.add_zero, Nat.zero_add, Nat.reduceAdd, Nat.reduceLeDiff, Nat.le_refl, eq_self, Nat.succ_ne_self, tab_3, tab_5, tab_25, tab_105, tab_108, mEnc]
  refine ⟨fun h => ?_, fun h => ?_⟩
  · have hi' : i < ms.length := by omega
    obtain ⟨h1, h2, h3, h4⟩ := ho.at hi'
    have hlt : stepF (ms.take i) m c < 2 ^ 32 := stepF_lt (ho.take i) m c
    have hs : stepF (ms.take (i + 1)) m c = if (m.testBit (frm (ms.getD i mZ)) && lbl (ms.getD i mZ) c) = true then stepF (ms.take i) m c ||| 2 ^ tgt (ms.getD i mZ) else stepF (ms.take i) m c := by
      unfold stepF
      rw [take_next ms i mZ hi', orF_snoc]
    have hb := bitI1 hm h1 h2
    refine ⟨⟨by omega, by omega⟩, h1, fun hc => ⟨h3, i + 1, by omega, by omega, ?_⟩, fun hc => ⟨i + 1, by omega, by omega, ?_⟩⟩
    · (simp only [LessC, lessS, lessO, belowS, belowO, AV.below, AObj.below, AC.below, List.length_cons, List.length_nil, List.all_cons, List.all_nil, Nat.reduceLT, Int.cast_ofNat_Int, Int.natCast_add, AV.c.injEq, AC.int.injEq, true_and, and_true, and_self, reduceCtorEq, Bool.and_true, Nat.zero_add, Nat.reduceLeDiff, eq_self, decide_true, or_true, or_false, false_or] <;> try omega)
      rw [hs, if_pos (by simp only [frm, lbl, Bool.and_eq_true, decide_eq_true_eq]; exact ⟨hb.1 hc.1.1, hc.1.2, hc.2⟩), orI hlt h3 h4]
      exact ⟨rfl, i64_in _ (by omega)⟩
    · (simp only [LessC, lessS, lessO, belowS, belowO, AV.below, AObj.below, AC.below, List.length_cons, List.length_nil, List.all_cons, List.all_nil, Nat.reduceLT, Int.cast_ofNat_Int, Int.natCast_add, AV.c.injEq, AC.int.injEq, true_and, and_true, and_self, reduceCtorEq, Bool.and_true, Nat.zero_add, Nat.reduceLeDiff, eq_self, decide_true, or_true, or_false, false_or] <;> try omega)
      rw [hs, if_neg ?_]
      · exact ⟨rfl, i64_in _ (by omega)⟩
      · simp only [frm, lbl, Bool.and_eq_true, decide_eq_true_eq]
        intro hd
        have := hb.2 hd.1
        rcases hc with (hc | hc) | hc
        · exact hc this
        · omega
        · omega
  · have : i = ms.length := by omega
    subst this
    rw [List.take_length]
    (refine RetAt.leaf ?_ ?_ <;> simp only [resOf, tupOf, ASt.eval, AV.strip, AV.need, AV.map, AC.ren, List.getD_cons_succ, List.getD_cons_zero, and_self, eq_self])

def EOK (es : List Int) : Prop := ∀ e ∈ es, 0 ≤ e ∧ e < 32
theorem EOK.at {es : List Int} (h : EOK es) {i : Nat} (hi : i < es.length) : 0 ≤ es.getD i 0 ∧ es.getD i 0 < 32 := by
  refine h _ ?_
  simp [List.getD, hi]
set_option maxHeartbeats 4000000 in
theorem ends_spec (n : Int) (ms : List Mv) (es : List Int) (ho : EOK es) (hl : es.length ≤ 32) :
    ACall Try.prog 67 [mach n ms es] [] (fun r os => r = .c (.int .u32 (endsF es)) ∧ os = []) := by
  (refine ACall.of_body (nt := 19) (rs := [.tmp 2]) tabOK Try.func67 rfl rfl rfl rfl ?_; simp only [startSt, List.length_cons, List.length_nil, Nat.reduceAdd, Nat.reduceSub, List.replicate_succ, List.replicate_zero, List.cons_append, List.nil_append])
  simp only [VCp, VC_region, VC_seq, VC_block, VC_loop, aops_nil, aops_cons, put_some, aop, qop, isQuiet, ASt.eval, AV.need, AV.ac, AV.cells, AV.isTup, qlen, qfieldAddr, qload, ned, AC.fits, newObj, ASt.obj, ofCells, TI.isAgg, avOf, acOf, eInt, eList, ePair, List.getD_cons_succ, List.getD_cons_zero, List.set_cons_succ, List.set_cons_zero, List.cons_append, List.nil_append, List.length_cons, List.length_nil, List.drop_succ_cons, List.drop_zero, List.take_succ_cons, List.take_nil, List.headD_cons, List.all_cons, List.all_nil, List.getElem?_cons_succ, List.getElem?_cons_zero, true_and, and_self, not_false_eq_true, Bool.and_true, Nat.zero_add, Nat.reduceAdd, Nat.le_refl, eq_self, Nat.succ_ne_self, tab_26, tab_28]
  refine LoopAt.inv (ι := Nat) (T := tab) (fun i => [(3, .c (.int .u32 (endsF (es.take i)))), (9, .c (.int .i64 i))]) (fun i => [.cells 28 (mcells n ms es)])
    (fun i => i ≤ es.length) (fun i => es.length - i) tabOK 0 (Nat.zero_le _) ?_ ?_
  · (simp only [LessC, headSt, dsts, opDsts, resetS, putsS, lessS, lessO, belowS, belowO, AV.below, AObj.below, AC.below, List.set_cons_succ, List.set_cons_zero, List.cons_append, List.nil_append, List.append_nil, List.length_cons, List.length_nil, List.take_zero, List.all_cons, List.all_nil, Nat.reduceLT, Int.cast_ofNat_Int, AV.c.injEq, AC.int.injEq, true_and, and_true, and_self, reduceCtorEq, Bool.and_true, Nat.zero_add, Nat.reduceLeDiff, eq_self, decide_true, or_true, false_or] <;> try omega)
    rfl
  intro i hi
  simp only [VCp, headSt, dsts, opDsts, resetS, putsS, VC_skip, VC_region, VC_seq, VC_cond, VC_block, VC_exit, VC_ret, aops_nil, aops_cons, put_some, qop, isQuiet, ASt.eval, AV.need, AV.ac, qbin, binInt, qindexAddr, qload, DV.ac, ofCells, TI.isAgg, isScalar, avOf, acOf, eInt, eList, List.getD_cons_succ, List.getD_cons_zero, List.set_cons_succ, List.set_cons_zero, List.map_cons, List.map_nil, List.cons_append, List.nil_append, List.append_nil, List.length_cons, List.length_nil, List.take_succ_cons, List.take_nil, List.headD_cons, Int.toNat_natCast, decide_eq_true_eq, decide_eq_false_iff_not, Int.not_lt, true_and, and_self, not_false_eq_true, if_true, Nat.zero_add, Nat.le_refl, eq_self, Nat.succ_ne_self, tab_3, tab_26, tab_108]
  refine ⟨fun h => ?_, fun h => ?_⟩
  · have hi' : i < es.length := by omega
    obtain ⟨h1, h2⟩ := ho.at hi'
    have hlt : endsF (es.take i) < 2 ^ 32 := endsF_lt fun e he => ho e (List.mem_of_mem_take he)
    have hs : endsF (es.take (i + 1)) = endsF (es.take i) ||| 2 ^ (es.getD i 0).toNat := by rw [take_next es i 0 hi', endsF_snoc]
    refine ⟨⟨by omega, by omega⟩, h1, i + 1, by omega, by omega, ?_⟩
    (simp only [LessC, lessS, lessO, belowS, belowO, AV.below, AObj.below, AC.below, List.length_cons, List.length_nil, List.all_cons, List.all_nil, Nat.reduceLT, Int.cast_ofNat_Int, Int.natCast_add, AV.c.injEq, AC.int.injEq, true_and, and_true, and_self, reduceCtorEq, Bool.and_true, Nat.zero_add, Nat.reduceLeDiff, eq_self, decide_true, or_true, or_false, false_or] <;> try omega)
    rw [hs, orI hlt h1 h2]
    exact ⟨rfl, i64_in _ (by omega)⟩
  · have : i = es.length := by omega
    subst this
    rw [List.take_length]
    (refine RetAt.leaf ?_ ?_ <;> simp only [resOf, tupOf, ASt.eval, AV.strip, AV.need, AV.map, AC.ren, List.getD_cons_succ, List.getD_cons_zero, and_self, eq_self])

/-- the program's two closures -/
theorem orF_sub {cond : Mv → Bool} {t : Mv → Nat} {ms : List Mv} {m : Nat} (i : Nat) (h : m.testBit i = true) : (orF cond t ms m).testBit i = true := orF_bit.2 (.inl h)
set_option maxHeartbeats 4000000 in
theorem lead_spec (n : Int) (ms : List Mv) (es : List Int) (m : Nat) (hm : m < 2 ^ 32) (ho : MOK ms) (hl : ms.length ≤ 200) :
    ACall Try.prog 66 [mach n ms es, .c (.int .u32 m)] [] (fun r os => ∃ q : Nat, r = .c (.int .u32 q) ∧ Clos tgt frm ms m q ∧ os = []) := by
  (refine ACall.of_body (nt := 33) (rs := [.tmp 4]) tabOK Try.func66 rfl rfl rfl rfl ?_; simp only [startSt, List.length_cons, List.length_nil, Nat.reduceAdd, Nat.reduceSub, List.replicate_succ, List.replicate_zero, List.cons_append, List.nil_append])
  simp only [VCp, VC_region, VC_seq, VC_block, VC_loop, aops_nil, aops_cons, put_some, aop, qop, isQuiet, ASt.eval, AV.need, AV.cells, AV.isTup, ned, AC.fits, newObj, avOf, acOf, eInt, eList, ePair, List.getD_cons_zero, List.set_cons_succ, List.set_cons_zero, List.cons_append, List.nil_append, List.length_cons, List.length_nil, List.all_cons, List.all_nil, true_and, and_self, Bool.and_true, Nat.zero_add, Nat.reduceAdd, eq_self, tab_28]
  refine LoopAt.inv (ι := Nat) (T := tab) (fun q => [(1, .c (.int .u32 q))]) (fun q => [.cells 28 (mcells n ms es)])
    (fun q => q < 2 ^ 32 ∧ (∀ i, m.testBit i = true → q.testBit i = true) ∧ ∀ C : Nat → Prop, (∀ i, m.testBit i = true → C i) → (∀ p ∈ ms, C (tgt p) → C (frm p)) → ∀ i, q.testBit i = true → C i)
    (fun q => 2 ^ 32 - q) tabOK m ⟨hm, fun i h => h, fun C h _ => h⟩ ?_ ?_
  · (simp only [LessC, headSt, dsts, opDsts, resetS, putsS, lessS, lessO, belowS, belowO, AV.below, AObj.below, AC.below, List.set_cons_succ, List.set_cons_zero, List.cons_append, List.nil_append, List.append_nil, List.length_cons, List.length_nil, List.all_cons, List.all_nil, Nat.reduceLT, AV.c.injEq, and_self, reduceCtorEq, Bool.and_true, Nat.zero_add, Nat.reduceLeDiff, eq_self, decide_true, or_true, or_false] <;> try omega)
  rintro q ⟨hq, hsub, hleast⟩
  simp only [VCp, headSt, dsts, opDsts, resetS, putsS, VC_region, VC_seq, VC_block, VC_loop, aops_nil, aops_cons, put_some, qop, isQuiet, ASt.eval, AV.need, AV.ac, qlen, qfieldAddr, qload, ASt.obj, ofCells, TI.isAgg, avOf, acOf, eInt, eList, ePair, List.getD_cons_succ, List.getD_cons_zero, List.set_cons_succ, List.set_cons_zero, List.cons_append, List.nil_append, List.append_nil, List.length_cons, List.length_nil, List.drop_succ_cons, List.drop_zero, List.take_succ_cons, List.take_zero, List.headD_cons, List.getElem?_cons_succ, List.getElem?_cons_zero, true_and, and_self, not_false_eq_true, Nat.zero_add, Nat.reduceAdd, Nat.reduceLeDiff, Nat.succ_ne_self, tab_25, tab_28]
  refine LoopAt.inv (ι := Nat) (T := tab) (fun i => [(5, .c (.int .u32 (orF (fun p => q.testBit (tgt p)) frm (ms.take i) q))), (12, .c (.int .i64 i))]) (fun i => [.cells 28 (mcells n ms es)])
    (fun i => i ≤ ms.length) (fun i => ms.length - i) tabOK 0 (Nat.zero_le _) ?_ ?_
  · (simp only [LessC, headSt, dsts, opDsts, resetS, putsS, lessS, lessO, belowS, belowO, AV.below, AObj.below, AC.below, List.set_cons_succ, List.set_cons_zero, List.cons_append, List.nil_append, List.append_nil, List.length_cons, List.length_nil, List.take_zero, List.all_cons, List.all_nil, Nat.reduceLT, Int.cast_ofNat_Int, AV.c.injEq, AC.int.injEq, true_and, and_true, and_self, reduceCtorEq, Bool.and_true, Nat.zero_add, Nat.reduceLeDiff, eq_self, decide_true, or_true, false_or] <;> try omega)
    rfl
  intro i hi
  simp only [VCp, headSt, dsts, opDsts, resetS, putsS, VC_skip, VC_region, VC_seq, VC_cond, VC_block, VC_exit, VC_ret, aops_nil, aops_cons, put_some, put_none, aop, qop, isQuiet, ASt.eval, ASt.ev, AV.strip, AV.need, AV.ac, AV.cells, AV.isTup, qbin, binInt, qindexAddr, qfieldAddr, qload, splice, ned, AC.fits, astore, newObj, ASt.setObj, ASt.obj, DV.ac, ofCells, TI.isAgg, isScalar, avOf, acOf, eInt, eList, ePair, List.getD_cons_succ, List.getD_cons_zero, List.set_cons_succ, List.set_cons_zero, List.map_cons, List.map_nil, List.cons_append, List.nil_append, List.append_nil, List.length_cons, List.length_nil, List.drop_succ_cons, List.drop_zero, List.drop_nil, List.take_succ_cons, List.take_zero, List.take_nil, List.headD_cons, List.all_cons, List.all_nil, List.getElem?_cons_succ, List.getElem?_cons_zero, Int.toNat_natCast, decide_eq_true_eq, decide_eq_false_iff_not, Int.not_lt, true_and, and_self, reduceCtorEq, not_false_eq_true, Bool.and_true, if_true, if_false, Nat.add_zero, Nat.zero_add, Nat.reduceAdd, Nat.reduceLeDiff, Nat.le_refl, eq_self, Nat.succ_ne_self, tab_3, tab_25, tab_105, tab_108, mEnc]
  refine ⟨fun h => ?_, fun h => ?_⟩
  · have hi' : i < ms.length := by omega
    obtain ⟨h1, h2, h3, h4⟩ := ho.at hi'
    have hlt : orF (fun p => q.testBit (tgt p)) frm (ms.take i) q < 2 ^ 32 := orF_lt hq (ho.take i).frm
    have hs : orF (fun p => q.testBit (tgt p)) frm (ms.take (i + 1)) q = if q.testBit (tgt (ms.getD i mZ)) = true then orF (fun p => q.testBit (tgt p)) frm (ms.take i) q ||| 2 ^ frm (ms.getD i mZ) else orF (fun p => q.testBit (tgt p)) frm (ms.take i) q := by
      rw [take_next ms i mZ hi', orF_snoc]
    have hb : bits .and .u32 (shr .u32 (q : Int) (ms.getD i mZ).2.1) 1 = 1 ↔ q.testBit (tgt (ms.getD i mZ)) = true := bitI1 hq h3 h4
    refine ⟨⟨by omega, by omega⟩, h3, fun hc => ⟨h1, i + 1, by omega, by omega, ?_⟩, fun hc => ⟨i + 1, by omega, by omega, ?_⟩⟩
    · (simp only [LessC, lessS, lessO, belowS, belowO, AV.below, AObj.below, AC.below, List.length_cons, List.length_nil, List.all_cons, List.all_nil, Nat.reduceLT, Int.cast_ofNat_Int, Int.natCast_add, AV.c.injEq, AC.int.injEq, true_and, and_true, and_self, reduceCtorEq, Bool.and_true, Nat.zero_add, Nat.reduceLeDiff, eq_self, decide_true, or_true, or_false, false_or] <;> try omega)
      rw [hs, if_pos (hb.1 hc), orI hlt h1 h2]
      exact ⟨rfl, i64_in _ (by omega)⟩
    · (simp only [LessC, lessS, lessO, belowS, belowO, AV.below, AObj.below, AC.below, List.length_cons, List.length_nil, List.all_cons, List.all_nil, Nat.reduceLT, Int.cast_ofNat_Int, Int.natCast_add, AV.c.injEq, AC.int.injEq, true_and, and_true, and_self, reduceCtorEq, Bool.and_true, Nat.zero_add, Nat.reduceLeDiff, eq_self, decide_true, or_true, or_false, false_or] <;> try omega)
      rw [hs, if_neg fun hd => hc (hb.2 hd)]
      exact ⟨rfl, i64_in _ (by omega)⟩
  · have : i = ms.length := by omega
    subst this
    rw [List.take_length]
    refine ⟨fun hc => ?_, fun hc => ⟨orF (fun p => q.testBit (tgt p)) frm ms q, ?_, ?_, ?_⟩⟩
    · (refine RetAt.leaf ?_ ?_ <;> simp only [resOf, tupOf, ASt.eval, AV.strip, AV.need, AV.map, AC.ren, List.getD_cons_succ, List.getD_cons_zero, AV.c.injEq, AC.int.injEq, true_and, and_true, and_self, eq_self])
      have hfix : orF (fun p => q.testBit (tgt p)) frm ms q = q := by exact_mod_cast hc
      exact ⟨q, rfl, hq, hsub, orF_fix hfix, hleast⟩
    · refine ⟨orF_lt hq ho.frm, fun i h => orF_sub i (hsub i h), fun C hC hcl i hbit => ?_⟩
      rcases orF_bit.1 hbit with h | ⟨p, hp, h1, h2⟩
      · exact hleast C hC hcl i h
      · rw [← h2]; exact hcl p hp (hleast C hC hcl _ h1)
    · have h1 : q ≤ orF (fun p => q.testBit (tgt p)) frm ms q := le_of_bits fun i h => orF_sub i h
      have h2 : orF (fun p => q.testBit (tgt p)) frm ms q < 2 ^ 32 := orF_lt hq ho.frm
      have h3 : orF (fun p => q.testBit (tgt p)) frm ms q ≠ q := fun h => hc (by exact_mod_cast h)
      omega
    · (simp only [LessC, lessS, lessO, belowS, belowO, AV.below, AObj.below, AC.below, List.length_cons, List.length_nil, List.all_cons, List.all_nil, Nat.reduceLT, AV.c.injEq, and_self, reduceCtorEq, Bool.and_true, Nat.zero_add, Nat.reduceLeDiff, eq_self, decide_true, or_true, or_false] <;> try omega)
set_option maxHeartbeats 4000000 in
theorem reach_spec (n : Int) (ms : List Mv) (es : List Int) (m : Nat) (hm : m < 2 ^ 32) (ho : MOK ms) (hl : ms.length ≤ 200) :
    ACall Try.prog 68 [mach n ms es, .c (.int .u32 m)] [] (fun r os => ∃ q : Nat, r = .c (.int .u32 q) ∧ Clos frm tgt ms m q ∧ os = []) := by
  (refine ACall.of_body (nt := 33) (rs := [.tmp 4]) tabOK Try.func68 rfl rfl rfl rfl ?_; simp only [startSt, List.length_cons, List.length_nil, Nat.reduceAdd, Nat.reduceSub, List.replicate_succ, List.replicate_zero, List.cons_append, List.nil_append])
  simp only [VCp, VC_region, VC_seq, VC_block, VC_loop, aops_nil, aops_cons, put_some, aop, qop, isQuiet, ASt.eval, AV.need, AV.cells, AV.isTup, ned, AC.fits, newObj, avOf, acOf, eInt, eList, ePair, List.getD_cons_zero, List.set_cons_succ, List.set_cons_zero, List.cons_append, List.nil_append, List.length_cons, List.length_nil, List.all_cons, List.all_nil, true_and, and_self, Bool.and_true, Nat.zero_add, Nat.reduceAdd, eq_self, tab_28]
  refine LoopAt.inv (ι := Nat) (T := tab) (fun q => [(1, .c (.int .u32 q))]) (fun q => [.cells 28 (mcells n ms es)])
    (fun q => q < 2 ^ 32 ∧ (∀ i, m.testBit i = true → q.testBit i = true) ∧ ∀ C : Nat → Prop, (∀ i, m.testBit i = true → C i) → (∀ p ∈ ms, C (frm p) → C (tgt p)) → ∀ i, q.testBit i = true → C i)
    (fun q => 2 ^ 32 - q) tabOK m ⟨hm, fun i h => h, fun C h _ => h⟩ ?_ ?_
  · (simp only [LessC, headSt, dsts, opDsts, resetS, putsS, lessS, lessO, belowS, belowO, AV.below, AObj.below, AC.below, List.set_cons_succ, List.set_cons_zero, List.cons_append, List.nil_append, List.append_nil, List.length_cons, List.length_nil, List.all_cons, List.all_nil, Nat.reduceLT, AV.c.injEq, and_self, reduceCtorEq, Bool.and_true, Nat.zero_add, Nat.reduceLeDiff, eq_self, decide_true, or_true, or_false] <;> try omega)
  rintro q ⟨hq, hsub, hleast⟩
  simp only [VCp, headSt, dsts, opDsts, resetS, putsS, VC_region, VC_seq, VC_block, VC_loop, aops_nil, aops_cons, put_some, qop, isQuiet, ASt.eval, AV.need, AV.ac, qlen, qfieldAddr, qload, ASt.obj, ofCells, TI.isAgg, avOf, acOf, eInt, eList, ePair, List.getD_cons_succ, List.getD_cons_zero, List.set_cons_succ, List.set_cons_zero, List.cons_append, List.nil_append, List.append_nil, List.length_cons, List.length_nil, List.drop_succ_cons, List.drop_zero, List.take_succ_cons, List.take_zero, List.headD_cons, List.getElem?_cons_succ, List.getElem?_cons_zero, true_and, and_self, not_false_eq_true, Nat.zero_add, Nat.reduceAdd, Nat.reduceLeDiff, Nat.succ_ne_self, tab_25, tab_28]
  refine LoopAt.inv (ι := Nat) (T := tab) (fun i => [(5, .c (.int .u32 (orF (fun p => q.testBit (frm p)) tgt (ms.take i) q))), (12, .c (.int .i64 i))]) (fun i => [.cells 28 (mcells n ms es)])
    (fun i => i ≤ ms.length) (fun i => ms.length - i) tabOK 0 (Nat.zero_le _) ?_ ?_
  · (simp only [LessC, headSt, dsts, opDsts, resetS, putsS, lessS, lessO, belowS, belowO, AV.below, AObj.below, AC.below, List.set_cons_succ, List.set_cons_zero, List.cons_append, List.nil_append, List.append_nil, List.length_cons, List.length_nil, List.take_zero, List.all_cons, List.all_nil, Nat.reduceLT, Int.cast_ofNat_Int, AV.c.injEq, AC.int.injEq, true_and, and_true, and_self, reduceCtorEq, Bool.and_true, Nat.zero_add, Nat.reduceLeDiff, eq_self, decide_true, or_true, false_or] <;> try omega)
    rfl
  intro i hi
  simp only [VCp, headSt, dsts, opDsts, resetS, putsS, VC_skip, VC_region, VC_seq, VC_cond, VC_block, VC_exit, VC_ret, aops_nil, aops_cons, put_some, put_none, aop, qop, isQuiet, ASt.eval, ASt.ev, AV.strip, AV.need, AV.ac, AV.cells, AV.isTup, qbin, binInt, qindexAddr, qfieldAddr, qload, splice, ned, AC.fits, astore, newObj, ASt.setObj, ASt.obj, DV.ac, ofCells, TI.isAgg, isScalar, avOf, acOf, eInt, eList, ePair, List.getD_cons_succ, List.getD_cons_zero, List.set_cons_succ, List.set_cons_zero, List.map_cons, List.map_nil, List.cons_append, List.nil_append, List.append_nil, List.length_cons, List.length_nil, List.drop_succ_cons, List.drop_zero, List.drop_nil, List.take_succ_cons, List.take_zero, List.take_nil, List.headD_cons, List.all_cons, List.all_nil, List.getElem?_cons_succ, List.getElem?_cons_zero, Int.toNat_natCast, decide_eq_true_eq, decide_eq_false_iff_not, Int.not_lt, true_and, and_self, reduceCtorEq, not_false_eq_true, Bool.and_true, if_true, if_false, Nat.add_zero, Nat.zero_add, Nat.reduceAdd, Nat.reduceLeDiff, Nat.le_refl, eq_self, Nat.succ_ne_self, tab_3, tab_25, tab_105, tab_108, mEnc]
  refine ⟨fun h => ?_, fun h => ?_⟩
  · have hi' : i < ms.length := by omega
    obtain ⟨h1, h2, h3, h4⟩ := ho.at hi'
    have hlt : orF (fun p => q.testBit (frm p)) tgt (ms.take i) q < 2 ^ 32 := orF_lt hq (ho.take i).tgt
    have hs : orF (fun p => q.testBit (frm p)) tgt (ms.take (i + 1)) q = if q.testBit (frm (ms.getD i mZ)) = true then orF (fun p => q.testBit (frm p)) tgt (ms.take i) q ||| 2 ^ tgt (ms.getD i mZ) else orF (fun p => q.testBit (frm p)) tgt (ms.take i) q := by
      rw [take_next ms i mZ hi', orF_snoc]
    have hb : bits .and .u32 (shr .u32 (q : Int) (ms.getD i mZ).1) 1 = 1 ↔ q.testBit (frm (ms.getD i mZ)) = true := bitI1 hq h1 h2
    refine ⟨⟨by omega, by omega⟩, h1, fun hc => ⟨h3, i + 1, by omega, by omega, ?_⟩, fun hc => ⟨i + 1, by omega, by omega, ?_⟩⟩
    · (simp only [LessC, lessS, lessO, belowS, belowO, AV.below, AObj.below, AC.below, List.length_cons, List.length_nil, List.all_cons, List.all_nil, Nat.reduceLT, Int.cast_ofNat_Int, Int.natCast_add, AV.c.injEq, AC.int.injEq, true_and, and_true, and_self, reduceCtorEq, Bool.and_true, Nat.zero_add, Nat.reduceLeDiff, eq_self, decide_true, or_true, or_false, false_or] <;> try omega)
      rw [hs, if_pos (hb.1 hc), orI hlt h3 h4]
      exact ⟨rfl, i64_in _ (by omega)⟩
    · (simp only [LessC, lessS, lessO, belowS, belowO, AV.below, AObj.below, AC.below, List.length_cons, List.length_nil, List.all_cons, List.all_nil, Nat.reduceLT, Int.cast_ofNat_Int, Int.natCast_add, AV.c.injEq, AC.int.injEq, true_and, and_true, and_self, reduceCtorEq, Bool.and_true, Nat.zero_add, Nat.reduceLeDiff, eq_self, decide_true, or_true, or_false, false_or] <;> try omega)
      rw [hs, if_neg fun hd => hc (hb.2 hd)]
      exact ⟨rfl, i64_in _ (by omega)⟩
  · have : i = ms.length := by omega
    subst this
    rw [List.take_length]
    refine ⟨fun hc => ?_, fun hc => ⟨orF (fun p => q.testBit (frm p)) tgt ms q, ?_, ?_, ?_⟩⟩
    · (refine RetAt.leaf ?_ ?_ <;> simp only [resOf, tupOf, ASt.eval, AV.strip, AV.need, AV.map, AC.ren, List.getD_cons_succ, List.getD_cons_zero, AV.c.injEq, AC.int.injEq, true_and, and_true, and_self, eq_self])
      have hfix : orF (fun p => q.testBit (frm p)) tgt ms q = q := by exact_mod_cast hc
      exact ⟨q, rfl, hq, hsub, orF_fix hfix, hleast⟩
    · refine ⟨orF_lt hq ho.tgt, fun i h => orF_sub i (hsub i h), fun C hC hcl i hbit => ?_⟩
      rcases orF_bit.1 hbit with h | ⟨p, hp, h1, h2⟩
      · exact hleast C hC hcl i h
      · rw [← h2]; exact hcl p hp (hleast C hC hcl _ h1)
    · have h1 : q ≤ orF (fun p => q.testBit (frm p)) tgt ms q := le_of_bits fun i h => orF_sub i h
      have h2 : orF (fun p => q.testBit (frm p)) tgt ms q < 2 ^ 32 := orF_lt hq ho.tgt
      have h3 : orF (fun p => q.testBit (frm p)) tgt ms q ≠ q := fun h => hc (by exact_mod_cast h)
      omega
    · (simp only [LessC, lessS, lessO, belowS, belowO, AV.below, AObj.below, AC.below, List.length_cons, List.length_nil, List.all_cons, List.all_nil, Nat.reduceLT, AV.c.injEq, and_self, reduceCtorEq, Bool.and_true, Nat.zero_add, Nat.reduceLeDiff, eq_self, decide_true, or_true, or_false] <;> try omega)
set_option maxHeartbeats 4000000 in
theorem run_spec (n : Int) (ms : List Mv) (es : List Int) (m : Nat) (text : List Int) (hm : m < 2 ^ 32) (ho : MOK ms) (hl : ms.length ≤ 200) (ht : text.length < 9223372036854775807) :
    ACall Try.prog 69 [mach n ms es, .c (.int .u32 m), .c (.rd 1 Int 0 encU8 text)] [] (fun r os => r = .c (.int .u32 (runF ms m text)) ∧ os = []) := by
  (refine ACall.of_body (nt := 21) (rs := [.tmp 6]) tabOK Try.func69 rfl rfl rfl rfl ?_; simp only [startSt, List.length_cons, List.length_nil, Nat.reduceAdd, Nat.reduceSub, List.replicate_succ, List.replicate_zero, List.cons_append, List.nil_append])
  simp only [VCp, VC_region, VC_seq, VC_block, VC_loop, aops_nil, aops_cons, put_some, aop, qop, isQuiet, ASt.eval, AV.need, AV.ac, AV.cells, AV.isTup, qlen, ned, AC.fits, newObj, avOf, acOf, eInt, eList, ePair, List.getD_cons_succ, List.getD_cons_zero, List.set_cons_succ, List.set_cons_zero, List.cons_append, List.nil_append, List.length_cons, List.length_nil, List.all_cons, List.all_nil, true_and, and_self, Bool.and_true, Nat.zero_add, Nat.reduceAdd, eq_self, tab_28, tab_29]
  refine LoopAt.inv (ι := Nat) (T := tab) (fun i => [(1, .c (.int .u32 (runF ms m (text.take i)))), (11, .c (.int .i64 i))]) (fun i => [.cells 28 (mcells n ms es)])
    (fun i => i ≤ text.length) (fun i => text.length - i) tabOK 0 (Nat.zero_le _) ?_ ?_
  · (simp only [LessC, headSt, dsts, opDsts, resetS, putsS, lessS, lessO, belowS, belowO, AV.below, AObj.below, AC.below, List.set_cons_succ, List.set_cons_zero, List.cons_append, List.nil_append, List.append_nil, List.length_cons, List.length_nil, List.take_zero, List.all_cons, List.all_nil, Nat.reduceLT, Int.cast_ofNat_Int, AV.c.injEq, AC.int.injEq, true_and, and_true, and_self, reduceCtorEq, Bool.and_true, Nat.zero_add, Nat.reduceLeDiff, eq_self, decide_true, or_true, false_or] <;> try omega)
    rfl
  intro i hi
  simp only [VCp, headSt, dsts, opDsts, resetS, putsS, VC_skip, VC_region, VC_seq, VC_cond, VC_block, VC_exit, VC_ret, aops_nil, aops_cons, put_some, aop, qop, isQuiet, ASt.eval, ASt.ev, AV.strip, AV.need, AV.ac, AV.isTup, qbin, binInt, qindexAddr, qload, ned, ASt.obj, DV.ac, ofCells, TI.isAgg, isScalar, eInt, eList, ePair, encU8, List.getD_cons_succ, List.getD_cons_zero, List.set_cons_succ, List.set_cons_zero, List.map_cons, List.map_nil, List.cons_append, List.nil_append, List.append_nil, List.length_cons, List.length_nil, List.drop_zero, List.take_succ_cons, List.take_nil, List.headD_cons, Int.toNat_natCast, decide_eq_true_eq, decide_eq_false_iff_not, Int.not_lt, true_and, and_self, reduceCtorEq, not_false_eq_true, if_true, Nat.zero_add, Nat.reduceAdd, Nat.le_refl, eq_self, Nat.succ_ne_self, tab_3, tab_5, tab_28, tab_29]
  refine ⟨fun h => ?_, fun h => ?_⟩
  · have hi' : i < text.length := by omega
    refine ⟨⟨by omega, by omega⟩, ?_⟩
    refine CallAt.plain (step_spec n ms es (runF ms m (text.take i)) (text.getD i 0) (runF_lt ho hm _) ho hl) rfl ?_
    rintro r os ⟨rfl, rfl⟩
    simp only [VC_region, aops_nil, aops_cons, put_some, qop, isQuiet, ASt.eval, AV.need, AV.ac, qbin, binInt, AV.map, isScalar, avOf, acOf, AC.ren, giveBack, afterCall, eInt, List.getD_cons_succ, List.getD_cons_zero, List.set_cons_succ, List.set_cons_zero, List.map_nil, List.append_nil, List.length_cons, List.length_nil, true_and, and_self, Nat.zero_add, eq_self, tab_3]
    refine ⟨i + 1, by omega, by omega, ?_⟩
    (simp only [LessC, lessS, lessO, belowS, belowO, AV.below, AObj.below, AC.below, List.length_cons, List.length_nil, List.all_cons, List.all_nil, Nat.reduceLT, Int.cast_ofNat_Int, Int.natCast_add, AV.c.injEq, AC.int.injEq, true_and, and_true, and_self, reduceCtorEq, Bool.and_true, Nat.zero_add, Nat.reduceLeDiff, eq_self, decide_true, or_true, or_false, false_or] <;> try omega)
    rw [runF_take ms m text i hi']
    exact ⟨rfl, i64_in _ (by omega)⟩
  · have : i = text.length := by omega
    subst this
    rw [List.take_length]
    (refine RetAt.leaf ?_ ?_ <;> simp only [resOf, tupOf, ASt.eval, AV.strip, AV.need, AV.map, AC.ren, List.getD_cons_succ, List.getD_cons_zero, and_self, eq_self])
end Go.Vc
