/- The law of automata. -/
import Derived.Test.YtmikejeohdleeaaGG
set_option linter.unusedVariables false
set_option linter.unusedSimpArgs false
namespace Go.Vc
open Go.Proofs Go.IntWalk
set_option maxRecDepth 100000
def MvB (ms : List Mv) : Prop := ∀ p ∈ ms, 0 ≤ p.2.2.1 ∧ p.2.2.1 < 256 ∧ 0 ≤ p.2.2.2 ∧ p.2.2.2 < 256
theorem refMachine_spec (n : Int) (ms : List Mv) (es : List Int) (h1 : ms.length * 24 ≤ 140737488351232) (hb : MvB ms) :
    ACall Try.prog 17 [mach n ms es] [] (fun r os => r = .agg [.int .i64 n, .sl 0, .rd 1 Int 0 (fun n => [.int .i64 n]) es] ∧ os = [.row 106 4 Mv mZ rEnc ms]) := by
  (refine ACall.of_body (nt := 36) (rs := [.cell 2 32]) tabOK Try.func17 rfl rfl rfl rfl ?_; simp only [startSt, List.length_cons, List.length_nil, Nat.reduceAdd, Nat.reduceSub, List.replicate_succ, List.replicate_zero, List.cons_append, List.nil_append])
  simp only [VCp, VC_region, VC_seq, VC_block, VC_loop, aops_nil, aops_cons, put_some, put_none, aop, qop, isQuiet, ASt.eval, ASt.ev, AV.strip, AV.need, AV.ac, AV.cells, AV.isTup, qlen, qfieldAddr, qload, qbuild, fillParts, structPlace, splice, needAll, ned, partsOf, fitAll, AC.fits, astore, newObj, ASt.setObj, ASt.obj, ofCells, TI.isAgg, avOf, acOf, eInt, eList, ePair, List.getD_cons_succ, List.getD_cons_zero, List.set_cons_succ, List.set_cons_zero, List.map_cons, List.map_nil, List.cons_append, List.nil_append, List.append_nil, List.length_cons, List.length_nil, List.drop_succ_cons, List.drop_zero, List.drop_nil, List.take_succ_cons, List.take_zero, List.take_nil, List.headD_cons, List.all_cons, List.all_nil, List.getElem?_cons_succ, List.getElem?_cons_zero, true_and, and_self, reduceCtorEq, not_false_eq_true, Bool.and_true, Nat.add_zero, Nat.zero_add, Nat.reduceAdd, Nat.reduceLeDiff, Nat.le_refl, eq_self, Nat.succ_ne_self, tab_3, tab_25, tab_26, tab_28, tab_32]
  refine LoopAt.adoptC 2 1 106 4 Mv mZ rEnc ?_ (fun x => rfl) ?_
  · simp only [isNilAt, ASt.obj, List.getD_cons_succ, List.getD_cons_zero, List.getElem?_cons_succ, List.getElem?_cons_zero]
  simp only [adoptC, newObj, ASt.setObj, ASt.obj, List.getD_cons_succ, List.getD_cons_zero, List.set_cons_succ, List.set_cons_zero, List.cons_append, List.nil_append, List.length_cons, List.length_nil, Nat.zero_add, Nat.reduceAdd]
  refine LoopAt.inv (ι := Nat) (T := tab) (fun i => [(14, .c (.int .i64 i))]) (fun i => [.cells 28 (mcells n ms es), .cells 32 [.int .i64 0, .nil, .nil], .cells 32 [.int .i64 n, .sl 3, .rd 1 Int 0 (fun n => [.int .i64 n]) es], .row 106 4 Mv mZ rEnc (ms.take i)])
    (fun i => i ≤ ms.length) (fun i => ms.length - i) tabOK 0 (Nat.zero_le _) ?_ ?_
  · (simp only [LessC, headSt, dsts, opDsts, resetS, putsS, lessS, lessO, belowS, belowO, AV.below, AObj.below, AC.below, List.set_cons_succ, List.set_cons_zero, List.cons_append, List.nil_append, List.append_nil, List.length_cons, List.length_nil, List.take_zero, List.all_cons, List.all_nil, Nat.reduceLT, Int.cast_ofNat_Int, AV.c.injEq, and_self, reduceCtorEq, Bool.and_true, Nat.zero_add, Nat.reduceAdd, Nat.reduceLeDiff, eq_self, decide_true, or_true] <;> try omega)
  intro i hi
  simp only [VCp, headSt, dsts, opDsts, resetS, putsS, ownSl, ownPart, appRows, VC_skip, VC_region, VC_seq, VC_cond, VC_block, VC_exit, VC_ret, aops_nil, aops_cons, put_some, put_none, aop, qop, isQuiet, ASt.eval, ASt.ev, AV.strip, AV.need, AV.ac, AV.cells, AV.isTup, qbin, binInt, qindexAddr, qfieldAddr, qload, qconvert, qbuild, fillParts, splice, needAll, ned, partsOf, fitAll, AC.fits, astore, abuildSlice, elems, setPart, appSrc, aappend, newObj, ASt.setObj, ASt.obj, ASt.map, frzRefs, AV.map, AObj.map, AC.kill, dvs, AC.dv, DV.ac, leD, leD1, ofCells, TI.isAgg, isScalar, avOf, acOf, eInt, eList, ePair, List.getD_cons_succ, List.getD_cons_zero, List.set_cons_succ, List.set_cons_zero, List.map_cons, List.map_nil, List.replicate_succ, List.replicate_zero, List.cons_append, List.nil_append, List.append_nil, List.length_cons, List.length_nil, List.drop_succ_cons, List.drop_zero, List.drop_nil, List.take_succ_cons, List.take_zero, List.take_nil, List.headD_cons, List.all_cons, List.all_nil, List.flatMap_cons, List.flatMap_nil, List.getElem?_cons_succ, List.getElem?_cons_zero, Nat.reduceLT, ↓ex_rfl, cast_eq, heq_eq_eq, DV.int.injEq, Int.toNat_natCast, decide_eq_true_eq, decide_eq_false_iff_not, Int.not_lt, true_and, and_true, and_self, reduceCtorEq, not_false_eq_true, Bool.and_true, cond_true, cond_false, beq_self_eq_true, if_true, Nat.add_zero, Nat.zero_add, Nat.reduceAdd, Nat.reduceMul, Nat.reduceBEq, Nat.reduceLeDiff, Nat.le_refl, eq_self, Nat.succ_ne_self, tab_3, tab_5, tab_25, tab_30, tab_32, tab_105, tab_106, mEnc]
  refine ⟨fun h => ?_, fun h => ?_⟩
  · have hi' : i < ms.length := by omega
    have hp := hb (ms.getD i mZ) (by simp [List.getD, hi'])
    refine ⟨by omega, ms.getD i mZ, ⟨rfl, rfl, i64_in _ (by omega), i64_in _ (by omega)⟩, rfl, ?_⟩
    rw [List.length_take, ← take_next ms i mZ hi']
    refine ⟨by omega, by omega, i + 1, by omega, by omega, ?_⟩
    (simp only [LessC, lessS, lessO, belowS, belowO, AV.below, AObj.below, AC.below, List.length_cons, List.length_nil, List.all_cons, List.all_nil, Nat.reduceLT, Int.cast_ofNat_Int, Int.natCast_add, AV.c.injEq, AC.int.injEq, true_and, and_true, and_self, reduceCtorEq, Bool.and_true, Nat.zero_add, Nat.reduceAdd, Nat.reduceLeDiff, eq_self, decide_true, or_true, or_false, false_or] <;> try omega)
    exact i64_in _ (by omega)
  · have : i = ms.length := by omega
    subst this
    rw [List.take_length]
    refine RetAt.keeping [3] (by decide) ?_ ?_ <;> simp only [resOf, tupOf, keepObjs, keepObjs, XObj.amap, ASt.eval, AV.need, AV.ac, qload, ASt.obj, AV.map, AObj.map, ofCells, TI.isAgg, findIx, AC.ren, eInt, eList, ePair, List.getD_cons_succ, List.getD_cons_zero, List.map_cons, List.map_nil, List.cons_append, List.nil_append, List.length_cons, List.length_nil, List.drop_zero, List.take_succ_cons, List.take_nil, and_self, reduceCtorEq, not_false_eq_true, cond_true, beq_self_eq_true, Nat.zero_add, Nat.reduceAdd, Nat.le_refl, eq_self, tab_32]
def msM : List Mv := [(0, 1, 97, 97), (1, 1, 98, 98)]
theorem machine_spec : ACall Try.prog 65 [] [] (fun r os => r = .agg [.int .i64 2, .sl 0, .sl 1] ∧ os = [.row 105 4 Mv mZ mEnc msM, .row 3 1 Int 0 (fun n => [.int .i64 n]) [1]]) := by
  (refine ACall.of_body (nt := 6) (rs := [.cell 0 28]) tabOK Try.func65 rfl rfl rfl rfl ?_; simp only [startSt, List.length_nil, Nat.reduceSub, List.replicate_succ, List.replicate_zero, List.nil_append])
  simp only [VCp, ownSl, ownPart, VC_region, VC_seq, VC_ret, aops_nil, aops_cons, put_some, put_none, aop, qop, isQuiet, ASt.eval, ASt.ev, AV.strip, AV.need, AV.ac, AV.cells, AV.isTup, qbuild, fillParts, structPlace, splice, needAll, ned, partsOf, fitAll, AC.fits, astore, abuildSlice, elems, setPart, newObj, ASt.setObj, ASt.obj, frzRefs, dvs, AC.dv, leD, leD1, avOf, acOf, eInt, eList, ePair, List.getD_cons_succ, List.getD_cons_zero, List.set_cons_succ, List.set_cons_zero, List.map_cons, List.map_nil, List.replicate_succ, List.replicate_zero, List.cons_append, List.nil_append, List.append_nil, List.length_cons, List.length_nil, List.drop_succ_cons, List.drop_zero, List.drop_nil, List.take_succ_cons, List.take_zero, List.all_cons, List.all_nil, List.flatMap_cons, List.flatMap_nil, List.getElem?_cons_succ, List.getElem?_cons_zero, Nat.reduceLT, DV.int.injEq, exists_eq_left', true_and, and_true, and_self, reduceCtorEq, not_false_eq_true, Bool.and_true, Nat.zero_add, Nat.reduceAdd, Nat.reduceMul, Nat.reduceLeDiff, Nat.le_refl, eq_self, Nat.succ_ne_self, tab_3, tab_5, tab_25, tab_26, tab_28, tab_105]
  refine ⟨(0, 1, 97, 97), ⟨rfl, rfl, rfl, rfl⟩, (1, 1, 98, 98), ⟨rfl, rfl, rfl, rfl⟩, ?_⟩
  refine RetAt.keeping [1, 2] (by decide) ?_ ?_ <;> simp only [resOf, tupOf, keepObjs, keepObjs, XObj.amap, ASt.eval, AV.need, AV.ac, qload, ASt.obj, AV.map, AObj.map, ofCells, TI.isAgg, findIx, AC.ren, eInt, eList, ePair, List.getD_cons_succ, List.getD_cons_zero, List.map_cons, List.map_nil, List.cons_append, List.nil_append, List.length_cons, List.length_nil, List.drop_zero, List.take_succ_cons, List.take_nil, true_and, and_self, reduceCtorEq, not_false_eq_true, cond_true, cond_false, beq_self_eq_true, Nat.zero_add, Nat.reduceAdd, Nat.reduceBEq, Nat.le_refl, eq_self, tab_28]
  rfl
theorem bit2 {i : Nat} (h : (2 : Nat).testBit i = true) : i = 1 := by
  have e : (2 : Nat) = 2 ^ 1 := rfl
  rw [e, Nat.testBit_two_pow] at h
  have : 1 = i := by simpa using h
  omega
theorem bit1 {i : Nat} (h : (1 : Nat).testBit i = true) : i = 0 := by
  have e : (1 : Nat) = 2 ^ 0 := rfl
  rw [e, Nat.testBit_two_pow] at h
  have : 0 = i := by simpa using h
  omega
theorem bit3 {i : Nat} (h : (3 : Nat).testBit i = true) : i = 0 ∨ i = 1 := by
  rcases Nat.lt_or_ge i 2 with h1 | h1
  · omega
  · exfalso
    have : (3 : Nat) < 2 ^ i := Nat.lt_of_lt_of_le (by decide : 3 < 2 ^ 2) (Nat.pow_le_pow_right (by decide) h1)
    rw [Nat.testBit_lt_two_pow this] at h
    cases h
theorem closL : Clos tgt frm msM (endsF [1]) 3 := by
  have e : endsF [1] = 2 := by decide
  rw [e]
  refine ⟨by decide, fun i h => by rw [bit2 h]; decide, by decide, fun C h0 hc i h => ?_⟩
  have h1 : C 1 := h0 1 (by decide)
  have h2 : C 0 := hc (0, 1, 97, 97) (by simp [msM]) h1
  rcases bit3 h with rfl | rfl
  · exact h2
  · exact h1
theorem closR : Clos frm tgt msM 1 3 := by
  refine ⟨by decide, fun i h => by rw [bit1 h]; decide, by decide, fun C h0 hc i h => ?_⟩
  have h1 : C 0 := h0 0 (by decide)
  have h2 : C 1 := hc (0, 1, 97, 97) (by simp [msM]) h1
  rcases bit3 h with rfl | rfl
  · exact h1
  · exact h2
theorem chkM : chk 2 msM [1] = 0 := by decide
set_option maxHeartbeats 4000000 in
theorem stands_spec : ACall Try.prog 16 [] [] (fun r os => r = .c (.bool true) ∧ os = []) := by
  (refine ACall.of_body (nt := 26) (rs := [.tmp 0]) tabOK Try.func16 rfl rfl rfl rfl ?_; simp only [startSt, List.length_nil, Nat.reduceSub, List.replicate_succ, List.replicate_zero, List.nil_append])
  simp only [VCp, VC_region, VC_seq, aops_nil, aops_cons, put_some, aop, qop, isQuiet, ASt.eval, AV.need, ned, avOf, acOf, List.set_cons_zero, List.map_nil, true_and]
  refine CallAt.plain machine_spec rfl ?_
  rintro r os ⟨rfl, rfl⟩
  simp only [ownPart, aops_cons, put_some, aop, isQuiet, ASt.eval, ASt.ev, AV.strip, AV.need, AV.ac, AV.cells, AV.isTup, needAll, ned, partsOf, fitAll, AC.fits, abuildSlice, elems, setPart, aconv, newObj, ASt.setObj, ASt.obj, ASt.map, ASt.freeze, frzRefs, AV.map, AObj.map, AC.frz, dvs, AC.dv, leD, leD1, isScalar, avOf, acOf, AC.ren, backIx, giveBack, afterCall, eInt, eList, List.getD_cons_succ, List.getD_cons_zero, List.set_cons_succ, List.set_cons_zero, List.map_cons, List.map_nil, List.replicate_succ, List.replicate_zero, List.cons_append, List.nil_append, List.append_nil, List.length_cons, List.length_nil, List.all_cons, List.all_nil, List.flatMap_cons, List.flatMap_nil, List.getElem?_nil, Nat.reduceLT, DV.int.injEq, exists_eq_left', true_and, and_true, and_self, not_false_eq_true, Bool.and_true, Bool.and_false, cond_true, cond_false, beq_self_eq_true, Nat.add_zero, Nat.zero_add, Nat.reduceAdd, Nat.reduceSub, Nat.reduceMul, Nat.reduceBEq, Nat.reduceLeDiff, eq_self, Nat.succ_ne_self, tab_5, tab_29]
  refine CallAt.view [0, 1] (gstands_spec 2 msM [1] [98, 98] (by decide) (by decide) (by decide)) rfl (fun r os h => ?_) ?_
  · obtain ⟨f, i, l, rfl, rfl, _⟩ := h
    exact ⟨by simp [AV.flat, AC.flat], fun _ h => by cases h⟩
  rintro r os ⟨f, i, l, rfl, rfl, _, hq⟩
  have hq := hq chkM
  have e1 : f = false := by
    cases f with
    | false => rfl
    | true =>
      obtain ⟨q, _, h⟩ := hq.first.1 rfl
      have : runF msM 1 [98, 98] = 0 := by decide
      rw [this] at h
      simp at h
  have e2 : i = true := hq.inside.2 ⟨3, 3, closL, closR, by decide⟩
  have e3 : l = true := hq.last.2 ⟨3, closR, by decide⟩
  subst e1 e2 e3
  rw [chkM]
  simp only [VC_region, VC_seq, VC_ret, aops_nil, aops_cons, put_some, qop, isQuiet, ASt.eval, AV.need, AV.ac, onG, guardOf, qbin, binInt, qpick, qpick0, qun, qextract, AV.map, isScalar, avOf, acOf, AC.ren, giveBack, afterCall, eInt, List.getD_cons_succ, List.getD_cons_zero, List.set_cons_succ, List.set_cons_zero, List.map_cons, List.map_nil, List.append_nil, List.length_cons, List.length_nil, List.headD_cons, List.getElem?_cons_succ, List.getElem?_cons_zero, Option.bind_some, implies_true, true_and, and_self, Bool.and_true, Bool.not_false, cond_true, beq_self_eq_true, Nat.zero_add, Nat.reduceAdd, eq_self, decide_true, tab_34]
  (refine RetAt.leaf ?_ ?_ <;> simp only [resOf, tupOf, ASt.eval, AV.strip, AV.need, AV.map, AC.ren, List.getD_cons_zero, and_self, eq_self])
theorem closL_ex {a b : Mv → Nat} {ms : List Mv} {m : Nat} (ho : ∀ p ∈ ms, b p < 32) (hm : m < 2 ^ 32) : ∃ q, Clos a b ms m q := by
  have key : ∀ (k q : Nat), 2 ^ 32 - q ≤ k → q < 2 ^ 32 → (∀ i, m.testBit i = true → q.testBit i = true) → (∀ C : Nat → Prop, (∀ i, m.testBit i = true → C i) → (∀ p ∈ ms, C (a p) → C (b p)) → ∀ i, q.testBit i = true → C i) → ∃ q, Clos a b ms m q := by
    intro k
    induction k with
    | zero => intro q h1 h2; omega
    | succ k ih =>
      intro q h1 h2 h3 h4
      by_cases hf : orF (fun p => q.testBit (a p)) b ms q = q
      · exact ⟨q, h2, h3, orF_fix hf, h4⟩
      · have h5 : q ≤ orF (fun p => q.testBit (a p)) b ms q := le_of_bits fun i h => orF_sub i h
        have h6 : orF (fun p => q.testBit (a p)) b ms q < 2 ^ 32 := orF_lt h2 ho
        refine ih _ (by omega) h6 (fun i h => orF_sub i (h3 i h)) fun C hC hcl i hbit => ?_
        rcases orF_bit.1 hbit with h | ⟨p, hp, g1, g2⟩
        · exact h4 C hC hcl i h
        · rw [← g2]; exact hcl p hp (h4 C hC hcl _ g1)
  exact key _ m (Nat.le_refl _) hm (fun i h => h) fun C h _ => h
theorem bool_eq {x y : Bool} (h : x = true ↔ y = true) : x = y := by
  cases x <;> cases y
  · rfl
  · exact h.2 rfl
  · exact (h.1 rfl).symm
  · rfl
/-- what the reference tells is what the program tells -/
theorem gram_agree {n : Int} {ms : List Mv} {es part : List Int} (hc : chk n ms es = 0) {a b c d f i l w : Bool} (hq : GramQ ms es part a b c) (hd : d = true ↔ runF ms 1 part &&& endsF es ≠ 0)
    (hr : RefSt n ms es part (Upto n.toNat es n.toNat 0 0) f i l w) : a = f ∧ b = i ∧ c = l ∧ d = w := by
  obtain ⟨g1, g2, g3, g4, g5, g6⟩ := chk_ok hc
  obtain ⟨m1, m2, m3, m4⟩ := chk_mok hc
  have ht : ∀ p ∈ ms, tgt p < n.toNat := fun p hp => by have := g4 p hp; unfold tgt; omega
  have hsw : ∀ s, s < n.toNat → Clos frm tgt ms (2 ^ s) (swN ms n.toNat (2 ^ s)) := fun s hs => swN_clos (by omega) m1 ht hs
  have hup : ∀ s t e, Upto n.toNat es n.toNat 0 0 s t e ↔ t < n.toNat ∧ s < n.toNat ∧ e ∈ es := fun s t e => by
    unfold Upto
    simp
  -- states that are reached are below n
  have hstep : ∀ (m : Nat) (c : Int) i, (stepF ms m c).testBit i = true → i < n.toNat := fun m c i h => by
    rcases orF_bit.1 h with h | ⟨p, hp, _, rfl⟩
    · simp at h
    · exact ht p hp
  have hrun : ∀ (m : Nat) (text : List Int) i, (∀ j, m.testBit j = true → j < n.toNat) → (runF ms m text).testBit i = true → i < n.toNat := by
    intro m text
    induction text generalizing m with
    | nil => intro i hm h; exact hm i h
    | cons c text ih => intro i hm h; exact ih (stepF ms m c) i (hstep m c) h
  have hone : ∀ {i : Nat}, (1 : Nat).testBit i = true → i < n.toNat := fun h => by rw [bit1 h]; omega
  -- runs are unions of runs from single states
  have hstU : ∀ (m : Nat) (c : Int) i, (stepF ms m c).testBit i = true ↔ ∃ s, m.testBit s = true ∧ (stepF ms (2 ^ s) c).testBit i = true := fun m c i => by
    unfold stepF
    constructor
    · intro h
      rcases orF_bit.1 h with h | ⟨p, hp, h1, h2⟩
      · simp at h
      · rw [Bool.and_eq_true] at h1
        exact ⟨frm p, h1.1, orF_bit.2 (.inr ⟨p, hp, by rw [Bool.and_eq_true, Nat.testBit_two_pow]; exact ⟨by simp, h1.2⟩, h2⟩)⟩
    · rintro ⟨s, h0, h⟩
      rcases orF_bit.1 h with h | ⟨p, hp, h1, h2⟩
      · simp at h
      · rw [Bool.and_eq_true, Nat.testBit_two_pow] at h1
        have e : s = frm p := by simpa using h1.1
        subst e
        exact orF_bit.2 (.inr ⟨p, hp, by rw [Bool.and_eq_true]; exact ⟨h0, h1.2⟩, h2⟩)
  have hrU : ∀ (text : List Int) (m : Nat) i, (runF ms m text).testBit i = true ↔ ∃ s, m.testBit s = true ∧ (wayF ms text s).testBit i = true := by
    intro text
    induction text with
    | nil =>
      intro m i
      constructor
      · intro h; exact ⟨i, h, by simp [wayF, runF]⟩
      · rintro ⟨s, h0, h⟩
        have : s = i := by simpa [wayF, runF, Nat.testBit_two_pow] using h
        subst this; exact h0
    | cons c text ih =>
      intro m i
      have e1 : runF ms m (c :: text) = runF ms (stepF ms m c) text := rfl
      rw [e1, ih]
      constructor
      · rintro ⟨s, h0, h⟩
        obtain ⟨t, h1, h2⟩ := (hstU m c s).1 h0
        refine ⟨t, h1, ?_⟩
        have e2 : wayF ms (c :: text) t = runF ms (stepF ms (2 ^ t) c) text := rfl
        rw [e2, ih]
        exact ⟨s, h2, h⟩
      · rintro ⟨t, h1, h⟩
        have e2 : wayF ms (c :: text) t = runF ms (stepF ms (2 ^ t) c) text := rfl
        rw [e2, ih] at h
        obtain ⟨s, h2, h3⟩ := h
        exact ⟨s, (hstU m c s).2 ⟨t, h1, h2⟩, h3⟩
  have h0n : 0 < n.toNat := by omega
  -- the closure towards the ends
  have hlead : ∀ q, Clos tgt frm ms (endsF es) q → ∀ t, t < n.toNat → (q.testBit t = true ↔ ∃ e ∈ es, refF n ms t e) := fun q hq t htn => by
    constructor
    · intro h
      have : t < n.toNat → ∃ e ∈ es, refF n ms t e := hq.least (fun t => t < n.toNat → ∃ e ∈ es, refF n ms t e) (fun i hi hin => by
        obtain ⟨e, he, rfl⟩ := (endsF_bit es i).1 hi
        exact ⟨e, he, (hsw _ hin).sub _ (by rw [Nat.testBit_two_pow]; simp)⟩) (fun p hp hC hin => by
        obtain ⟨e, he, h⟩ := hC (ht p hp)
        refine ⟨e, he, ?_⟩
        have hcl := hsw _ hin
        have hmv : (swN ms n.toNat (2 ^ frm p)).testBit (tgt p) = true := hcl.closed p hp (hcl.sub _ (by rw [Nat.testBit_two_pow]; simp))
        exact (hsw _ (ht p hp)).least (fun i => (swN ms n.toNat (2 ^ frm p)).testBit i = true) (fun i hi => by
          rw [Nat.testBit_two_pow] at hi
          have : tgt p = i := by simpa using hi
          rw [← this]; exact hmv) hcl.closed _ h) t h
      exact this htn
    · rintro ⟨e, he, h⟩
      have hback : ∀ i, (swN ms n.toNat (2 ^ t)).testBit i = true → q.testBit i = true → q.testBit t = true := fun i hi => (hsw t htn).least (fun i => q.testBit i = true → q.testBit t = true) (fun i hi hq' => by
          rw [Nat.testBit_two_pow] at hi
          have : t = i := by simpa using hi
          rw [this]; exact hq') (fun p hp hC hq' => hC (hq.closed p hp hq')) i hi
      exact hback e.toNat h (hq.sub _ ((endsF_bit es _).2 ⟨e, he, rfl⟩))
  have hany : ∀ a, Clos frm tgt ms 1 a → a = swN ms n.toNat (2 ^ 0) := fun a ha => ha.unique (hsw 0 h0n)
  have hin : ∀ {i : Nat}, (swN ms n.toNat (2 ^ 0)).testBit i = true → i < n.toNat := fun h => (hsw 0 h0n).least (fun i => i < n.toNat) (fun i hi => hone hi) (fun p hp _ => ht p hp) _ h
  have h00 : (swN ms n.toNat (2 ^ 0)).testBit 0 = true := (hsw 0 h0n).sub 0 (by decide)
  have ends : ∀ t, (endsF es).testBit t = true ↔ ∃ e ∈ es, (t : Int) = e := fun t => by
    rw [endsF_bit]
    constructor
    · rintro ⟨e, he, rfl⟩; exact ⟨e, he, by have := g5 e he; omega⟩
    · rintro ⟨e, he, h⟩; exact ⟨e, he, by omega⟩
  have w0 : ∀ t, (runF ms 1 part).testBit t = true ↔ (wayF ms part 0).testBit t = true := fun t => Iff.rfl
  refine ⟨bool_eq ?_, bool_eq ?_, bool_eq ?_, bool_eq ?_⟩
  · rw [hq.first, hr.first]
    constructor
    · rintro ⟨q, hcl, h⟩
      obtain ⟨t, h1, h2⟩ := and_ne.1 h
      have htn := hrun 1 part t (fun j hj => hone hj) h1
      obtain ⟨e, he, h3⟩ := (hlead q hcl t htn).1 h2
      exact ⟨0, t, e, (hup 0 t e).2 ⟨htn, h0n, he⟩, ⟨h1, h00⟩, rfl, h3⟩
    · rintro ⟨s, t, e, hu, ⟨h1, _⟩, rfl, h3⟩
      obtain ⟨htn, _, he⟩ := (hup _ t e).1 hu
      obtain ⟨q, hcl⟩ := closL_ex (a := tgt) (b := frm) m1.frm (endsF_lt m2)
      exact ⟨q, hcl, and_ne.2 ⟨t, h1, (hlead q hcl t htn).2 ⟨e, he, h3⟩⟩⟩
  · rw [hq.inside, hr.inside]
    constructor
    · rintro ⟨q, a, hcl, ha, h⟩
      obtain ⟨t, h1, h2⟩ := and_ne.1 h
      rw [hany a ha] at h1
      have htn := hrun _ part t (fun j hj => hin hj) h1
      obtain ⟨s, h4, h5⟩ := (hrU part _ t).1 h1
      obtain ⟨e, he, h3⟩ := (hlead q hcl t htn).1 h2
      exact ⟨s, t, e, (hup s t e).2 ⟨htn, hin h4, he⟩, ⟨h5, h4⟩, h3⟩
    · rintro ⟨s, t, e, hu, ⟨h1, h4⟩, h3⟩
      obtain ⟨htn, _, he⟩ := (hup s t e).1 hu
      obtain ⟨q, hcl⟩ := closL_ex (a := tgt) (b := frm) m1.frm (endsF_lt m2)
      exact ⟨q, _, hcl, hsw 0 h0n, and_ne.2 ⟨t, (hrU part _ t).2 ⟨s, h4, h1⟩, (hlead q hcl t htn).2 ⟨e, he, h3⟩⟩⟩
  · rw [hq.last, hr.last]
    constructor
    · rintro ⟨a, ha, h⟩
      obtain ⟨t, h1, h2⟩ := and_ne.1 h
      rw [hany a ha] at h1
      have htn := hrun _ part t (fun j hj => hin hj) h1
      obtain ⟨s, h4, h5⟩ := (hrU part _ t).1 h1
      obtain ⟨e, he, h3⟩ := (ends t).1 h2
      exact ⟨s, t, e, (hup s t e).2 ⟨htn, hin h4, he⟩, ⟨h5, h4⟩, h3⟩
    · rintro ⟨s, t, e, hu, ⟨h1, h4⟩, h3⟩
      obtain ⟨htn, _, he⟩ := (hup s t e).1 hu
      exact ⟨_, hsw 0 h0n, and_ne.2 ⟨t, (hrU part _ t).2 ⟨s, h4, h1⟩, (ends t).2 ⟨e, he, h3⟩⟩⟩
  · rw [hd, hr.whole]
    constructor
    · intro h
      obtain ⟨t, h1, h2⟩ := and_ne.1 h
      have htn := hrun 1 part t (fun j hj => hone hj) h1
      obtain ⟨e, he, h3⟩ := (ends t).1 h2
      exact ⟨0, t, e, (hup 0 t e).2 ⟨htn, h0n, he⟩, ⟨h1, h00⟩, rfl, h3⟩
    · rintro ⟨s, t, e, hu, ⟨h1, _⟩, rfl, h3⟩
      obtain ⟨htn, _, he⟩ := (hup _ t e).1 hu
      exact and_ne.2 ⟨t, h1, (ends t).2 ⟨e, he, h3⟩⟩
set_option maxHeartbeats 8000000 in
theorem gramStands_spec (n : Int) (ms : List Mv) (es part : List Int) (h1 : ms.length * 24 ≤ 140737488351232) (h2 : es.length < 9223372036854775807) (h3 : part.length < 9223372036854775807) (hb : MvB ms) (h8 : ∀ x ∈ part, 0 ≤ x ∧ x < 256) :
    ACall Try.prog 4 [mach n ms es, .c (.rd 1 Int 0 encU8 part)] [] (fun r os => r = .c (.bool true) ∧ os = []) := by
  (refine ACall.of_body (nt := 93) (rs := [.tmp 4]) tabOK Try.func4 rfl rfl rfl rfl ?_; simp only [startSt, List.length_cons, List.length_nil, Nat.reduceAdd, Nat.reduceSub, List.replicate_succ, List.replicate_zero, List.cons_append, List.nil_append])
  simp only [VCp, VC_region, VC_seq, aops_nil, aops_cons, put_some, aop, qop, isQuiet, ASt.eval, AV.need, AV.cells, AV.isTup, ned, AC.fits, newObj, avOf, acOf, eInt, eList, ePair, List.getD_cons_zero, List.set_cons_succ, List.set_cons_zero, List.map_nil, List.cons_append, List.nil_append, List.length_cons, List.length_nil, List.all_cons, List.all_nil, true_and, and_self, Bool.and_true, Nat.zero_add, Nat.reduceAdd, eq_self, tab_28]
  refine CallAt.plain stands_spec rfl ?_
  rintro r os ⟨rfl, rfl⟩
  simp only [VC_skip, VC_region, VC_seq, VC_cond, VC_ret, aops_nil, aops_cons, put_some, aop, qop, isQuiet, ASt.eval, ASt.ev, AV.strip, AV.need, AV.ac, AV.isTup, qun, qload, ned, ASt.obj, AV.map, ofCells, TI.isAgg, avOf, acOf, AC.ren, giveBack, afterCall, eInt, eList, ePair, List.getD_cons_succ, List.getD_cons_zero, List.set_cons_succ, List.set_cons_zero, List.map_cons, List.map_nil, List.cons_append, List.nil_append, List.append_nil, List.length_cons, List.length_nil, List.drop_zero, List.take_succ_cons, List.take_nil, true_and, and_self, forall_const, reduceCtorEq, false_implies, not_false_eq_true, Bool.false_eq_true, Bool.not_true, Nat.zero_add, Nat.reduceAdd, Nat.le_refl, eq_self, tab_28]
  refine CallAt.plain (refMachine_spec n ms es h1 hb) rfl ?_
  rintro r os ⟨rfl, rfl⟩
  simp only [VC_region, VC_seq, aops_nil, aops_cons, put_some, put_none, aop, qop, isQuiet, ASt.eval, ASt.ev, AV.strip, AV.need, AV.ac, AV.cells, AV.isTup, qload, splice, ned, AC.fits, astore, newObj, ASt.setObj, ASt.obj, AV.map, AObj.map, ofCells, TI.isAgg, AC.ren, backIx, giveBack, afterCall, eInt, eList, ePair, List.getD_cons_succ, List.getD_cons_zero, List.set_cons_succ, List.set_cons_zero, List.map_cons, List.map_nil, List.cons_append, List.nil_append, List.append_nil, List.length_cons, List.length_nil, List.drop_succ_cons, List.drop_zero, List.drop_nil, List.take_succ_cons, List.take_zero, List.take_nil, List.all_cons, List.all_nil, List.getElem?_nil, true_and, and_self, reduceCtorEq, not_false_eq_true, Bool.and_true, Nat.add_zero, Nat.zero_add, Nat.reduceAdd, Nat.reduceSub, Nat.le_refl, eq_self, tab_32]
  refine CallAt.view [1] (rcheck_spec n ms es (by omega) h2) rfl (fun r os h => by obtain ⟨rfl, rfl⟩ := h; exact ⟨trivial, fun _ h => by cases h⟩) ?_
  rintro r os ⟨rfl, rfl⟩
  simp only [VC_region, VC_seq, aops_nil, aops_cons, put_some, aop, qop, isQuiet, ASt.eval, ASt.ev, AV.strip, AV.need, AV.ac, AV.isTup, qload, ned, ASt.obj, AV.map, ofCells, TI.isAgg, AC.ren, giveBack, afterCall, eInt, eList, ePair, List.getD_cons_succ, List.getD_cons_zero, List.set_cons_succ, List.set_cons_zero, List.map_cons, List.map_nil, List.cons_append, List.nil_append, List.append_nil, List.length_cons, List.length_nil, List.drop_zero, List.take_succ_cons, List.take_nil, true_and, and_self, reduceCtorEq, not_false_eq_true, Nat.zero_add, Nat.reduceAdd, Nat.le_refl, eq_self, tab_28]
  refine CallAt.plain (gstands_spec n ms es part (by omega) h2 h3) rfl ?_
  rintro r os ⟨a, b, c, rfl, rfl, hn, hq⟩
  simp only [VC_region, VC_seq, aops_nil, aops_cons, put_some, aop, qop, isQuiet, ASt.eval, ASt.ev, AV.strip, AV.need, AV.ac, AV.isTup, qload, qextract, ned, ASt.obj, AV.map, ofCells, TI.isAgg, AC.ren, giveBack, afterCall, eInt, eList, ePair, List.getD_cons_succ, List.getD_cons_zero, List.set_cons_succ, List.set_cons_zero, List.map_cons, List.map_nil, List.cons_append, List.nil_append, List.append_nil, List.length_cons, List.length_nil, List.drop_zero, List.take_succ_cons, List.take_nil, List.headD_cons, List.getElem?_cons_succ, List.getElem?_cons_zero, true_and, and_self, reduceCtorEq, not_false_eq_true, Nat.zero_add, Nat.reduceAdd, Nat.le_refl, eq_self, tab_28]
  refine CallAt.plain (accepts_spec n ms es part (by omega) h2 h3) rfl ?_
  rintro r os ⟨d, rfl, rfl, hn2, hd⟩
  simp only [VC_region, VC_seq, aops_nil, aops_cons, put_some, aop, qop, isQuiet, ASt.eval, ASt.ev, AV.strip, AV.need, AV.ac, AV.isTup, qload, qextract, ned, ASt.obj, AV.map, ofCells, TI.isAgg, AC.ren, giveBack, afterCall, eInt, eList, ePair, List.getD_cons_succ, List.getD_cons_zero, List.set_cons_succ, List.set_cons_zero, List.map_cons, List.map_nil, List.cons_append, List.nil_append, List.append_nil, List.length_cons, List.length_nil, List.drop_zero, List.take_succ_cons, List.take_nil, List.headD_cons, List.getElem?_cons_succ, List.getElem?_cons_zero, true_and, and_self, reduceCtorEq, not_false_eq_true, Nat.zero_add, Nat.reduceAdd, Nat.le_refl, eq_self, tab_28]
  refine CallAt.plain (check_spec n ms es (by omega) h2) rfl ?_
  rintro r os ⟨rfl, rfl⟩
  simp only [VC_skip, VC_region, VC_seq, VC_cond, VC_ret, aops_nil, aops_cons, put_some, aop, qop, isQuiet, ASt.eval, ASt.ev, AV.strip, AV.need, AV.ac, AV.isTup, onG, guardOf, qbin, binInt, qpick, qpick0, qun, qload, ned, ASt.obj, AV.map, ofCells, TI.isAgg, isScalar, avOf, acOf, AC.ren, giveBack, afterCall, eInt, eList, ePair, List.getD_cons_succ, List.getD_cons_zero, List.set_cons_succ, List.set_cons_zero, List.map_cons, List.map_nil, List.cons_append, List.nil_append, List.append_nil, List.length_cons, List.length_nil, List.drop_zero, List.take_succ_cons, List.take_nil, List.getElem?_cons_succ, List.getElem?_cons_zero, Option.bind_some, implies_true, imp_self, beq_true, decide_eq_false_iff_not, Bool.not_eq_true', Bool.cond_false_right, Bool.and_eq_true, true_and, and_self, forall_const, reduceCtorEq, false_implies, not_false_eq_true, Bool.and_true, Bool.true_and, Bool.false_eq_true, Bool.not_true, Bool.not_false, cond_false, beq_self_eq_true, Nat.zero_add, Nat.reduceAdd, Nat.le_refl, eq_self, decide_true, tab_32, tab_34]
  refine ⟨fun hc => ?_, fun hc => ?_⟩
  · obtain ⟨rfl, rfl, rfl⟩ := hn hc
    have := hn2 hc
    subst this
    (refine RetAt.leaf ?_ ?_ <;> simp only [resOf, tupOf, ASt.eval, AV.strip, AV.need, AV.map, AC.ren, List.getD_cons_succ, List.getD_cons_zero, and_self, Bool.and_true, Bool.not_false, eq_self])
  · have hc : chk n ms es = 0 := by simpa using hc
    have hq := hq hc
    have hd := hd hc
    refine CallAt.view [1] (rstands_spec n ms es part hc h3 h8) rfl (fun r os h => ?_) ?_
    · obtain ⟨f, i, l, w, rfl, rfl, _⟩ := h
      exact ⟨by simp [AV.flat, AC.flat], fun _ h => by cases h⟩
    rintro r os ⟨f, i, l, w, rfl, rfl, hr⟩
    obtain ⟨rfl, rfl, rfl, rfl⟩ := gram_agree hc hq hd hr
    simp only [VC_region, VC_seq, VC_ret, aops_nil, aops_cons, put_some, qop, isQuiet, ASt.eval, AV.need, AV.ac, onG, guardOf, qbin, binBool, qpick, qpick0, qextract, AV.map, isScalar, avOf, acOf, AC.ren, giveBack, afterCall, eBool, List.getD_cons_succ, List.getD_cons_zero, List.set_cons_succ, List.set_cons_zero, List.map_cons, List.map_nil, List.append_nil, List.length_cons, List.length_nil, List.headD_cons, List.getElem?_cons_succ, List.getElem?_cons_zero, Option.bind_some, implies_true, true_and, and_self, Bool.and_true, cond_true, beq_self_eq_true, Nat.zero_add, Nat.reduceAdd, eq_self, tab_4]
    (refine RetAt.leaf ?_ ?_ <;> simp only [resOf, tupOf, ASt.eval, AV.strip, AV.need, AV.map, AC.ren, List.getD_cons_succ, List.getD_cons_zero, and_self, eq_self])
end Go.Vc
