/- The reference's Show. -/
import Derived.Test.YtmikejeohdleeaaHH
set_option linter.unusedVariables false
set_option linter.unusedSimpArgs false
namespace Go.Vc
open Go.Proofs Go.IntWalk
set_option maxRecDepth 100000
theorem PathR.flat {t : Option (List Int)} {cf : Nat} {ef : SE} : ∀ (r : AV) (os : List AObj), PathR t cf ef r os → r.flat ∧ ∀ ob ∈ os, ob.flat := by
  intro r os h
  have hS : (setO cf ef).flat := fun e _ d hd => by simp at hd; subst hd; exact trivial
  unfold PathR at h
  cases t with
  | none =>
    obtain ⟨rfl, rfl⟩ := h
    refine ⟨?_, fun ob ho => by simp at ho; subst ho; exact hS⟩
    intro p hp x hx
    simp at hp
    rcases hp with rfl | rfl <;> (simp at hx; subst hx; exact trivial)
  | some text =>
    obtain ⟨rfl, rfl⟩ := h
    refine ⟨?_, fun ob ho => ?_⟩
    · intro p hp x hx
      simp at hp
      rcases hp with rfl | rfl <;> (simp at hx; subst hx; exact trivial)
    · simp at ho
      rcases ho with rfl | rfl
      · exact hS
      · intro x _ d hd
        simp at hd
        subst hd
        exact trivial
def HitT (n : Nat) (ms : List Mv) (es part : List Int) (s t : Nat) : Prop := ∃ t', t' < t ∧ (wayF ms part s).testBit t' = true ∧ swN ms n (2 ^ t') &&& endsF es ≠ 0
theorem HitT.next {n : Nat} {ms : List Mv} {es part : List Int} {s t : Nat} : HitT n ms es part s (t + 1) ↔ HitT n ms es part s t ∨ ((wayF ms part s).testBit t = true ∧ swN ms n (2 ^ t) &&& endsF es ≠ 0) := by
  constructor
  · rintro ⟨t', h1, h2⟩
    by_cases e : t' = t
    · subst e; exact .inr h2
    · exact .inl ⟨t', by omega, h2⟩
  · rintro (⟨t', h1, h2⟩ | h)
    · exact ⟨t', by omega, h2⟩
    · exact ⟨t, by omega, h⟩
theorem HitT.zero {n : Nat} {ms : List Mv} {es part : List Int} {s : Nat} : ¬ HitT n ms es part s 0 := by rintro ⟨t', h, _⟩; omega
theorem and_or_ne {x v i : Nat} : x &&& (v ||| 2 ^ i) ≠ 0 ↔ x &&& v ≠ 0 ∨ x.testBit i = true := by
  rw [and_ne, and_ne]
  constructor
  · rintro ⟨j, h1, h2⟩
    rw [Nat.testBit_or, Bool.or_eq_true, Nat.testBit_two_pow, decide_eq_true_eq] at h2
    rcases h2 with h2 | rfl
    · exact .inl ⟨j, h1, h2⟩
    · exact .inr h1
  · rintro (⟨j, h1, h2⟩ | h)
    · exact ⟨j, h1, by rw [Nat.testBit_or, h2]; rfl⟩
    · exact ⟨i, h, by rw [Nat.testBit_or, Nat.testBit_two_pow]; simp⟩
theorem HitT.full {n : Nat} {ms : List Mv} {es part : List Int} {s q : Nat} (hn : n ≤ 32) (ho : MOK ms) (ht : ∀ p ∈ ms, tgt p < n) (he : ∀ i, (endsF es).testBit i = true → i < n) (hq : Clos tgt frm ms (endsF es) q) (hs : s < n) :
    HitT n ms es part s n ↔ runF ms (2 ^ s) part &&& q ≠ 0 := by
  constructor
  · rintro ⟨t, h1, h2, h3⟩
    exact and_ne.2 ⟨t, h2, (lead_iff hn ho ht he hq h1).2 h3⟩
  · intro h
    obtain ⟨t, h1, h2⟩ := and_ne.1 h
    have htn : t < n := runF_below ht (fun i hi => by rw [Nat.testBit_two_pow] at hi; have : s = i := by simpa using hi
                                                      omega) part t h1
    exact ⟨t, htn, h1, (lead_iff hn ho ht he hq htn).1 h2⟩
def hereV (ms : List Mv) (R1 : Nat) (part : List Int) (v : Nat) : Nat := runF ms (R1 &&& v) part
theorem hereV_zero {ms : List Mv} {R1 : Nat} {part : List Int} : hereV ms R1 part 0 = 0 := by
  apply Nat.eq_of_testBit_eq
  intro i
  rw [Nat.zero_testBit]
  cases h : (hereV ms R1 part 0).testBit i with
  | false => rfl
  | true =>
    unfold hereV at h
    rw [Nat.and_zero, runF_union] at h
    obtain ⟨s, h1, _⟩ := h
    simp at h1
theorem hereV_next {n : Nat} {ms : List Mv} {R1 : Nat} {part : List Int} {v s : Nat} (ht : ∀ p ∈ ms, tgt p < n) (hs : s < n) :
    hereV ms R1 part v ||| maskOf (fun i => R1.testBit s && (wayF ms part s).testBit i) n = hereV ms R1 part (v ||| 2 ^ s) := by
  apply Nat.eq_of_testBit_eq
  intro i
  refine Bool.eq_iff_iff.2 ?_
  rw [Nat.testBit_or, Bool.or_eq_true, maskOf_bit]
  unfold hereV
  rw [runF_union, runF_union]
  simp only [Bool.and_eq_true, decide_eq_true_eq, Nat.testBit_and, Nat.testBit_or, Bool.or_eq_true, Nat.testBit_two_pow]
  constructor
  · rintro (⟨s', ⟨h1, h2⟩, h3⟩ | ⟨_, h1, h2⟩)
    · exact ⟨s', ⟨h1, .inl h2⟩, h3⟩
    · exact ⟨s, ⟨h1, .inr rfl⟩, h2⟩
  · rintro ⟨s', ⟨h1, h2 | rfl⟩, h3⟩
    · exact .inl ⟨s', ⟨h1, h2⟩, h3⟩
    · exact .inr ⟨runF_below ht (fun i hi => by rw [Nat.testBit_two_pow] at hi; have : s = i := by simpa using hi
                                                omega) part i h3, h1, h3⟩
def RShowQ (t : Option (List Int)) (r : AV) (os : List AObj) : Prop :=
  match t with
  | none => r = .tup [(false, [.nil]), (false, [.bool false])] ∧ os = []
  | some text => r = .tup [(false, [.sl 0]), (false, [.bool true])] ∧ os = [rowU text]
set_option maxHeartbeats 16000000 in
theorem rshow_spec (n : Int) (ms : List Mv) (es part : List Int) (hc : chk n ms es = 0) (hb : ∀ p ∈ ms, 0 ≤ p.2.2.1 ∧ p.2.2.1 ≤ p.2.2.2 ∧ p.2.2.2 < 256) (h3 : part.length ≤ 140737488351232) (h8 : ∀ x ∈ part, 0 ≤ x ∧ x < 256) (q : Nat) (hq : Clos tgt frm ms (endsF es) q) :
    ACall Try.prog 47 [rmach n ms es, .c (.rd 1 Int 0 encU8 part)] [] (RShowQ (showF n.toNat ms es part q)) := by
  obtain ⟨g1, g2, g3, g4, g5, g6⟩ := chk_ok hc
  obtain ⟨m1, m2, m3, m4⟩ := chk_mok hc
  have hok := frm_ok g4
  have htn : ∀ p ∈ ms, tgt p < n.toNat := fun p hp => (hok p hp).2
  have heb : ∀ i, (endsF es).testBit i = true → i < n.toNat := fun i hi => by
    obtain ⟨e, he, rfl⟩ := (endsF_bit es i).1 hi
    have := g5 e he
    omega
  have hb1 : Below n.toNat 1 := fun i hi => by have := bit1 hi; omega
  (refine ACall.of_body (nt := 132) (rs := [.tmp 4, .tmp 5]) tabOK Try.func47 rfl rfl rfl rfl ?_; simp only [startSt, List.length_cons, List.length_nil, Nat.reduceAdd, Nat.reduceSub, List.replicate_succ, List.replicate_zero, List.cons_append, List.nil_append])
  simp only [VCp, VC_region, VC_draw, VC_seq, aops_nil, aops_cons, put_some, aop, qop, isQuiet, ASt.eval, AV.need, AV.cells, AV.isTup, ned, AC.fits, newObj, avOf, acOf, eInt, eList, ePair, List.getD_cons_zero, List.set_cons_succ, List.set_cons_zero, List.cons_append, List.nil_append, List.length_cons, List.length_nil, List.all_cons, List.all_nil, true_and, and_self, Bool.and_true, cond_true, beq_self_eq_true, Nat.zero_add, Nat.reduceAdd, eq_self, tab_32]
  refine DrawAt.fix 0 ?_
  simp only [ASt.fix, AC.fixp, ASt.setObj, ASt.obj, ASt.map, AV.map, AObj.map, dvs, AC.dv, List.getD_cons_zero, List.set_cons_zero, List.map_cons, List.map_nil, List.drop_zero, cond_true, beq_self_eq_true]
  refine DrawAt.plan tabOK mixed (.take 0 false (.take 1 false (.take 3 false (.alt 2 (.alt 4 (.take 5 true (.take 6 true .done)) .stop) .stop)))) (by decide +kernel) ?_
  simp only [avc_stop, avc_take, avc_alt, qstep, lstep, ownLoad, put_n0, put_some, aop, qop, isQuiet, ASt.eval, ASt.ev, AV.strip, AV.need, AV.ac, AV.isTup, qload, ned, DV.ac, ofCells, TI.isAgg, eInt, eList, ePair, List.getD_cons_succ, List.getD_cons_zero, List.set_cons_succ, List.set_cons_zero, List.map_cons, List.map_nil, List.cons_append, List.nil_append, List.length_cons, List.length_nil, List.take_succ_cons, List.take_nil, List.getElem?_cons_succ, List.getElem?_cons_zero, true_and, and_true, and_self, reduceCtorEq, not_false_eq_true, Bool.false_eq_true, Nat.zero_add, Nat.reduceAdd, Nat.le_refl, eq_self, or_true, tab_32]
  refine CallAt.plain (ways_spec n ms es part ⟨g1, g2⟩ g4 g3 (by omega) h8) rfl ?_
  rintro r os ⟨rfl, rfl⟩
  simp only [XObj.amap, avc_stop, avc_alt, lstep, put_n0, put_some, aop, isQuiet, ASt.eval, ASt.ev, AV.strip, AV.need, AV.isTup, ned, AV.map, AObj.map, AC.ren, backIx, giveBack, afterCall, List.getD_cons_succ, List.getD_cons_zero, List.set_cons_succ, List.set_cons_zero, List.map_cons, List.map_nil, List.cons_append, List.nil_append, List.length_cons, List.length_nil, List.getElem?_cons_succ, List.getElem?_cons_zero, List.getElem?_nil, true_and, and_true, and_self, Nat.add_zero, Nat.zero_add, Nat.reduceSub, eq_self]
  refine CallAt.plain (any_spec n ms es ⟨g1, g2⟩ g4 g3) rfl ?_
  rintro r os ⟨rfl, rfl⟩
  simp only [kshOf, amakeMap, XObj.amap, avc_done, avc_take, qstep, ownLoad, VC_region, VC_seq, VC_block, VC_loop, aops_nil, aops_cons, put_some, aop, qop, isQuiet, ASt.eval, AV.need, AV.ac, qlen, qfieldAddr, qload, newObj, AV.map, AObj.map, DV.ac, ofCells, TI.isAgg, avOf, acOf, AC.ren, backIx, giveBack, afterCall, eInt, eBool, eList, ePair, List.getD_cons_succ, List.getD_cons_zero, List.set_cons_succ, List.set_cons_zero, List.map_cons, List.map_nil, List.cons_append, List.nil_append, List.length_cons, List.length_nil, List.drop_succ_cons, List.drop_zero, List.take_succ_cons, List.take_nil, List.headD_cons, List.getElem?_cons_succ, List.getElem?_cons_zero, List.getElem?_nil, true_and, and_self, reduceCtorEq, not_false_eq_true, Nat.add_zero, Nat.zero_add, Nat.reduceAdd, Nat.reduceSub, Nat.le_refl, eq_self, Nat.succ_ne_self, or_true, tab_3, tab_4, tab_26, tab_32, tab_57]
  refine LoopAt.inv (ι := Nat × Nat × SE) (T := tab) (fun x => [(33, .c (.int .i64 x.1))]) (fun x => [.gone, rowsB (mat n.toNat (wayF ms part)), rowsB (mat n.toNat (fun s => swN ms n.toNat (2 ^ s))), setO 0 [], setO x.2.1 x.2.2])
    (fun x => x.1 ≤ es.length ∧ SetM x.2.2 (endsF (es.take x.1))) (fun x => es.length - x.1) tabOK (0, 0, []) ⟨Nat.zero_le _, SetM.empty⟩ ?_ ?_
  · (simp only [LessC, headSt, dsts, opDsts, resetS, putsS, lessS, lessO, belowS, belowO, AV.below, AObj.below, AC.below, XObj.below, List.set_cons_succ, List.set_cons_zero, List.cons_append, List.nil_append, List.append_nil, List.length_cons, List.length_nil, List.all_cons, List.all_nil, Nat.reduceLT, Int.cast_ofNat_Int, AV.c.injEq, and_self, reduceCtorEq, Bool.and_true, Nat.zero_add, Nat.reduceAdd, Nat.reduceLeDiff, eq_self, decide_true, or_true] <;> try omega)
  rintro ⟨i, ce, ee⟩ ⟨hi, hE⟩
  dsimp only at hi hE
  simp only [VCp, headSt, dsts, opDsts, resetS, putsS, keyOf, kshOf, AV.isA, amapUpdate, VC_skip, VC_region, VC_seq, VC_cond, VC_block, VC_loop, VC_exit, aops_nil, aops_cons, put_some, put_none, aop, qop, isQuiet, ASt.eval, ASt.ev, AV.strip, AV.need, AV.ac, AV.cells, AV.isTup, qbin, binInt, qindexAddr, qfieldAddr, qload, ned, ASt.setObj, ASt.obj, frzRefs, dvs, AC.dv, DV.ac, leD, leD1, ofCells, TI.isAgg, isScalar, avOf, acOf, eInt, eList, ePair, List.getD_cons_succ, List.getD_cons_zero, List.set_cons_succ, List.set_cons_zero, List.map_cons, List.map_nil, List.cons_append, List.nil_append, List.append_nil, List.length_cons, List.length_nil, List.drop_zero, List.take_succ_cons, List.take_zero, List.take_nil, List.headD_cons, List.getElem?_cons_zero, DV.bool.injEq, exists_eq_left', Int.toNat_natCast, decide_eq_true_eq, decide_eq_false_iff_not, Int.not_lt, true_and, and_true, and_self, not_false_eq_true, if_true, Nat.zero_add, Nat.reduceAdd, Nat.reduceLeDiff, Nat.le_refl, eq_self, Nat.succ_ne_self, tab_3, tab_26, tab_32, tab_57]
  refine ⟨fun h => ?_, fun h => ?_⟩
  · have hi' : i < es.length := by omega
    obtain ⟨e1, e2⟩ := m2.at hi'
    refine ⟨⟨by omega, by omega⟩, (i + 1, mtick ce ee (kI (es.getD i 0)), mput ce ee (kI (es.getD i 0)) true), ⟨by dsimp only; omega, ?_⟩, by dsimp only; omega, ?_⟩
    · dsimp only
      rw [take_next es i 0 hi', endsF_snoc]
      exact hE.put ce _ e1
    · (simp only [LessC, lessS, lessO, belowS, belowO, AV.below, AObj.below, AC.below, XObj.below, List.length_cons, List.length_nil, List.all_cons, List.all_nil, Nat.reduceLT, Int.cast_ofNat_Int, Int.natCast_add, AV.c.injEq, AC.int.injEq, true_and, and_true, and_self, reduceCtorEq, Bool.and_true, Nat.zero_add, Nat.reduceAdd, Nat.reduceLeDiff, eq_self, decide_true, or_true, or_false, false_or] <;> try omega)
      exact i64_in _ (by omega)
  have : i = es.length := by omega
  subst this
  rw [List.take_length] at hE
  refine LoopAt.inv (ι := Nat × Nat × SE) (T := tab) (fun x => [(42, .c (.int .i64 x.1))]) (fun x => [.gone, rowsB (mat n.toNat (wayF ms part)), rowsB (mat n.toNat (fun s => swN ms n.toNat (2 ^ s))), setO x.2.1 x.2.2, setO ce ee])
    (fun x => x.1 ≤ n.toNat ∧ SetM x.2.2 (goodF x.1 ms part q)) (fun x => n.toNat - x.1) tabOK (0, 0, []) ⟨Nat.zero_le _, SetM.empty⟩ ?_ ?_
  · (simp only [LessC, headSt, dsts, opDsts, resetS, putsS, lessS, lessO, belowS, belowO, AV.below, AObj.below, AC.below, XObj.below, List.set_cons_succ, List.set_cons_zero, List.cons_append, List.nil_append, List.append_nil, List.length_cons, List.length_nil, List.all_cons, List.all_nil, Nat.reduceLT, Int.cast_ofNat_Int, AV.c.injEq, and_self, reduceCtorEq, Bool.and_true, Nat.zero_add, Nat.reduceAdd, Nat.reduceLeDiff, eq_self, decide_true, or_true] <;> try omega)
  rintro ⟨s, cg, gg⟩ ⟨hs, hGd⟩
  dsimp only at hs hGd
  simp only [VCp, headSt, dsts, opDsts, resetS, putsS, keyOf, kshOf, amakeMap, AV.isA, amapUpdate, VC_skip, VC_region, VC_seq, VC_cond, VC_block, VC_loop, VC_exit, aops_nil, aops_cons, put_some, put_none, aop, qop, isQuiet, ASt.eval, ASt.ev, AV.strip, AV.need, AV.ac, AV.cells, AV.isTup, qbin, binInt, qfieldAddr, qload, ned, newObj, ASt.setObj, ASt.obj, frzRefs, dvs, AC.dv, DV.ac, leD, leD1, ofCells, TI.isAgg, isScalar, avOf, acOf, eInt, eBool, eList, ePair, List.getD_cons_succ, List.getD_cons_zero, List.set_cons_succ, List.set_cons_zero, List.map_cons, List.map_nil, List.cons_append, List.nil_append, List.append_nil, List.length_cons, List.length_nil, List.drop_zero, List.take_succ_cons, List.take_zero, List.take_nil, List.headD_cons, List.getElem?_cons_zero, DV.bool.injEq, exists_eq_left', decide_eq_true_eq, decide_eq_false_iff_not, Int.not_lt, true_and, and_true, and_self, reduceCtorEq, not_false_eq_true, if_true, Nat.zero_add, Nat.reduceAdd, Nat.reduceLeDiff, Nat.le_refl, eq_self, Nat.succ_ne_self, tab_3, tab_4, tab_32, tab_57]
  refine ⟨fun h => ?_, fun h => ?_⟩
  · have hs' : s < n.toNat := by omega
    refine LoopAt.inv (ι := Nat × Nat × SE × Bool) (T := tab) (fun x => [(47, .c (.int .i64 x.1))]) (fun x => [.gone, rowsB (mat n.toNat (wayF ms part)), rowsB (mat n.toNat (fun s => swN ms n.toNat (2 ^ s))), setO x.2.1 x.2.2.1, setO ce ee])
      (fun x => x.1 ≤ n.toNat ∧ SetM x.2.2.1 (goodF s ms part q ||| bitIf x.2.2.2 s) ∧ (x.2.2.2 = true ↔ HitT n.toNat ms es part s x.1)) (fun x => n.toNat - x.1) tabOK (0, cg, gg, false) ⟨Nat.zero_le _, ?_, ?_⟩ ?_ ?_
    · simpa [bitIf] using hGd
    · dsimp only
      exact ⟨fun h => (by cases h), fun h => absurd h HitT.zero⟩
    · (simp only [LessC, headSt, dsts, opDsts, resetS, putsS, lessS, lessO, belowS, belowO, AV.below, AObj.below, AC.below, XObj.below, List.set_cons_succ, List.set_cons_zero, List.cons_append, List.nil_append, List.append_nil, List.length_cons, List.length_nil, List.all_cons, List.all_nil, Nat.reduceLT, Int.cast_ofNat_Int, AV.c.injEq, and_self, reduceCtorEq, Bool.and_true, Nat.zero_add, Nat.reduceAdd, Nat.reduceLeDiff, eq_self, decide_true, or_true] <;> try omega)
    rintro ⟨t, cg2, gg2, b⟩ ⟨ht, hGd2, hbq⟩
    dsimp only at ht hGd2 hbq
    simp only [VCp, headSt, dsts, opDsts, resetS, putsS, keyOf, kshOf, amakeMap, AV.isA, amapUpdate, arange, VC_skip, VC_region, VC_seq, VC_cond, VC_block, VC_loop, VC_exit, aops_nil, aops_cons, put_some, put_none, aop, qop, isQuiet, ASt.eval, ASt.ev, AV.strip, AV.need, AV.ac, AV.cells, AV.isTup, qbin, binInt, qload, ned, newObj, ASt.setObj, ASt.obj, frzRefs, dvs, AC.dv, DV.ac, leD, leD1, ofCells, TI.isAgg, isScalar, avOf, acOf, eInt, eBool, eList, ePair, List.getD_cons_succ, List.getD_cons_zero, List.set_cons_succ, List.set_cons_zero, List.map_cons, List.map_nil, List.cons_append, List.nil_append, List.append_nil, List.length_cons, List.length_nil, List.take_succ_cons, List.take_nil, DV.bool.injEq, exists_eq_left', decide_eq_true_eq, decide_eq_false_iff_not, Int.not_lt, true_and, and_true, and_self, reduceCtorEq, not_false_eq_true, if_true, if_false, Nat.zero_add, Nat.reduceAdd, Nat.reduceEqDiff, Nat.le_refl, eq_self, Nat.succ_ne_self, tab_3, tab_4, tab_32, tab_57]
    refine ⟨fun h => ?_, fun h => ?_⟩
    · have ht' : t < n.toNat := by omega
      refine LoopAt.inv (ι := Nat × SE × Bool × List Nat × Nat) (T := tab) (fun x => []) (fun x => [.gone, rowsB (mat n.toNat (wayF ms part)), rowsB (mat n.toNat (fun s => swN ms n.toNat (2 ^ s))), setO x.1 x.2.1, setO ce ee, .ext (.iter (.xr 4 .self) ce x.2.2.2.1 ce)])
        (fun x => SetM x.2.1 (goodF s ms part q ||| bitIf x.2.2.1 s) ∧ (x.2.2.1 = true ↔ HitT n.toNat ms es part s t ∨ ((wayF ms part s).testBit t = true ∧ swN ms n.toNat (2 ^ t) &&& x.2.2.2.2 ≠ 0)) ∧ GoneM ee (endsF es) x.2.2.2.1 x.2.2.2.2) (fun x => 32 - cnt 32 x.2.2.2.2) tabOK
        (cg2, gg2, b, [], 0) ⟨hGd2, ?_, GoneM.zero⟩ ?_ ?_
      · dsimp only
        rw [hbq, Nat.and_zero]
        exact ⟨.inl, fun h => h.elim id fun h => absurd rfl h.2⟩
      · (simp only [LessC, headSt, dsts, opDsts, resetS, putsS, lessS, lessO, belowS, belowO, AV.below, AObj.below, AC.below, XObj.below, List.set_cons_succ, List.set_cons_zero, List.cons_append, List.nil_append, List.append_nil, List.length_cons, List.length_nil, List.all_cons, List.all_nil, Nat.reduceLT, AV.c.injEq, and_self, reduceCtorEq, Bool.and_true, Nat.zero_add, Nat.reduceAdd, Nat.reduceLeDiff, eq_self, decide_true, or_true] <;> try omega)
      rintro ⟨c3, g3', b3, seen, v⟩ ⟨hm, hb3, hG⟩
      dsimp only at hm hb3 hG
      simp only [VCp, headSt, dsts, opDsts, resetS, putsS, keyOf, kshOf, qentry, amakeMap, AV.isA, amapUpdate, anext, VC_skip, VC_region, VC_seq, VC_cond, VC_block, VC_exit, aops_nil, aops_cons, put_some, put_none, aop, qop, isQuiet, ASt.eval, ASt.ev, AV.strip, AV.need, AV.ac, AV.cells, AV.isTup, onG, guardOf, qbin, binInt, qpick, qpick0, qindexAddr, qload, qextract, ned, newObj, ASt.setObj, ASt.obj, frzRefs, dvs, AC.dv, DV.ac, leD, leD1, ofCells, TI.isAgg, isScalar, avOf, acOf, eInt, eBool, eList, ePair, List.getLast?_append, List.getLast?_singleton, Option.some_or, List.getD_cons_succ, List.getD_cons_zero, List.set_cons_succ, List.set_cons_zero, List.map_cons, List.map_nil, List.cons_append, List.nil_append, List.append_nil, List.length_cons, List.length_nil, List.drop_zero, List.take_succ_cons, List.take_nil, List.headD_cons, List.getElem?_cons_succ, List.getElem?_cons_zero, Option.bind_some, DV.bool.injEq, exists_eq_left', Int.toNat_natCast, implies_true, imp_self, beq_true, Bool.cond_false_right, true_and, and_true, and_self, forall_const, reduceCtorEq, false_implies, not_false_eq_true, Bool.true_and, Bool.false_eq_true, Bool.true_eq_false, if_true, if_false, Nat.zero_add, Nat.reduceAdd, Nat.reduceEqDiff, Nat.le_refl, eq_self, ne_eq, Nat.succ_ne_self, tab_3, tab_4, tab_32, tab_57, tab_113, tab_116]
      intro hw
      refine ⟨fun e he => (hw.1 e he), fun e he hns hfind => ?_, fun hall => ?_⟩
      · obtain ⟨num, ks, bb⟩ := e
        obtain ⟨i, hk, hbb, hi⟩ := hE.key _ he
        dsimp only at hk hbb hns hfind
        subst hk hbb
        obtain ⟨hv, hG'⟩ := hG.next hE hw he hns (i := i) rfl
        have hin := heb i hi
        have hcnt := cnt_put hv (by omega)
        have hm1 : (mat n.toNat (wayF ms part)).getD s [] = bitsL n.toNat (wayF ms part s) := mat_get hs'
        have hm2 : (mat n.toNat (fun s => swN ms n.toNat (2 ^ s))).getD t [] = bitsL n.toNat (swN ms n.toNat (2 ^ t)) := mat_get ht'
        have hb1' : (bitsL n.toNat (wayF ms part s)).getD t false = (wayF ms part s).testBit t := bitsL_get ht'
        have hb2' : (bitsL n.toNat (swN ms n.toNat (2 ^ t))).getD i false = (swN ms n.toNat (2 ^ t)).testBit i := bitsL_get hin
        simp only [KA.ac, DV.ac, List.getD_cons_succ, List.getD_cons_zero, List.map_cons, List.map_nil, List.length_cons, List.length_nil, List.drop_zero, List.take_succ_cons, List.take_nil, List.headD_cons, List.getElem?_cons_zero, Int.toNat_natCast, implies_true, imp_self, Bool.and_eq_true, Bool.and_eq_false_iff, true_and, and_true, Nat.zero_add, Nat.le_refl, eq_self, hfind, hm1, hm2, hb1', hb2', mat_len, bitsL_len]
        have hor : swN ms n.toNat (2 ^ t) &&& (v ||| 2 ^ i) ≠ 0 ↔ swN ms n.toNat (2 ^ t) &&& v ≠ 0 ∨ (swN ms n.toNat (2 ^ t)).testBit i = true := and_or_ne
        refine ⟨⟨by omega, by omega⟩, by omega, ⟨by omega, by omega, by omega⟩, ⟨by omega, by omega⟩, fun _ => ⟨by omega, by omega⟩, fun _ => by omega, fun _ => ⟨by omega, by omega, by omega⟩, fun _ => ⟨by omega, by omega⟩, fun hcc => ?_, fun hcc => ?_⟩
        · refine ⟨(mtick c3 g3' (kI (s : Int)), mput c3 g3' (kI (s : Int)) true, true, seen ++ [num], v ||| 2 ^ i), ⟨?_, ?_, hG'⟩, hcnt, ?_⟩
          · dsimp only
            rw [← bitIf_put (b := b3)]
            have := hm.put c3 (s : Int) (by omega)
            rwa [Int.toNat_natCast] at this
          · dsimp only
            exact ⟨fun _ => .inr ⟨hcc.1, hor.2 (.inr hcc.2)⟩, fun _ => rfl⟩
          · (simp only [LessC, lessS, lessO, belowS, belowO, AV.below, AObj.below, AC.below, XObj.below, List.length_cons, List.length_nil, List.all_cons, List.all_nil, Nat.reduceLT, AV.c.injEq, and_self, reduceCtorEq, Bool.and_true, Nat.zero_add, Nat.reduceAdd, Nat.reduceLeDiff, eq_self, decide_true, or_true, or_false] <;> try omega)
        · refine ⟨(c3, g3', b3, seen ++ [num], v ||| 2 ^ i), ⟨hm, ?_, hG'⟩, hcnt, ?_⟩
          · dsimp only
            rw [hb3]
            constructor
            · rintro (h | ⟨h, k⟩)
              · exact .inl h
              · exact .inr ⟨h, hor.2 (.inl k)⟩
            · rintro (h | ⟨h, k⟩)
              · exact .inl h
              · rcases hor.1 k with k | k
                · exact .inr ⟨h, k⟩
                · rcases hcc with hcc | hcc
                  · rw [h] at hcc; cases hcc
                  · rw [k] at hcc; cases hcc
          · (simp only [LessC, lessS, lessO, belowS, belowO, AV.below, AObj.below, AC.below, XObj.below, List.length_cons, List.length_nil, List.all_cons, List.all_nil, Nat.reduceLT, AV.c.injEq, and_self, reduceCtorEq, Bool.and_true, Nat.zero_add, Nat.reduceAdd, Nat.reduceLeDiff, eq_self, decide_true, or_true, or_false] <;> try omega)
      · have hvf := hG.all hE hall
        subst hvf
        refine ⟨(t + 1, c3, g3', b3), ⟨by dsimp only; omega, hm, ?_⟩, by dsimp only; omega, ?_⟩
        · dsimp only
          rw [hb3, HitT.next]
        · (simp only [LessC, lessS, lessO, belowS, belowO, AV.below, AObj.below, AC.below, XObj.below, List.length_cons, List.length_nil, List.all_cons, List.all_nil, Nat.reduceLT, Int.cast_ofNat_Int, Int.natCast_add, AV.c.injEq, AC.int.injEq, true_and, and_true, and_self, reduceCtorEq, Bool.and_true, Nat.zero_add, Nat.reduceAdd, Nat.reduceLeDiff, eq_self, decide_true, or_true, or_false, false_or] <;> try omega)
          exact i64_in _ (by omega)
    · have : t = n.toNat := by omega
      subst this
      refine ⟨(s + 1, cg2, gg2), ⟨by dsimp only; omega, ?_⟩, by dsimp only; omega, ?_⟩
      · dsimp only
        rw [goodF_next (hbq.trans (HitT.full (by omega) m1 htn heb hq hs'))]
        exact hGd2
      · (simp only [LessC, lessS, lessO, belowS, belowO, AV.below, AObj.below, AC.below, XObj.below, List.length_cons, List.length_nil, List.all_cons, List.all_nil, Nat.reduceLT, Int.cast_ofNat_Int, Int.natCast_add, AV.c.injEq, AC.int.injEq, true_and, and_true, and_self, reduceCtorEq, Bool.and_true, Nat.zero_add, Nat.reduceAdd, Nat.reduceLeDiff, eq_self, decide_true, or_true, or_false, false_or] <;> try omega)
        exact i64_in _ (by omega)
  have : s = n.toNat := by omega
  subst this
  have hS1 : SetM (mput 0 [] [KA.int IntKind.i64 0] true) 1 := SetM.empty.put 0 0 (by omega)
  generalize mput 0 [] [KA.int IntKind.i64 0] true = e1 at *
  generalize mtick 0 [] [KA.int IntKind.i64 0] = c1 at *
  refine CallAt.call [5] [3] (shortest_spec n ms es c1 cg e1 gg 1 (goodF n.toNat ms part q) hS1 hGd hb1 ⟨g1, g2⟩ g4 g3) (by decide) (by simp) (by decide) rfl rfl (.inr PathR.flat) ?_
  intro r os hP
  cases hs1 : shortF n.toNat ms 1 (goodF n.toNat ms part q) with
  | none =>
    rw [hs1] at hP
    obtain ⟨rfl, rfl⟩ := hP
    simp only [XObj.amap, VC_skip, VC_region, VC_seq, VC_cond, VC_ret, aops_nil, aops_cons, put_some, aop, qop, isQuiet, ASt.eval, ASt.ev, AV.strip, AV.need, AV.ac, AV.isTup, qun, qload, qextract, ned, AV.map, AObj.map, DV.ac, ofCells, TI.isAgg, avOf, acOf, AC.ren, giveBack, afterCall, eInt, eList, ePair, List.getD_cons_succ, List.getD_cons_zero, List.set_cons_succ, List.set_cons_zero, List.map_cons, List.map_nil, List.cons_append, List.nil_append, List.append_nil, List.length_cons, List.length_nil, List.take_succ_cons, List.take_nil, List.headD_cons, List.getElem?_cons_succ, List.getElem?_cons_zero, true_and, and_true, and_self, forall_const, reduceCtorEq, false_implies, not_false_eq_true, Bool.and_true, Bool.true_eq_false, Bool.not_false, cond_true, beq_self_eq_true, Nat.zero_add, Nat.reduceAdd, Nat.le_refl, eq_self, tab_32]
    (refine RetAt.leaf ?_ ?_ <;> simp only [resOf, tupOf, compOf, ASt.eval, AV.strip, AV.need, AV.map, findIx, AC.ren, List.getD_cons_succ, List.getD_cons_zero, List.map_cons, List.map_nil, and_self])
    unfold showF
    rw [hs1]
    exact ⟨rfl, rfl⟩
  | some before =>
    rw [hs1] at hP
    obtain ⟨rfl, rfl⟩ := hP
    obtain ⟨hl1, hb8⟩ := shortF_len hs1
    simp only [XObj.amap, VC_skip, VC_region, VC_seq, VC_cond, VC_ret, aops_nil, aops_cons, put_some, aop, qop, isQuiet, ASt.eval, ASt.ev, AV.strip, AV.need, AV.ac, AV.isTup, qun, qload, qextract, ned, AV.map, AObj.map, DV.ac, ofCells, TI.isAgg, avOf, acOf, AC.ren, backIx, giveBack, afterCall, eInt, eList, ePair, List.getD_cons_succ, List.getD_cons_zero, List.set_cons_succ, List.set_cons_zero, List.map_cons, List.map_nil, List.cons_append, List.nil_append, List.length_cons, List.length_nil, List.take_succ_cons, List.take_nil, List.headD_cons, List.getElem?_cons_succ, List.getElem?_cons_zero, List.getElem?_nil, true_and, and_self, forall_const, reduceCtorEq, false_implies, not_false_eq_true, Bool.and_true, Bool.false_eq_true, Bool.not_true, cond_true, beq_self_eq_true, Nat.add_zero, Nat.zero_add, Nat.reduceAdd, Nat.reduceSub, Nat.le_refl, eq_self, tab_32]
    refine CallAt.freeze 6 ?_
    simp only [XObj.amap, ASt.setObj, ASt.obj, ASt.map, ASt.freeze, AV.map, AObj.map, AC.frz, frzF, List.getD_cons_succ, List.getD_cons_zero, List.set_cons_succ, List.set_cons_zero, List.map_cons, List.map_nil, cond_true, cond_false, beq_self_eq_true, Nat.reduceBEq]
    refine CallAt.plain (ways_spec n ms es before ⟨g1, g2⟩ g4 g3 (by omega) hb8) rfl ?_
    rintro r os ⟨rfl, rfl⟩
    simp only [kshOf, amakeMap, arange, XObj.amap, VC_region, VC_seq, VC_block, VC_loop, aops_nil, aops_cons, put_some, aop, qop, isQuiet, ASt.eval, AV.need, AV.ac, AV.isTup, ned, newObj, ASt.obj, AV.map, AObj.map, TI.isAgg, AC.ren, backIx, giveBack, afterCall, eInt, eBool, List.getD_cons_succ, List.getD_cons_zero, List.set_cons_succ, List.set_cons_zero, List.map_cons, List.map_nil, List.cons_append, List.nil_append, List.length_cons, List.length_nil, List.getElem?_nil, true_and, and_self, reduceCtorEq, not_false_eq_true, Nat.add_zero, Nat.zero_add, Nat.reduceAdd, Nat.reduceSub, eq_self, Nat.succ_ne_self, tab_3, tab_4, tab_57]
    have hR1 : wayF ms before 0 = runF ms 1 before := rfl
    refine LoopAt.inv (ι := Nat × SE × List Nat × Nat) (T := tab) (fun x => []) (fun x => [.gone, rowsB (mat n.toNat (wayF ms part)), rowsB (mat n.toNat (fun s => swN ms n.toNat (2 ^ s))), setO cg gg, setO ce ee, setO c1 e1, .gone, rowsB (mat n.toNat (wayF ms before)), setO x.1 x.2.1, .ext (.iter (.xr 3 .self) cg x.2.2.1 cg)])
      (fun x => SetM x.2.1 (hereV ms (runF ms 1 before) part x.2.2.2) ∧ GoneM gg (goodF n.toNat ms part q) x.2.2.1 x.2.2.2) (fun x => 32 - cnt 32 x.2.2.2) tabOK (0, [], [], 0) ⟨by dsimp only; rw [hereV_zero]; exact SetM.empty, GoneM.zero⟩ ?_ ?_
    · (simp only [LessC, headSt, dsts, opDsts, resetS, putsS, lessS, lessO, belowS, belowO, AV.below, AObj.below, AC.below, XObj.below, List.set_cons_succ, List.set_cons_zero, List.cons_append, List.nil_append, List.append_nil, List.length_cons, List.length_nil, List.all_cons, List.all_nil, Nat.reduceLT, AV.c.injEq, and_self, reduceCtorEq, Bool.and_true, Nat.zero_add, Nat.reduceAdd, Nat.reduceLeDiff, eq_self, decide_true, or_true] <;> try omega)
    rintro ⟨ch, hh, seen, v⟩ ⟨hm, hG⟩
    dsimp only at hm hG
    simp only [VCp, headSt, dsts, opDsts, resetS, putsS, qentry, anext, VC_skip, VC_region, VC_seq, VC_cond, VC_block, VC_loop, VC_exit, aops_nil, aops_cons, put_some, aop, qop, isQuiet, ASt.eval, ASt.ev, AV.strip, AV.need, AV.ac, AV.isTup, qfieldAddr, qload, qextract, ned, ASt.setObj, ASt.obj, DV.ac, ofCells, TI.isAgg, avOf, acOf, eInt, eList, ePair, List.getLast?_append, List.getLast?_singleton, Option.some_or, List.getD_cons_succ, List.getD_cons_zero, List.set_cons_succ, List.set_cons_zero, List.map_cons, List.map_nil, List.cons_append, List.nil_append, List.append_nil, List.length_cons, List.length_nil, List.drop_zero, List.take_succ_cons, List.take_zero, List.take_nil, List.headD_cons, List.getElem?_cons_zero, true_and, and_true, and_self, forall_const, reduceCtorEq, false_implies, not_false_eq_true, Bool.false_eq_true, Bool.true_eq_false, if_true, Nat.zero_add, Nat.reduceAdd, Nat.reduceLeDiff, Nat.le_refl, eq_self, Nat.succ_ne_self, tab_3, tab_32]
    intro hw
    refine ⟨fun e he => (hw.1 e he), fun e he hns hfind => ?_, fun hall => ?_⟩
    · obtain ⟨num, ks, bb⟩ := e
      obtain ⟨s, hk, hbb, hi⟩ := hGd.key _ he
      dsimp only at hk hbb hns hfind
      subst hk hbb
      obtain ⟨hv, hG'⟩ := hG.next hGd hw he hns (i := s) rfl
      have hsn : s < n.toNat := (goodF_bit.1 hi).1
      have hcnt := cnt_put hv (by omega)
      simp only [KA.ac, List.map_cons, List.map_nil, List.length_cons, List.length_nil, List.headD_cons, List.getElem?_cons_zero, true_and, Nat.zero_add, eq_self, hfind]
      refine LoopAt.inv (ι := Nat × Nat × SE) (T := tab) (fun x => [(98, .c (.int .i64 x.1))]) (fun x => [.gone, rowsB (mat n.toNat (wayF ms part)), rowsB (mat n.toNat (fun s => swN ms n.toNat (2 ^ s))), setO cg gg, setO ce ee, setO c1 e1, .gone, rowsB (mat n.toNat (wayF ms before)), setO x.2.1 x.2.2, .ext (.iter (.xr 3 .self) cg (seen ++ [num]) cg)])
        (fun x => x.1 ≤ n.toNat ∧ SetM x.2.2 (hereV ms (runF ms 1 before) part v ||| maskOf (fun i => (runF ms 1 before).testBit s && (wayF ms part s).testBit i) x.1)) (fun x => n.toNat - x.1) tabOK (0, ch, hh) ⟨Nat.zero_le _, by dsimp only; rw [maskOf, Nat.or_zero]; exact hm⟩ ?_ ?_
      · (simp only [LessC, headSt, dsts, opDsts, resetS, putsS, lessS, lessO, belowS, belowO, AV.below, AObj.below, AC.below, XObj.below, List.set_cons_succ, List.set_cons_zero, List.cons_append, List.nil_append, List.append_nil, List.length_cons, List.length_nil, List.all_cons, List.all_nil, Nat.reduceLT, Int.cast_ofNat_Int, AV.c.injEq, and_self, reduceCtorEq, Bool.and_true, Nat.zero_add, Nat.reduceAdd, Nat.reduceLeDiff, eq_self, decide_true, or_true] <;> try omega)
      rintro ⟨t, ch2, hh2⟩ ⟨ht, hm2⟩
      dsimp only at ht hm2
      have hm1 : (mat n.toNat (wayF ms part)).getD s [] = bitsL n.toNat (wayF ms part s) := mat_get hsn
      have hm0 : (mat n.toNat (wayF ms before)).getD 0 [] = bitsL n.toNat (runF ms 1 before) := mat_get (by omega)
      have hb0 : (bitsL n.toNat (runF ms 1 before)).getD s false = (runF ms 1 before).testBit s := bitsL_get hsn
      simp only [VCp, headSt, dsts, opDsts, resetS, putsS, keyOf, kshOf, AV.isA, amapUpdate, VC_skip, VC_region, VC_seq, VC_cond, VC_block, VC_exit, aops_nil, aops_cons, put_some, put_none, aop, qop, isQuiet, ASt.eval, ASt.ev, AV.strip, AV.need, AV.ac, AV.cells, AV.isTup, onG, guardOf, qbin, binInt, qpick, qpick0, qindexAddr, qload, ned, ASt.setObj, ASt.obj, frzRefs, dvs, AC.dv, DV.ac, leD, leD1, ofCells, TI.isAgg, isScalar, avOf, acOf, eInt, eBool, eList, ePair, List.getD_cons_succ, List.getD_cons_zero, List.set_cons_succ, List.set_cons_zero, List.map_cons, List.map_nil, List.cons_append, List.nil_append, List.append_nil, List.length_cons, List.length_nil, List.drop_zero, List.take_succ_cons, List.take_nil, List.headD_cons, List.getElem?_cons_succ, List.getElem?_cons_zero, Option.bind_some, Int.reduceLE, DV.bool.injEq, exists_eq_left', Int.toNat_natCast, Int.reduceToNat, implies_true, imp_self, beq_true, decide_eq_true_eq, decide_eq_false_iff_not, Bool.cond_false_right, Bool.and_eq_true, Bool.and_eq_false_iff, Int.not_lt, true_and, and_true, and_self, reduceCtorEq, not_false_eq_true, Bool.true_and, if_true, if_false, Nat.zero_add, Nat.reduceAdd, Nat.reduceEqDiff, Nat.le_refl, eq_self, Nat.succ_ne_self, tab_3, tab_4, tab_32, tab_57, tab_113, tab_116, hm1, hm0, hb0, mat_len, bitsL_len]
      refine ⟨fun h => ?_, fun h => ?_⟩
      · have ht' : t < n.toNat := by omega
        have hb1' : (bitsL n.toNat (wayF ms part s)).getD t false = (wayF ms part s).testBit t := bitsL_get ht'
        simp only [hb1']
        have hnx : maskOf (fun i => (runF ms 1 before).testBit s && (wayF ms part s).testBit i) (t + 1) = if ((runF ms 1 before).testBit s && (wayF ms part s).testBit t) = true then maskOf (fun i => (runF ms 1 before).testBit s && (wayF ms part s).testBit i) t ||| 2 ^ t else maskOf (fun i => (runF ms 1 before).testBit s && (wayF ms part s).testBit i) t := rfl
        (repeat (first | refine ⟨by omega, ?_⟩ | refine ⟨fun _ => by omega, ?_⟩))
        refine ⟨fun hcc => ⟨(t + 1, mtick ch2 hh2 (kI (t : Int)), mput ch2 hh2 (kI (t : Int)) true), ⟨by dsimp only; omega, ?_⟩, by dsimp only; omega, ?_⟩, fun hcc => ⟨(t + 1, ch2, hh2), ⟨by dsimp only; omega, ?_⟩, by dsimp only; omega, ?_⟩⟩
        · dsimp only
          rw [hnx, if_pos (by rw [hcc.1, hcc.2]; rfl), ← Nat.or_assoc]
          have := hm2.put ch2 (t : Int) (by omega)
          rwa [Int.toNat_natCast] at this
        · (simp only [LessC, lessS, lessO, belowS, belowO, AV.below, AObj.below, AC.below, XObj.below, List.length_cons, List.length_nil, List.all_cons, List.all_nil, Nat.reduceLT, Int.cast_ofNat_Int, Int.natCast_add, AV.c.injEq, AC.int.injEq, true_and, and_true, and_self, reduceCtorEq, Bool.and_true, Nat.zero_add, Nat.reduceAdd, Nat.reduceLeDiff, eq_self, decide_true, or_true, or_false, false_or] <;> try omega)
          exact i64_in _ (by omega)
        · dsimp only
          rw [hnx, if_neg (by
            rw [Bool.and_eq_true]
            rintro ⟨h1, h2⟩
            rcases hcc with hcc | hcc
            · rw [h1] at hcc; cases hcc
            · rw [h2] at hcc; cases hcc)]
          exact hm2
        · (simp only [LessC, lessS, lessO, belowS, belowO, AV.below, AObj.below, AC.below, XObj.below, List.length_cons, List.length_nil, List.all_cons, List.all_nil, Nat.reduceLT, Int.cast_ofNat_Int, Int.natCast_add, AV.c.injEq, AC.int.injEq, true_and, and_true, and_self, reduceCtorEq, Bool.and_true, Nat.zero_add, Nat.reduceAdd, Nat.reduceLeDiff, eq_self, decide_true, or_true, or_false, false_or] <;> try omega)
          exact i64_in _ (by omega)
      · have : t = n.toNat := by omega
        subst this
        rw [hereV_next htn hsn] at hm2
        refine ⟨(ch2, hh2, seen ++ [num], v ||| 2 ^ s), ⟨hm2, hG'⟩, hcnt, ?_⟩
        (simp only [LessC, lessS, lessO, belowS, belowO, AV.below, AObj.below, AC.below, XObj.below, List.length_cons, List.length_nil, List.all_cons, List.all_nil, Nat.reduceLT, AV.c.injEq, and_self, reduceCtorEq, Bool.and_true, Nat.zero_add, Nat.reduceAdd, Nat.reduceLeDiff, eq_self, decide_true, or_true, or_false] <;> try omega)
    · have hvf := hG.all hGd hall
      subst hvf
      have hhere : hereV ms (runF ms 1 before) part (goodF n.toNat ms part q) = hereF ms (goodF n.toNat ms part q) part before := rfl
      rw [hhere] at hm
      have hhb : Below n.toNat (hereF ms (goodF n.toNat ms part q) part before) := runF_below htn (and_below (runF_below htn hb1 before)) part
      have hsome := here_some hb hok hb1 hq hs1
      refine CallAt.call [8] [4] (shortest_spec n ms es ch ce hh ee _ (endsF es) hm hE hhb ⟨g1, g2⟩ g4 g3) (by decide) (by simp) (by decide) rfl rfl (.inr PathR.flat) ?_
      intro r os hP
      cases hs2 : shortF n.toNat ms (hereF ms (goodF n.toNat ms part q) part before) (endsF es) with
      | none => exact absurd hs2 hsome
      | some behind =>
        rw [hs2] at hP
        obtain ⟨rfl, rfl⟩ := hP
        obtain ⟨hl2, _⟩ := shortF_len hs2
        simp only [appRows, XObj.amap, VC_region, VC_seq, VC_ret, aops_nil, aops_cons, put_some, aop, qop, isQuiet, ASt.eval, AV.need, AV.ac, AV.isTup, qextract, ned, appSrc, aappend, newObj, ASt.setObj, ASt.obj, ASt.map, AV.map, AObj.map, AC.kill, avOf, acOf, AC.ren, backIx, giveBack, afterCall, eInt, eList, List.getD_cons_succ, List.getD_cons_zero, List.set_cons_succ, List.set_cons_zero, List.map_cons, List.map_nil, List.cons_append, List.nil_append, List.length_cons, List.length_nil, List.length_append, List.headD_cons, List.getElem?_cons_succ, List.getElem?_cons_zero, List.getElem?_nil, ↓ex_rfl, cast_eq, heq_eq_eq, true_and, and_self, not_false_eq_true, Bool.and_true, cond_true, cond_false, beq_self_eq_true, Nat.add_zero, Nat.zero_add, Nat.reduceAdd, Nat.reduceSub, Nat.reduceBEq, Nat.reduceLeDiff, eq_self, Nat.succ_ne_self, tab_5, tab_29]
        repeat' (first | (with_reducible apply And.intro) | (with_reducible intro _))
        all_goals first | omega | exact (rfl : encU8 = fun n => [DV.int IntKind.u8 n]) | skip
        refine RetAt.keeping [11] (by decide) ?_ ?_ <;> simp only [resOf, tupOf, compOf, keepObjs, keepObjs, XObj.amap, ASt.eval, AV.strip, AV.need, AV.map, AObj.map, findIx, AC.ren, List.getD_cons_succ, List.getD_cons_zero, List.map_cons, List.map_nil, and_self, cond_true, beq_self_eq_true]
        unfold showF
        rw [hs1]
        dsimp only
        rw [hs2]
        exact ⟨rfl, by simp [List.append_assoc]⟩
end Go.Vc
