/- The reference's automata: checks; where fragments stand. -/
import Derived.Test.YtmikejeohdleeaaGF
set_option linter.unusedVariables false
set_option linter.unusedSimpArgs false
namespace Go.Vc
open Go.Proofs Go.IntWalk
set_option maxRecDepth 100000
/-! ### maps that are sets of numbers -/
theorem mfind_set {β : Type} {k k' : List KA} {v : β} : ∀ {es : List (Nat × List KA × β)}, mfind k' (mset k v es) = if k' = k then (if mhas es k = true then some v else none) else mfind k' es
  | [] => by simp [mset, mfind, mhas]
  | e :: es => by
    have ih := mfind_set (k := k) (k' := k') (v := v) (es := es)
    by_cases he : e.2.1 = k
    · simp only [mset, he, if_true, mfind, mhas]
      by_cases hk : k' = k
      · subst hk; simp
      · have : ¬ k = k' := fun e => hk e.symm
        simp [this, hk]
    · simp only [mset, he, if_false, mfind]
      by_cases h2 : e.2.1 = k'
      · rw [if_pos h2]
        have : ¬ k' = k := fun e' => he (h2.trans e')
        rw [if_neg this, if_pos h2]
      · rw [if_neg h2, ih, if_neg h2]
        by_cases hk : k' = k
        · subst hk
          have e1 : mhas (e :: es) k' = mhas es k' := by simp only [mhas, mfind, h2, if_false]
          rw [if_pos rfl, if_pos rfl, e1]
        · simp [hk]
theorem mfind_append {β : Type} {k' : List KA} : ∀ {es fs : List (Nat × List KA × β)}, mfind k' (es ++ fs) = (mfind k' es).or (mfind k' fs)
  | [], fs => by simp [mfind]
  | e :: es, fs => by
    simp only [List.cons_append, mfind]
    split
    · rfl
    · exact mfind_append
theorem mfind_put {β : Type} {k k' : List KA} {v : β} {clock : Nat} {es : List (Nat × List KA × β)} : mfind k' (mput clock es k v) = if k' = k then some v else mfind k' es := by
  unfold mput
  by_cases h : mhas es k = true
  · rw [if_pos h, mfind_set, if_pos h]
  · rw [if_neg h, mfind_append]
    have hn : mfind k es = none := by
      unfold mhas at h
      cases hm : mfind k es with
      | none => rfl
      | some v => rw [hm] at h; exact absurd rfl h
    by_cases hk : k' = k
    · subst hk; simp [hn, mfind]
    · have : ¬ k = k' := fun e => hk e.symm
      simp [mfind, this, hk]
/-- a map that is a set of numbers -/
def SetI (es : List (Nat × List KA × Bool)) (S : List Int) : Prop := ∀ n : Int, mfind [.int .i64 n] es = if n ∈ S then some true else none
theorem SetI.get {es : List (Nat × List KA × Bool)} {S : List Int} (h : SetI es S) (n : Int) : mget false es [.int .i64 n] = decide (n ∈ S) := by
  unfold mget
  rw [h n]
  by_cases hn : n ∈ S <;> simp [hn]
theorem SetI.put {es : List (Nat × List KA × Bool)} {S : List Int} (h : SetI es S) (clock : Nat) (n : Int) : SetI (mput clock es [.int .i64 n] true) (S ++ [n]) := fun m => by
  rw [mfind_put, h m]
  by_cases hm : m = n
  · subst hm; simp
  · simp [hm]
theorem SetI.empty : SetI [] [] := fun n => by simp [mfind]
theorem badMv_r {n : Int} {p : Mv} : (((p.1 < 0 ∨ p.2.1 < 0) ∨ n ≤ p.1) ∨ n ≤ p.2.1) ∨ p.2.2.2 < p.2.2.1 ↔ badMv n p := by unfold badMv; omega
abbrev setO (clock : Nat) (m : List (Nat × List KA × Bool)) : AObj := .ext (.map 3 4 (.int .i64) false Bool false (fun b => [.bool b]) clock m)
set_option maxHeartbeats 8000000 in
theorem rcheck_spec (n : Int) (ms : List Mv) (es : List Int) (h1 : ms.length < 9223372036854775807) (h2 : es.length < 9223372036854775807) :
    ACall Try.prog 18 [rmach n ms es] [] (fun r os => r = .c (.int .i64 (chk n ms es)) ∧ os = []) := by
  (refine ACall.of_body (nt := 81) (rs := [.tmp 2]) tabOK Try.func18 rfl rfl rfl rfl ?_; simp only [startSt, List.length_cons, List.length_nil, Nat.reduceAdd, Nat.reduceSub, List.replicate_succ, List.replicate_zero, List.cons_append, List.nil_append])
  simp only [VCp, VC_skip, VC_region, VC_seq, VC_cond, VC_block, VC_loop, VC_ret, aops_nil, aops_cons, put_some, aop, qop, isQuiet, ASt.eval, AV.need, AV.ac, AV.cells, AV.isTup, onG, guardOf, qbin, binInt, qpick, qpick0, qlen, qfieldAddr, qload, ned, AC.fits, newObj, ASt.obj, ofCells, TI.isAgg, isScalar, avOf, acOf, eInt, eList, ePair, List.getD_cons_succ, List.getD_cons_zero, List.set_cons_succ, List.set_cons_zero, List.cons_append, List.nil_append, List.length_cons, List.length_nil, List.drop_succ_cons, List.drop_zero, List.take_succ_cons, List.take_zero, List.headD_cons, List.all_cons, List.all_nil, List.getElem?_cons_succ, List.getElem?_cons_zero, Option.bind_some, implies_true, imp_self, beq_false, decide_eq_true_eq, decide_eq_false_iff_not, Bool.not_eq_true', Bool.cond_true_left, Bool.or_eq_true, Bool.or_eq_false_iff, Int.not_lt, true_and, and_self, not_false_eq_true, Bool.and_true, Bool.true_and, Nat.add_zero, Nat.zero_add, Nat.reduceAdd, Nat.reduceLeDiff, eq_self, Nat.succ_ne_self, tab_3, tab_30, tab_32]
  refine ⟨fun h => ?_, fun h => ?_⟩
  · (refine RetAt.leaf ?_ ?_ <;> simp only [resOf, tupOf, ASt.eval, AV.strip, AV.need, AV.map, AC.ren, List.getD_cons_succ, List.getD_cons_zero, AV.c.injEq, AC.int.injEq, true_and, and_true, and_self, eq_self])
    unfold chk
    rw [if_pos (by omega)]
  have hc : chk n ms es = if ∃ p ∈ ms, badMv n p then 4 else endsChk n [] es := by
    unfold chk
    rw [if_neg (by omega)]
  refine LoopAt.inv (ι := Nat) (T := tab) (fun i => [(25, .c (.int .i64 i))]) (fun i => [.cells 32 (rcells n ms es)])
    (fun i => i ≤ ms.length ∧ ∀ p ∈ ms.take i, ¬ badMv n p) (fun i => ms.length - i) tabOK 0 ⟨Nat.zero_le _, by simp⟩ ?_ ?_
  · (simp only [LessC, headSt, dsts, opDsts, resetS, putsS, lessS, lessO, belowS, belowO, AV.below, AObj.below, AC.below, List.set_cons_succ, List.set_cons_zero, List.cons_append, List.nil_append, List.append_nil, List.length_cons, List.length_nil, List.all_cons, List.all_nil, Nat.reduceLT, Int.cast_ofNat_Int, AV.c.injEq, and_self, reduceCtorEq, Bool.and_true, Nat.zero_add, Nat.reduceLeDiff, eq_self, decide_true, or_true, or_false] <;> try omega)
  rintro i ⟨hi, hg⟩
  simp only [VCp, headSt, dsts, opDsts, resetS, putsS, kshOf, amakeMap, VC_skip, VC_region, VC_seq, VC_cond, VC_block, VC_loop, VC_exit, VC_ret, aops_nil, aops_cons, put_some, put_none, aop, qop, isQuiet, ASt.eval, ASt.ev, AV.strip, AV.need, AV.ac, AV.cells, AV.isTup, onG, guardOf, qbin, binInt, qpick, qpick0, qlen, qindexAddr, qfieldAddr, qload, splice, ned, AC.fits, astore, newObj, ASt.setObj, ASt.obj, DV.ac, ofCells, TI.isAgg, isScalar, avOf, acOf, eInt, eBool, eList, ePair, List.getD_cons_succ, List.getD_cons_zero, List.set_cons_succ, List.set_cons_zero, List.map_cons, List.map_nil, List.cons_append, List.nil_append, List.append_nil, List.length_cons, List.length_nil, List.drop_succ_cons, List.drop_zero, List.drop_nil, List.take_succ_cons, List.take_zero, List.take_nil, List.headD_cons, List.all_cons, List.all_nil, List.getElem?_cons_succ, List.getElem?_cons_zero, Option.bind_some, Int.reduceLT, Int.reduceLE, Int.cast_ofNat_Int, Int.toNat_natCast, Int.reduceToNat, implies_true, imp_self, beq_false, decide_eq_true_eq, decide_eq_false_iff_not, Bool.not_eq_true', Bool.cond_true_left, Bool.or_eq_true, Bool.or_eq_false_iff, Int.not_lt, Int.not_le, true_and, and_self, reduceCtorEq, not_false_eq_true, Bool.and_true, Bool.true_and, if_true, Nat.add_zero, Nat.zero_add, Nat.reduceAdd, Nat.reduceMul, Nat.reduceLeDiff, Nat.le_refl, eq_self, Nat.succ_ne_self, tab_3, tab_4, tab_26, tab_30, tab_32, tab_57, tab_106, rEnc]
  refine ⟨fun h => ?_, fun h => ?_⟩
  · have hi' : i < ms.length := by omega
    have hmem : ms.getD i mZ ∈ ms := by simp [List.getD, hi']
    refine ⟨⟨by omega, by omega⟩, fun hb => ?_, fun hb => ⟨i + 1, ⟨by omega, fun p hp => ?_⟩, by omega, ?_⟩⟩
    · (refine RetAt.leaf ?_ ?_ <;> simp only [resOf, tupOf, ASt.eval, AV.strip, AV.need, AV.map, AC.ren, List.getD_cons_succ, List.getD_cons_zero, AV.c.injEq, AC.int.injEq, true_and, and_true, and_self, eq_self])
      rw [hc, if_pos ⟨_, hmem, by unfold badMv; omega⟩]
    · rw [take_next ms i mZ hi'] at hp
      rcases List.mem_append.1 hp with hp | hp
      · exact hg p hp
      · simp only [List.mem_singleton] at hp
        subst hp
        unfold badMv
        omega
    · (simp only [LessC, lessS, lessO, belowS, belowO, AV.below, AObj.below, AC.below, List.length_cons, List.length_nil, List.all_cons, List.all_nil, Nat.reduceLT, Int.cast_ofNat_Int, Int.natCast_add, AV.c.injEq, AC.int.injEq, true_and, and_true, and_self, reduceCtorEq, Bool.and_true, Nat.zero_add, Nat.reduceLeDiff, eq_self, decide_true, or_true, or_false, false_or] <;> try omega)
      exact i64_in _ (by omega)
  have : i = ms.length := by omega
  subst this
  rw [List.take_length] at hg
  have hc2 : chk n ms es = endsChk n [] es := by
    rw [hc, if_neg]
    rintro ⟨p, hp, hb⟩
    exact hg p hp hb
  refine LoopAt.inv (ι := Nat × Nat × List (Nat × List KA × Bool)) (T := tab) (fun x => [(63, .c (.int .i64 x.1))]) (fun x => [.cells 32 (rcells n ms es), setO x.2.1 x.2.2])
    (fun x => x.1 ≤ es.length ∧ endsChk n (es.take x.1) (es.drop x.1) = endsChk n [] es ∧ SetI x.2.2 (es.take x.1)) (fun x => es.length - x.1) tabOK (0, 0, []) ⟨Nat.zero_le _, rfl, SetI.empty⟩ ?_ ?_
  · (simp only [LessC, headSt, dsts, opDsts, resetS, putsS, lessS, lessO, belowS, belowO, AV.below, AObj.below, AC.below, XObj.below, List.set_cons_succ, List.set_cons_zero, List.cons_append, List.nil_append, List.append_nil, List.length_cons, List.length_nil, List.all_cons, List.all_nil, Nat.reduceLT, Int.cast_ofNat_Int, AV.c.injEq, and_self, reduceCtorEq, Bool.and_true, Nat.zero_add, Nat.reduceAdd, Nat.reduceLeDiff, eq_self, decide_true, or_true] <;> try omega)
  rintro ⟨i, clock, m⟩ ⟨hi, hg, hm⟩
  have hget := hm.get (es.getD i 0)
  simp only [VCp, headSt, dsts, opDsts, resetS, putsS, qlookup, lookRes, keyOf, kshOf, encIs, AV.isA, amapUpdate, VC_skip, VC_region, VC_seq, VC_cond, VC_block, VC_exit, VC_ret, aops_nil, aops_cons, put_some, put_none, aop, qop, isQuiet, ASt.eval, ASt.ev, AV.strip, AV.need, AV.ac, AV.cells, AV.isTup, onG, guardOf, qbin, binInt, qpick, qpick0, qindexAddr, qfieldAddr, qload, ned, ASt.setObj, ASt.obj, frzRefs, dvs, AC.dv, DV.ac, leD, leD1, ofCells, TI.isAgg, isScalar, avOf, acOf, eInt, eBool, eList, ePair, List.getD_cons_succ, List.getD_cons_zero, List.set_cons_succ, List.set_cons_zero, List.map_cons, List.map_nil, List.cons_append, List.nil_append, List.append_nil, List.length_cons, List.length_nil, List.drop_zero, List.take_succ_cons, List.take_zero, List.take_nil, List.headD_cons, List.getElem?_cons_succ, List.getElem?_cons_zero, Option.bind_some, ↓ex_rfl, heq_eq_eq, DV.bool.injEq, exists_eq_left', Int.toNat_natCast, implies_true, imp_self, beq_false, decide_eq_true_eq, decide_eq_false_iff_not, Bool.not_eq_true', Bool.cond_true_left, Bool.or_eq_true, Bool.or_eq_false_iff, Int.not_lt, Int.not_le, true_and, and_true, and_self, not_false_eq_true, Bool.true_and, if_true, Nat.add_zero, Nat.zero_add, Nat.reduceAdd, Nat.reduceLeDiff, Nat.le_refl, eq_self, Nat.succ_ne_self, tab_3, tab_4, tab_26, tab_32, tab_57] at hi hg hm hget ⊢
  simp only [hget, decide_eq_true_eq, decide_eq_false_iff_not]
  refine ⟨fun h => ?_, fun h => ?_⟩
  · have hi' : i < es.length := by omega
    rw [endsChk_step hi'] at hg
    refine ⟨⟨by omega, by omega⟩, fun hb => ?_, fun hb => ⟨fun hd => ?_, fun hd => ⟨(i + 1, mtick clock m [.int .i64 (es.getD i 0)], mput clock m [.int .i64 (es.getD i 0)] true), ⟨by dsimp only; omega, ?_, ?_⟩, by dsimp only; omega, ?_⟩⟩⟩
    · (refine RetAt.leaf ?_ ?_ <;> simp only [resOf, tupOf, ASt.eval, AV.strip, AV.need, AV.map, AC.ren, List.getD_cons_succ, List.getD_cons_zero, AV.c.injEq, AC.int.injEq, true_and, and_true, and_self, eq_self])
      rw [if_pos (by omega)] at hg
      rw [hc2, ← hg]
    · (refine RetAt.leaf ?_ ?_ <;> simp only [resOf, tupOf, ASt.eval, AV.strip, AV.need, AV.map, AC.ren, List.getD_cons_succ, List.getD_cons_zero, AV.c.injEq, AC.int.injEq, true_and, and_true, and_self, eq_self])
      rw [if_neg (by omega), if_pos hd] at hg
      rw [hc2, ← hg]
    · rw [if_neg (by omega), if_neg hd] at hg
      exact hg
    · dsimp only
      rw [take_next es i 0 hi']
      exact hm.put clock _
    · (simp only [LessC, lessS, lessO, belowS, belowO, AV.below, AObj.below, AC.below, XObj.below, List.length_cons, List.length_nil, List.all_cons, List.all_nil, Nat.reduceLT, Int.cast_ofNat_Int, Int.natCast_add, AV.c.injEq, AC.int.injEq, true_and, and_true, and_self, reduceCtorEq, Bool.and_true, Nat.zero_add, Nat.reduceAdd, Nat.reduceLeDiff, eq_self, decide_true, or_true, or_false, false_or] <;> try omega)
      exact i64_in _ (by omega)
  · have : i = es.length := by omega
    subst this
    rw [List.take_length, List.drop_length] at hg
    (refine RetAt.leaf ?_ ?_ <;> simp only [resOf, tupOf, ASt.eval, AV.strip, AV.need, AV.map, AC.ren, List.getD_cons_succ, List.getD_cons_zero, AV.c.injEq, AC.int.injEq, true_and, and_true, and_self, eq_self])
    rw [hc2, ← hg]
    rfl
/-- where a fragment can stand, as the reference tells it -/
def RefQ (n : Int) (ms : List Mv) (es part : List Int) (s t : Nat) : Prop := (wayF ms part s).testBit t = true ∧ (swN ms n.toNat (2 ^ 0)).testBit s = true
def refF (n : Int) (ms : List Mv) (t : Nat) (e : Int) : Prop := (swN ms n.toNat (2 ^ t)).testBit e.toNat = true
structure RefSt (n : Int) (ms : List Mv) (es part : List Int) (P : Nat → Nat → Int → Prop) (f i l w : Bool) : Prop where
  first : f = true ↔ ∃ s t e, P s t e ∧ RefQ n ms es part s t ∧ s = 0 ∧ refF n ms t e
  inside : i = true ↔ ∃ s t e, P s t e ∧ RefQ n ms es part s t ∧ refF n ms t e
  last : l = true ↔ ∃ s t e, P s t e ∧ RefQ n ms es part s t ∧ (t : Int) = e
  whole : w = true ↔ ∃ s t e, P s t e ∧ RefQ n ms es part s t ∧ s = 0 ∧ (t : Int) = e
theorem RefSt.congr {n : Int} {ms : List Mv} {es part : List Int} {P Q : Nat → Nat → Int → Prop} {f i l w : Bool} (h : RefSt n ms es part P f i l w) (hpq : ∀ s t e, RefQ n ms es part s t → (P s t e ↔ Q s t e)) : RefSt n ms es part Q f i l w := by
  have gen : ∀ R : Nat → Nat → Int → Prop, (∃ s t e, P s t e ∧ RefQ n ms es part s t ∧ R s t e) ↔ ∃ s t e, Q s t e ∧ RefQ n ms es part s t ∧ R s t e := fun R =>
    ⟨fun ⟨s, t, e, h1, h2, h3⟩ => ⟨s, t, e, (hpq s t e h2).1 h1, h2, h3⟩, fun ⟨s, t, e, h1, h2, h3⟩ => ⟨s, t, e, (hpq s t e h2).2 h1, h2, h3⟩⟩
  exact ⟨h.first.trans (gen fun s t e => s = 0 ∧ refF n ms t e), h.inside.trans (gen fun s t e => refF n ms t e), h.last.trans (gen fun s t e => (t : Int) = e), h.whole.trans (gen fun s t e => s = 0 ∧ (t : Int) = e)⟩
/-- the pairs before (s, t), and at (s, t) the first j ends -/
def Upto (n : Nat) (es : List Int) (s t j : Nat) (s' t' : Nat) (e : Int) : Prop := t' < n ∧ ((s' < s ∧ e ∈ es) ∨ (s' = s ∧ t' < t ∧ e ∈ es) ∨ (s' = s ∧ t' = t ∧ e ∈ es.take j))
theorem RefSt.step {n : Int} {ms : List Mv} {es part : List Int} {s t j : Nat} {f i l w : Bool} (h : RefSt n ms es part (Upto n.toNat es s t j) f i l w) (hj : j < es.length) (ht : t < n.toNat) (hq : RefQ n ms es part s t) :
    RefSt n ms es part (Upto n.toNat es s t (j + 1)) (f || (decide ((s : Int) = 0) && (swN ms n.toNat (2 ^ t)).testBit (es.getD j 0).toNat)) (i || (swN ms n.toNat (2 ^ t)).testBit (es.getD j 0).toNat) (l || decide ((t : Int) = es.getD j 0)) (w || (decide ((s : Int) = 0) && decide ((t : Int) = es.getD j 0))) := by
  have hup : ∀ s' t' e, Upto n.toNat es s t (j + 1) s' t' e ↔ Upto n.toNat es s t j s' t' e ∨ (s' = s ∧ t' = t ∧ e = es.getD j 0) := fun s' t' e => by
    unfold Upto
    rw [take_next es j 0 hj]
    simp only [List.mem_append, List.mem_singleton]
    constructor
    · rintro ⟨h1, h2 | h2 | ⟨h2, h3, h4 | h4⟩⟩
      · exact .inl ⟨h1, .inl h2⟩
      · exact .inl ⟨h1, .inr (.inl h2)⟩
      · exact .inl ⟨h1, .inr (.inr ⟨h2, h3, h4⟩)⟩
      · exact .inr ⟨h2, h3, h4⟩
    · rintro (⟨h1, h2 | h2 | ⟨h2, h3, h4⟩⟩ | ⟨rfl, rfl, rfl⟩)
      · exact ⟨h1, .inl h2⟩
      · exact ⟨h1, .inr (.inl h2)⟩
      · exact ⟨h1, .inr (.inr ⟨h2, h3, .inl h4⟩)⟩
      · exact ⟨ht, .inr (.inr ⟨rfl, rfl, .inr rfl⟩)⟩
  have gen : ∀ (b c : Bool) (R : Nat → Nat → Int → Prop), (b = true ↔ ∃ s' t' e, Upto n.toNat es s t j s' t' e ∧ RefQ n ms es part s' t' ∧ R s' t' e) → (c = true ↔ R s t (es.getD j 0)) →
      ((b || c) = true ↔ ∃ s' t' e, Upto n.toNat es s t (j + 1) s' t' e ∧ RefQ n ms es part s' t' ∧ R s' t' e) := fun b c R hb hc => by
    rw [Bool.or_eq_true, hb, hc]
    constructor
    · rintro (⟨s', t', e, h1, h2⟩ | h1)
      · exact ⟨s', t', e, (hup s' t' e).2 (.inl h1), h2⟩
      · exact ⟨s, t, _, (hup _ _ _).2 (.inr ⟨rfl, rfl, rfl⟩), hq, h1⟩
    · rintro ⟨s', t', e, h1, h2, h3⟩
      rcases (hup s' t' e).1 h1 with h1 | ⟨rfl, rfl, rfl⟩
      · exact .inl ⟨s', t', e, h1, h2, h3⟩
      · exact .inr h3
  exact ⟨gen f _ (fun s t e => s = 0 ∧ refF n ms t e) h.first (by simp [refF]), gen i _ (fun s t e => refF n ms t e) h.inside (by simp [refF]), gen l _ (fun s t e => (t : Int) = e) h.last (by simp), gen w _ (fun s t e => s = 0 ∧ (t : Int) = e) h.whole (by simp)⟩
theorem Upto.row_end {n : Nat} {es : List Int} {s t s' t' : Nat} {e : Int} (ht : t < n) : Upto n es s t es.length s' t' e ↔ Upto n es s (t + 1) 0 s' t' e := by
  unfold Upto
  rw [List.take_length]
  simp only [List.take_zero, List.not_mem_nil, and_false, or_false]
  constructor
  · rintro ⟨h1, h2 | ⟨h2, h3, h4⟩ | ⟨h2, h3, h4⟩⟩
    · exact ⟨h1, .inl h2⟩
    · exact ⟨h1, .inr ⟨h2, by omega, h4⟩⟩
    · exact ⟨h1, .inr ⟨h2, by omega, h4⟩⟩
  · rintro ⟨h1, h2 | ⟨h2, h3, h4⟩⟩
    · exact ⟨h1, .inl h2⟩
    · by_cases h5 : t' < t
      · exact ⟨h1, .inr (.inl ⟨h2, h5, h4⟩)⟩
      · exact ⟨h1, .inr (.inr ⟨h2, by omega, h4⟩)⟩
theorem Upto.skip {n : Nat} {es : List Int} {s t s' t' : Nat} {e : Int} (h : ¬ (s' = s ∧ t' = t)) : Upto n es s t 0 s' t' e ↔ Upto n es s (t + 1) 0 s' t' e := by
  unfold Upto
  simp only [List.take_zero, List.not_mem_nil, and_false, or_false]
  constructor
  · rintro ⟨h1, h2 | ⟨h2, h3, h4⟩⟩
    · exact ⟨h1, .inl h2⟩
    · exact ⟨h1, .inr ⟨h2, by omega, h4⟩⟩
  · rintro ⟨h1, h2 | ⟨h2, h3, h4⟩⟩
    · exact ⟨h1, .inl h2⟩
    · refine ⟨h1, .inr ⟨h2, ?_, h4⟩⟩
      have : t' ≠ t := fun e => h ⟨h2, e⟩
      omega
theorem Upto.col_end {n : Nat} {es : List Int} {s s' t' : Nat} {e : Int} : Upto n es s n 0 s' t' e ↔ Upto n es (s + 1) 0 0 s' t' e := by
  unfold Upto
  simp only [List.take_zero, List.not_mem_nil, and_false, or_false, Nat.not_lt_zero, false_and]
  constructor
  · rintro ⟨h1, h2 | ⟨h2, h3, h4⟩⟩
    · exact ⟨h1, by omega, h2.2⟩
    · exact ⟨h1, by omega, h4⟩
  · rintro ⟨h1, h2, h3⟩
    by_cases h4 : s' < s
    · exact ⟨h1, .inl ⟨h4, h3⟩⟩
    · exact ⟨h1, .inr ⟨by omega, h1, h3⟩⟩
set_option maxHeartbeats 16000000 in
theorem rstands_spec (n : Int) (ms : List Mv) (es part : List Int) (hc : chk n ms es = 0) (h3 : part.length < 9223372036854775807) (h8 : ∀ x ∈ part, 0 ≤ x ∧ x < 256) :
    ACall Try.prog 22 [rmach n ms es, .c (.rd 1 Int 0 encU8 part)] [] (fun r os => ∃ f i l w : Bool, r = .tup [(false, [.bool f]), (false, [.bool i]), (false, [.bool l]), (false, [.bool w])] ∧ os = [] ∧
      RefSt n ms es part (Upto n.toNat es n.toNat 0 0) f i l w) := by
  obtain ⟨g1, g2, g3, g4, g5, g6⟩ := chk_ok hc
  obtain ⟨m1, m2, m3, m4⟩ := chk_mok hc
  (refine ACall.of_body (nt := 100) (rs := [.tmp 4, .tmp 5, .tmp 6, .tmp 7]) tabOK Try.func22 rfl rfl rfl rfl ?_; simp only [startSt, List.length_cons, List.length_nil, Nat.reduceAdd, Nat.reduceSub, List.replicate_succ, List.replicate_zero, List.cons_append, List.nil_append])
  simp only [VCp, VC_region, VC_draw, VC_seq, aops_nil, aops_cons, put_some, aop, qop, isQuiet, ASt.eval, AV.need, AV.cells, AV.isTup, ned, AC.fits, newObj, avOf, acOf, eInt, eList, ePair, List.getD_cons_zero, List.set_cons_succ, List.set_cons_zero, List.cons_append, List.nil_append, List.length_cons, List.length_nil, List.all_cons, List.all_nil, true_and, and_self, Bool.and_true, Nat.zero_add, Nat.reduceAdd, eq_self, tab_32]
  refine DrawAt.fix 0 ?_
  simp only [ASt.fix, AC.fixp, ASt.setObj, ASt.obj, ASt.map, AV.map, AObj.map, dvs, AC.dv, List.getD_cons_zero, List.set_cons_zero, List.map_cons, List.map_nil, List.drop_zero, cond_true, beq_self_eq_true]
  refine DrawAt.plan tabOK mixed (.take 0 false (.take 1 false (.take 3 false (.alt 2 (.alt 4 (.take 5 true (.take 6 true .done)) .stop) .stop)))) (by decide +kernel) ?_
  simp only [avc_stop, avc_take, avc_alt, qstep, lstep, ownLoad, put_n0, put_some, aop, qop, isQuiet, ASt.eval, ASt.ev, AV.strip, AV.need, AV.ac, AV.isTup, qload, ned, DV.ac, ofCells, TI.isAgg, eInt, eList, ePair, List.getD_cons_succ, List.getD_cons_zero, List.set_cons_succ, List.set_cons_zero, List.map_cons, List.map_nil, List.cons_append, List.nil_append, List.length_cons, List.length_nil, List.take_succ_cons, List.take_nil, List.getElem?_cons_succ, List.getElem?_cons_zero, true_and, and_true, and_self, reduceCtorEq, not_false_eq_true, Bool.false_eq_true, Nat.zero_add, Nat.reduceAdd, Nat.le_refl, eq_self, or_true, tab_32]
  refine CallAt.plain (ways_spec n ms es part ⟨g1, g2⟩ g4 g3 h3 h8) rfl ?_
  rintro r os ⟨rfl, rfl⟩
  simp only [XObj.amap, avc_stop, avc_alt, lstep, put_n0, put_some, aop, isQuiet, ASt.eval, ASt.ev, AV.strip, AV.need, AV.isTup, ned, AV.map, AObj.map, AC.ren, backIx, giveBack, afterCall, List.getD_cons_succ, List.getD_cons_zero, List.set_cons_succ, List.set_cons_zero, List.map_cons, List.map_nil, List.cons_append, List.nil_append, List.length_cons, List.length_nil, List.getElem?_cons_succ, List.getElem?_cons_zero, List.getElem?_nil, true_and, and_true, and_self, Nat.add_zero, Nat.zero_add, Nat.reduceSub, eq_self]
  refine CallAt.plain (any_spec n ms es ⟨g1, g2⟩ g4 g3) rfl ?_
  rintro r os ⟨rfl, rfl⟩
  simp only [XObj.amap, avc_done, avc_take, qstep, ownLoad, VC_region, VC_seq, VC_block, VC_loop, aops_nil, aops_cons, put_some, qop, isQuiet, ASt.eval, AV.need, AV.ac, qfieldAddr, qload, AV.map, AObj.map, DV.ac, ofCells, TI.isAgg, avOf, acOf, AC.ren, backIx, giveBack, afterCall, eInt, eList, ePair, List.getD_cons_succ, List.getD_cons_zero, List.set_cons_succ, List.set_cons_zero, List.map_cons, List.map_nil, List.cons_append, List.nil_append, List.length_cons, List.length_nil, List.drop_zero, List.take_succ_cons, List.take_zero, List.headD_cons, List.getElem?_cons_succ, List.getElem?_cons_zero, List.getElem?_nil, true_and, and_self, not_false_eq_true, Nat.add_zero, Nat.zero_add, Nat.reduceAdd, Nat.reduceSub, Nat.reduceLeDiff, eq_self, Nat.succ_ne_self, or_true, tab_3, tab_32]
  refine LoopAt.inv (ι := Nat × Bool × Bool × Bool × Bool) (T := tab) (fun x => [(21, .c (.int .i64 x.1)), (4, .c (.bool x.2.1)), (5, .c (.bool x.2.2.1)), (6, .c (.bool x.2.2.2.1)), (7, .c (.bool x.2.2.2.2))])
    (fun x => [.gone, rowsB (mat n.toNat (wayF ms part)), rowsB (mat n.toNat (fun s => swN ms n.toNat (2 ^ s)))])
    (fun x => x.1 ≤ n.toNat ∧ RefSt n ms es part (Upto n.toNat es x.1 0 0) x.2.1 x.2.2.1 x.2.2.2.1 x.2.2.2.2) (fun x => n.toNat - x.1) tabOK (0, false, false, false, false) ⟨Nat.zero_le _, ?_⟩ ?_ ?_
  · have no : ∀ s t e, ¬ Upto n.toNat es 0 0 0 s t e := fun s t e => by unfold Upto; simp
    refine ⟨?_, ?_, ?_, ?_⟩ <;> (constructor <;> intro h) <;> first | cases h; done | (obtain ⟨s, t, e, h, _⟩ := h; exact absurd h (no s t e))
  · (simp only [LessC, headSt, dsts, opDsts, resetS, putsS, lessS, lessO, belowS, belowO, AV.below, AObj.below, AC.below, XObj.below, List.set_cons_succ, List.set_cons_zero, List.cons_append, List.nil_append, List.append_nil, List.length_cons, List.length_nil, List.all_cons, List.all_nil, Nat.reduceLT, Int.cast_ofNat_Int, AV.c.injEq, and_self, reduceCtorEq, Bool.and_true, Nat.zero_add, Nat.reduceAdd, Nat.reduceLeDiff, eq_self, decide_true, or_true] <;> try omega)
  rintro ⟨s, f, i, l, w⟩ ⟨hs, hR⟩
  simp only [VCp, headSt, dsts, opDsts, resetS, putsS, VC_skip, VC_region, VC_seq, VC_cond, VC_block, VC_loop, VC_exit, VC_ret, aops_nil, aops_cons, put_some, qop, isQuiet, ASt.eval, AV.need, AV.ac, qbin, binInt, qfieldAddr, qload, DV.ac, ofCells, TI.isAgg, isScalar, avOf, acOf, eInt, eList, ePair, List.getD_cons_succ, List.getD_cons_zero, List.set_cons_succ, List.set_cons_zero, List.map_cons, List.map_nil, List.cons_append, List.nil_append, List.append_nil, List.length_cons, List.length_nil, List.drop_zero, List.take_succ_cons, List.take_zero, List.headD_cons, List.getElem?_cons_zero, decide_eq_true_eq, decide_eq_false_iff_not, Int.not_lt, true_and, and_self, not_false_eq_true, if_true, Nat.zero_add, Nat.reduceAdd, Nat.reduceLeDiff, eq_self, Nat.succ_ne_self, tab_3, tab_32] at hs hR ⊢
  refine ⟨fun h => ?_, fun h => ?_⟩
  · have hs' : s < n.toNat := by omega
    refine LoopAt.inv (ι := Nat × Bool × Bool × Bool × Bool) (T := tab) (fun x => [(26, .c (.int .i64 x.1)), (4, .c (.bool x.2.1)), (5, .c (.bool x.2.2.1)), (6, .c (.bool x.2.2.2.1)), (7, .c (.bool x.2.2.2.2))])
      (fun x => [.gone, rowsB (mat n.toNat (wayF ms part)), rowsB (mat n.toNat (fun s => swN ms n.toNat (2 ^ s)))])
      (fun x => x.1 ≤ n.toNat ∧ RefSt n ms es part (Upto n.toNat es s x.1 0) x.2.1 x.2.2.1 x.2.2.2.1 x.2.2.2.2) (fun x => n.toNat - x.1) tabOK (0, f, i, l, w) ⟨Nat.zero_le _, hR⟩ ?_ ?_
    · (simp only [LessC, headSt, dsts, opDsts, resetS, putsS, lessS, lessO, belowS, belowO, AV.below, AObj.below, AC.below, XObj.below, List.set_cons_succ, List.set_cons_zero, List.cons_append, List.nil_append, List.append_nil, List.length_cons, List.length_nil, List.all_cons, List.all_nil, Nat.reduceLT, Int.cast_ofNat_Int, AV.c.injEq, and_self, reduceCtorEq, Bool.and_true, Nat.zero_add, Nat.reduceAdd, Nat.reduceLeDiff, eq_self, decide_true, or_true] <;> try omega)
    rintro ⟨t, f2, i2, l2, w2⟩ ⟨ht, hR⟩
    have hm1 : (mat n.toNat (wayF ms part)).getD s [] = bitsL n.toNat (wayF ms part s) := mat_get hs'
    have hm2 : (mat n.toNat (fun s => swN ms n.toNat (2 ^ s))).getD 0 [] = bitsL n.toNat (swN ms n.toNat (2 ^ 0)) := mat_get (by omega)
    have hb2 : (bitsL n.toNat (swN ms n.toNat (2 ^ 0))).getD s false = (swN ms n.toNat (2 ^ 0)).testBit s := bitsL_get hs'
    simp only [VCp, headSt, dsts, opDsts, resetS, putsS, VC_skip, VC_region, VC_seq, VC_cond, VC_block, VC_loop, VC_exit, VC_ret, aops_nil, aops_cons, put_some, qop, isQuiet, ASt.eval, AV.need, AV.ac, onG, guardOf, qbin, binInt, qpick, qpick0, qun, qlen, qindexAddr, qfieldAddr, qload, ASt.obj, DV.ac, ofCells, TI.isAgg, isScalar, avOf, acOf, eInt, eBool, eList, ePair, List.getD_cons_succ, List.getD_cons_zero, List.set_cons_succ, List.set_cons_zero, List.map_cons, List.map_nil, List.cons_append, List.nil_append, List.append_nil, List.length_cons, List.length_nil, List.drop_succ_cons, List.drop_zero, List.take_succ_cons, List.take_nil, List.headD_cons, List.getElem?_cons_succ, List.getElem?_cons_zero, Option.bind_some, Int.reduceLE, Int.toNat_natCast, Int.reduceToNat, implies_true, imp_self, beq_false, decide_eq_true_eq, decide_eq_false_iff_not, Bool.not_eq_true', Bool.cond_true_left, Bool.or_eq_true, Bool.or_eq_false_iff, Int.not_lt, true_and, and_true, and_self, reduceCtorEq, not_false_eq_true, Bool.true_and, if_true, if_false, Nat.zero_add, Nat.reduceEqDiff, Nat.le_refl, eq_self, Nat.succ_ne_self, tab_3, tab_4, tab_26, tab_32, tab_113, tab_116, hm1, hm2, hb2, mat_len, bitsL_len] at ht hR ⊢
    refine ⟨fun h => ?_, fun h => ?_⟩
    · have ht' : t < n.toNat := by omega
      have hb1 : (bitsL n.toNat (wayF ms part s)).getD t false = (wayF ms part s).testBit t := bitsL_get ht'
      simp only [hb1]
      (repeat (first | refine ⟨by omega, ?_⟩ | refine ⟨fun _ => by omega, ?_⟩))
      refine ⟨fun hc' => ?_, fun hc' => ?_⟩
      · refine ⟨(t + 1, f2, i2, l2, w2), ⟨by dsimp only; omega, ?_⟩, by dsimp only; omega, ?_⟩
        · dsimp only
          refine hR.congr fun s' t' e hq => Upto.skip ?_
          rintro ⟨rfl, rfl⟩
          rcases hc' with hc' | hc'
          · rw [hq.1] at hc'; cases hc'
          · rw [hq.2] at hc'; cases hc'
        · (simp only [LessC, lessS, lessO, belowS, belowO, AV.below, AObj.below, AC.below, XObj.below, List.length_cons, List.length_nil, List.all_cons, List.all_nil, Nat.reduceLT, Int.cast_ofNat_Int, Int.natCast_add, AV.c.injEq, AC.int.injEq, true_and, and_true, and_self, reduceCtorEq, Bool.and_true, Nat.zero_add, Nat.reduceAdd, Nat.reduceLeDiff, eq_self, decide_true, or_true, or_false, false_or] <;> try omega)
          exact i64_in _ (by omega)
      · have hq : RefQ n ms es part s t := ⟨by simpa using hc'.1, by simpa using hc'.2⟩
        refine LoopAt.inv (ι := Nat × Bool × Bool × Bool × Bool) (T := tab) (fun x => [(49, .c (.int .i64 x.1)), (4, .c (.bool x.2.1)), (5, .c (.bool x.2.2.1)), (6, .c (.bool x.2.2.2.1)), (7, .c (.bool x.2.2.2.2))])
          (fun x => [.gone, rowsB (mat n.toNat (wayF ms part)), rowsB (mat n.toNat (fun s => swN ms n.toNat (2 ^ s)))])
          (fun x => x.1 ≤ es.length ∧ RefSt n ms es part (Upto n.toNat es s t x.1) x.2.1 x.2.2.1 x.2.2.2.1 x.2.2.2.2) (fun x => es.length - x.1) tabOK (0, f2, i2, l2, w2) ⟨Nat.zero_le _, hR⟩ ?_ ?_
        · (simp only [LessC, headSt, dsts, opDsts, resetS, putsS, lessS, lessO, belowS, belowO, AV.below, AObj.below, AC.below, XObj.below, List.set_cons_succ, List.set_cons_zero, List.cons_append, List.nil_append, List.append_nil, List.length_cons, List.length_nil, List.all_cons, List.all_nil, Nat.reduceLT, Int.cast_ofNat_Int, AV.c.injEq, and_self, reduceCtorEq, Bool.and_true, Nat.zero_add, Nat.reduceAdd, Nat.reduceLeDiff, eq_self, decide_true, or_true] <;> try omega)
        rintro ⟨j, f3, i3, l3, w3⟩ ⟨hj, hR3⟩
        have hm3 : (mat n.toNat (fun s => swN ms n.toNat (2 ^ s))).getD t [] = bitsL n.toNat (swN ms n.toNat (2 ^ t)) := mat_get ht'
        simp only [VCp, headSt, dsts, opDsts, resetS, putsS, VC_skip, VC_region, VC_seq, VC_cond, VC_block, VC_exit, VC_ret, aops_nil, aops_cons, put_some, qop, isQuiet, ASt.eval, AV.need, AV.ac, onG, guardOf, qbin, binInt, qpick, qpick0, qindexAddr, qload, ASt.obj, DV.ac, ofCells, TI.isAgg, isScalar, avOf, acOf, eInt, eBool, eList, List.getD_cons_succ, List.getD_cons_zero, List.set_cons_succ, List.set_cons_zero, List.map_cons, List.map_nil, List.cons_append, List.nil_append, List.append_nil, List.length_cons, List.length_nil, List.drop_zero, List.take_succ_cons, List.take_nil, List.headD_cons, List.getElem?_cons_succ, List.getElem?_cons_zero, Option.bind_some, Int.toNat_natCast, implies_true, imp_self, beq_false, beq_true, decide_eq_true_eq, decide_eq_false_iff_not, Bool.not_eq_true', Bool.cond_true_left, Bool.cond_false_right, Bool.and_eq_true, Int.not_lt, true_and, and_true, and_self, reduceCtorEq, not_false_eq_true, Bool.true_and, if_true, if_false, Nat.zero_add, Nat.reduceEqDiff, Nat.le_refl, eq_self, Nat.succ_ne_self, tab_3, tab_4, tab_26, tab_113, tab_116, hm3, mat_len, bitsL_len] at hj hR3 ⊢
        refine ⟨fun h => ?_, fun h => ?_⟩
        · have hj' : j < es.length := by omega
          have he := g5 (es.getD j 0) (by simp [List.getD, hj'])
          have hb3 : (bitsL n.toNat (swN ms n.toNat (2 ^ t))).getD (es.getD j 0).toNat false = (swN ms n.toNat (2 ^ t)).testBit (es.getD j 0).toNat := bitsL_get (by omega)
          have hst := hR3.step hj' ht' hq
          simp only [hb3]
          (repeat (first | refine ⟨by omega, ?_⟩ | refine ⟨fun _ => by omega, ?_⟩))
          refine ⟨(j + 1, f3 || (decide ((s : Int) = 0) && (swN ms n.toNat (2 ^ t)).testBit (es.getD j 0).toNat), i3 || (swN ms n.toNat (2 ^ t)).testBit (es.getD j 0).toNat, l3 || decide ((t : Int) = es.getD j 0), w3 || (decide ((s : Int) = 0) && decide ((t : Int) = es.getD j 0))), ⟨by dsimp only; omega, hst⟩, by dsimp only; omega, ?_⟩
          (simp only [LessC, lessS, lessO, belowS, belowO, AV.below, AObj.below, AC.below, XObj.below, List.length_cons, List.length_nil, List.all_cons, List.all_nil, Nat.reduceLT, Int.cast_ofNat_Int, Int.natCast_add, AV.c.injEq, AC.int.injEq, true_and, and_true, and_self, reduceCtorEq, Bool.and_true, Nat.zero_add, Nat.reduceAdd, Nat.reduceLeDiff, eq_self, decide_true, or_true, or_false, false_or] <;> try omega)
          exact i64_in _ (by omega)
        · have : j = es.length := by omega
          subst this
          refine ⟨(t + 1, f3, i3, l3, w3), ⟨by dsimp only; omega, hR3.congr fun s' t' e _ => Upto.row_end ht'⟩, by dsimp only; omega, ?_⟩
          (simp only [LessC, lessS, lessO, belowS, belowO, AV.below, AObj.below, AC.below, XObj.below, List.length_cons, List.length_nil, List.all_cons, List.all_nil, Nat.reduceLT, Int.cast_ofNat_Int, Int.natCast_add, AV.c.injEq, AC.int.injEq, true_and, and_true, and_self, reduceCtorEq, Bool.and_true, Nat.zero_add, Nat.reduceAdd, Nat.reduceLeDiff, eq_self, decide_true, or_true, or_false, false_or] <;> try omega)
          exact i64_in _ (by omega)
    · have : t = n.toNat := by omega
      subst this
      refine ⟨(s + 1, f2, i2, l2, w2), ⟨by dsimp only; omega, hR.congr fun s' t' e _ => Upto.col_end⟩, by dsimp only; omega, ?_⟩
      (simp only [LessC, lessS, lessO, belowS, belowO, AV.below, AObj.below, AC.below, XObj.below, List.length_cons, List.length_nil, List.all_cons, List.all_nil, Nat.reduceLT, Int.cast_ofNat_Int, Int.natCast_add, AV.c.injEq, AC.int.injEq, true_and, and_true, and_self, reduceCtorEq, Bool.and_true, Nat.zero_add, Nat.reduceAdd, Nat.reduceLeDiff, eq_self, decide_true, or_true, or_false, false_or] <;> try omega)
      exact i64_in _ (by omega)
  · have : s = n.toNat := by omega
    subst this
    (refine RetAt.leaf ?_ ?_ <;> simp only [resOf, tupOf, compOf, ASt.eval, AV.strip, AV.need, AV.map, findIx, AC.ren, List.getD_cons_succ, List.getD_cons_zero, List.map_cons, List.map_nil, true_and, and_self, eq_self])
    exact ⟨f, i, l, w, rfl, hR⟩
end Go.Vc
