/- The program's Show. -/
import Derived.Test.YtmikejeohdleeaaHD
set_option linter.unusedVariables false
set_option linter.unusedSimpArgs false
namespace Go.Vc
open Go.Proofs Go.IntWalk
set_option maxRecDepth 100000
def goodF (n : Nat) (ms : List Mv) (part : List Int) (q : Nat) : Nat := maskOf (fun s => decide (runF ms (2 ^ s) part &&& q ≠ 0)) n
theorem goodF_bit {n : Nat} {ms : List Mv} {part : List Int} {q i : Nat} : (goodF n ms part q).testBit i = true ↔ i < n ∧ runF ms (2 ^ i) part &&& q ≠ 0 := by
  unfold goodF
  rw [maskOf_bit]
  simp
def hereF (ms : List Mv) (good : Nat) (part before : List Int) : Nat := runF ms (runF ms 1 before &&& good) part
/-- what Show answers, q the states from which the ends can be come to -/
def showF (n : Nat) (ms : List Mv) (es part : List Int) (q : Nat) : Option (List Int) :=
  match shortF n ms 1 (goodF n ms part q) with
  | none => none
  | some before => match shortF n ms (hereF ms (goodF n ms part q) part before) (endsF es) with
    | none => none
    | some behind => some (before ++ part ++ behind)
theorem shortF_len {n : Nat} {ms : List Mv} {a b : Nat} {t : List Int} (h : shortF n ms a b = some t) : t.length ≤ n ∧ ∀ x ∈ t, 0 ≤ x ∧ x < 256 := by
  unfold shortF at h
  split at h
  · rename_i d hd
    cases h
    have := List.mem_of_find?_eq_some hd
    simp at this
    exact ⟨by have := walkW_len (nxR ms (reachF ms b)) d (a &&& reachF ms b d); omega, walkW_byte _ _ _⟩
  · cases h
theorem orF_below {n : Nat} {cond : Mv → Bool} {t : Mv → Nat} {ms : List Mv} {m : Nat} (ht : ∀ p ∈ ms, t p < n) (hm : Below n m) : Below n (orF cond t ms m) := fun i hi => by
  rcases orF_bit.1 hi with h | ⟨p, hp, _, rfl⟩
  · exact hm i h
  · exact ht p hp
theorem below_zero {n : Nat} : Below n 0 := fun i h => by simp at h
theorem runF_below {n : Nat} {ms : List Mv} (ht : ∀ p ∈ ms, tgt p < n) {m : Nat} (hm : Below n m) (text : List Int) : Below n (runF ms m text) := by
  unfold runF
  induction text generalizing m with
  | nil => exact hm
  | cons c text ih => exact ih (orF_below ht below_zero)
theorem and_below {n a b : Nat} (h : Below n a) : Below n (a &&& b) := fun i hi => by
  rw [Nat.testBit_and, Bool.and_eq_true] at hi
  exact h i hi.1
theorem and_lt {a b : Nat} (h : a < 2 ^ 32) : a &&& b < 2 ^ 32 := Nat.lt_of_le_of_lt Nat.and_le_left h
abbrev rU (xs : List Int) : AC := .rd 1 Int 0 (fun n => [.int .u8 n]) xs
def ShowQ (n : Int) (ms : List Mv) (es part : List Int) (r : AV) (os : List AObj) : Prop := os = [] ∧
  (chk n ms es ≠ 0 → r = .tup [(false, [.nil]), (false, [.bool false]), (false, [.int .i64 (chk n ms es)])]) ∧
  (chk n ms es = 0 → ∃ q, Clos tgt frm ms (endsF es) q ∧ match showF n.toNat ms es part q with
    | none => r = .tup [(false, [.nil]), (false, [.bool false]), (false, [.int .i64 0])]
    | some t => r = .tup [(false, [rU t]), (false, [.bool true]), (false, [.int .i64 0])])
theorem ShowQ.none {n : Int} {ms : List Mv} {es part : List Int} {r : AV} {os : List AObj} (hc : chk n ms es = 0) {q : Nat} (hq : Clos tgt frm ms (endsF es) q) (h : showF n.toNat ms es part q = none)
    (ho : os = []) (hr : r = .tup [(false, [.nil]), (false, [.bool false]), (false, [.int .i64 0])]) : ShowQ n ms es part r os := ⟨ho, fun h => absurd hc h, fun _ => ⟨q, hq, by rw [h]; exact hr⟩⟩
theorem ShowQ.some {n : Int} {ms : List Mv} {es part : List Int} {r : AV} {os : List AObj} (hc : chk n ms es = 0) {q : Nat} (hq : Clos tgt frm ms (endsF es) q) {t : List Int} (h : showF n.toNat ms es part q = some t)
    (ho : os = []) (hr : r = .tup [(false, [rU t]), (false, [.bool true]), (false, [.int .i64 0])]) : ShowQ n ms es part r os := ⟨ho, fun h => absurd hc h, fun _ => ⟨q, hq, by rw [h]; exact hr⟩⟩
set_option maxHeartbeats 8000000 in
theorem show_spec (n : Int) (ms : List Mv) (es part : List Int) (h1 : ms.length < 9223372036854775807) (h2 : es.length < 9223372036854775807) (h3 : part.length ≤ 140737488351232) :
    ACall Try.prog 46 [mach n ms es, .c (.rd 1 Int 0 encU8 part)] [] (ShowQ n ms es part) := by
  (refine ACall.of_body (nt := 73) (rs := [.tmp 4, .tmp 5, .tmp 6]) tabOK Try.func46 rfl rfl rfl rfl ?_; simp only [startSt, List.length_cons, List.length_nil, Nat.reduceAdd, Nat.reduceSub, List.replicate_succ, List.replicate_zero, List.cons_append, List.nil_append])
  simp only [VCp, VC_region, VC_seq, aops_nil, aops_cons, put_some, aop, qop, isQuiet, ASt.eval, ASt.ev, AV.strip, AV.need, AV.ac, AV.cells, AV.isTup, qload, ned, AC.fits, newObj, ASt.obj, ofCells, TI.isAgg, avOf, acOf, eInt, eList, ePair, List.getD_cons_succ, List.getD_cons_zero, List.set_cons_succ, List.set_cons_zero, List.map_cons, List.map_nil, List.cons_append, List.nil_append, List.length_cons, List.length_nil, List.drop_zero, List.take_succ_cons, List.take_nil, List.all_cons, List.all_nil, true_and, and_self, reduceCtorEq, not_false_eq_true, Bool.and_true, cond_true, beq_self_eq_true, Nat.zero_add, Nat.reduceAdd, Nat.le_refl, eq_self, tab_28]
  refine CallAt.plain (check_spec n ms es h1 h2) rfl ?_
  rintro r os ⟨rfl, rfl⟩
  simp only [VC_skip, VC_region, VC_draw, VC_seq, VC_cond, VC_ret, aops_nil, aops_cons, put_some, qop, isQuiet, ASt.eval, AV.need, AV.ac, qbin, binInt, AV.map, isScalar, avOf, acOf, AC.ren, giveBack, afterCall, eInt, List.getD_cons_succ, List.getD_cons_zero, List.set_cons_succ, List.set_cons_zero, List.map_nil, List.append_nil, List.length_cons, List.length_nil, decide_eq_false_iff_not, Bool.not_eq_true', true_and, and_self, Bool.and_true, cond_true, beq_self_eq_true, Nat.zero_add, eq_self, tab_34]
  refine ⟨fun hc => ?_, fun hc => ?_⟩
  · (refine RetAt.leaf ?_ ?_ <;> simp only [resOf, tupOf, compOf, ASt.eval, AV.strip, AV.need, AV.map, findIx, AC.ren, List.getD_cons_succ, List.getD_cons_zero, List.map_cons, List.map_nil, and_self])
    exact ⟨rfl, fun _ => rfl, fun h => absurd h hc⟩
  have hc0 : chk n ms es = 0 := by simpa using hc
  obtain ⟨c1, c2, c3, c4, c5, c6⟩ := chk_ok hc0
  obtain ⟨g1, g2, g3, g4⟩ := chk_mok hc0
  have htn : ∀ p ∈ ms, tgt p < n.toNat := fun p hp => (frm_ok c4 p hp).2
  have e2 : endsF es < 2 ^ 32 := endsF_lt g2
  refine DrawAt.fix 0 ?_
  simp only [ASt.fix, AC.fixp, ASt.setObj, ASt.obj, ASt.map, AV.map, AObj.map, dvs, AC.dv, List.getD_cons_zero, List.set_cons_zero, List.map_cons, List.map_nil, List.drop_zero, cond_true, beq_self_eq_true]
  refine DrawAt.plan tabOK mixed (.take 0 false (.take 1 false (.alt 2 (.alt 3 (.take 4 true .done) .stop) .stop))) (by decide +kernel) ?_
  simp only [avc_stop, avc_take, avc_alt, qstep, lstep, ownLoad, put_n0, put_some, aop, qop, isQuiet, ASt.eval, ASt.ev, AV.strip, AV.need, AV.ac, AV.isTup, qload, ned, DV.ac, ofCells, TI.isAgg, eInt, eList, ePair, List.getD_cons_succ, List.getD_cons_zero, List.set_cons_succ, List.set_cons_zero, List.map_cons, List.map_nil, List.cons_append, List.nil_append, List.length_cons, List.length_nil, List.take_succ_cons, List.take_nil, List.getElem?_cons_succ, List.getElem?_cons_zero, true_and, and_true, and_self, reduceCtorEq, not_false_eq_true, Bool.false_eq_true, Nat.zero_add, Nat.reduceAdd, Nat.le_refl, eq_self, or_true, tab_28]
  refine CallAt.plain (ends_spec n ms es g2 g4) rfl ?_
  rintro r os ⟨rfl, rfl⟩
  simp only [avc_stop, avc_alt, lstep, put_n0, put_some, aop, isQuiet, ASt.eval, ASt.ev, AV.strip, AV.need, AV.isTup, ned, AV.map, AC.ren, giveBack, afterCall, List.getD_cons_succ, List.getD_cons_zero, List.set_cons_succ, List.set_cons_zero, List.map_cons, List.map_nil, List.append_nil, List.length_cons, List.length_nil, List.getElem?_cons_succ, List.getElem?_cons_zero, true_and, and_true, and_self, Nat.zero_add, eq_self]
  refine CallAt.plain (lead_spec n ms es (endsF es) e2 g1 g3) rfl ?_
  rintro r os ⟨q, rfl, hq, rfl⟩
  simp only [avc_done, avc_take, qstep, ownLoad, VC_region, VC_seq, VC_block, VC_loop, aops_nil, aops_cons, put_some, qop, isQuiet, ASt.eval, AV.need, AV.ac, qfieldAddr, qload, AV.map, DV.ac, ofCells, TI.isAgg, avOf, acOf, AC.ren, giveBack, afterCall, eInt, eList, ePair, List.getD_cons_succ, List.getD_cons_zero, List.set_cons_succ, List.set_cons_zero, List.map_cons, List.map_nil, List.cons_append, List.nil_append, List.append_nil, List.length_cons, List.length_nil, List.drop_zero, List.take_succ_cons, List.take_zero, List.headD_cons, List.getElem?_cons_succ, List.getElem?_cons_zero, true_and, and_self, not_false_eq_true, Nat.zero_add, Nat.reduceAdd, Nat.reduceLeDiff, eq_self, Nat.succ_ne_self, or_true, tab_3, tab_28]
  refine LoopAt.inv (ι := Nat) (T := tab) (fun s => [(26, .c (.int .i64 s)), (9, .c (.int .u32 (goodF s ms part q)))]) (fun s => [])
    (fun s => s ≤ n.toNat) (fun s => n.toNat - s) tabOK 0 (Nat.zero_le _) ?_ ?_
  · (simp only [LessC, headSt, dsts, opDsts, resetS, putsS, lessS, lessO, belowS, belowO, AV.below, AC.below, List.set_cons_succ, List.set_cons_zero, List.cons_append, List.nil_append, List.append_nil, List.length_nil, List.all_cons, List.all_nil, Int.cast_ofNat_Int, AV.c.injEq, AC.int.injEq, true_and, and_true, and_self, reduceCtorEq, Bool.and_true, Nat.le_refl, eq_self, or_true, false_or] <;> try omega)
    rfl
  intro s hs
  simp only [VCp, headSt, dsts, opDsts, resetS, putsS, VC_skip, VC_region, VC_draw, VC_seq, VC_cond, VC_block, VC_exit, aops_nil, aops_cons, put_some, aop, qop, isQuiet, ASt.eval, ASt.ev, AV.strip, AV.need, AV.ac, AV.isTup, qbin, binInt, qload, ned, DV.ac, ofCells, TI.isAgg, isScalar, avOf, acOf, eInt, eList, ePair, List.getD_cons_succ, List.getD_cons_zero, List.set_cons_succ, List.set_cons_zero, List.map_cons, List.map_nil, List.cons_append, List.nil_append, List.append_nil, List.length_cons, List.length_nil, List.take_succ_cons, List.take_nil, decide_eq_true_eq, decide_eq_false_iff_not, Int.not_lt, true_and, and_self, reduceCtorEq, not_false_eq_true, if_true, Nat.zero_add, Nat.reduceAdd, Nat.le_refl, eq_self, tab_3, tab_28]
  refine ⟨fun h => ?_, fun h => ?_⟩
  · have hs' : s < n.toNat := by omega
    have hone : shl .u32 1 (s : Int) = ((2 ^ s : Nat) : Int) := u32_one (by omega)
    have hp32 : 2 ^ s < 2 ^ 32 := pow_lt32 (by omega)
    have hgl : goodF s ms part q < 2 ^ 32 := maskOf_lt _ (by omega)
    have hor := orI (k := (s : Int)) hgl (by omega) (by omega)
    rw [Int.toNat_natCast, hone] at hor
    have hrl := runF_lt g1 (m := 2 ^ s) hp32 part
    have hand := u32_and hrl hq.lt
    refine DrawAt.plan tabOK mixed (.take 0 true (.take 1 false (.take 2 true (.take 3 true (.take 5 false (.alt 4 (.take 6 true (.take 7 true .done)) .stop)))))) (by decide +kernel) ?_
    simp only [avc_stop, avc_take, avc_alt, qstep, lstep, ownLoad, put_n0, put_some, aop, qop, isQuiet, ASt.eval, ASt.ev, AV.strip, AV.need, AV.ac, AV.isTup, qbin, binInt, qload, ned, DV.ac, ofCells, TI.isAgg, isScalar, avOf, acOf, eInt, eList, ePair, List.getD_cons_succ, List.getD_cons_zero, List.set_cons_succ, List.set_cons_zero, List.map_cons, List.map_nil, List.cons_append, List.nil_append, List.length_cons, List.length_nil, List.take_succ_cons, List.take_nil, List.getElem?_cons_succ, List.getElem?_cons_zero, true_and, and_true, and_self, reduceCtorEq, not_false_eq_true, Bool.false_eq_true, Nat.zero_add, Nat.reduceAdd, Nat.le_refl, eq_self, or_true, tab_28, tab_108, hone]
    refine ⟨by omega, ?_⟩
    refine CallAt.plain (run_spec n ms es (2 ^ s) part hp32 g1 g3 (by omega)) rfl ?_
    rintro r os ⟨rfl, rfl⟩
    simp only [avc_done, avc_take, qstep, ownLoad, VC_skip, VC_region, VC_cond, aops_nil, aops_cons, put_some, qop, isQuiet, ASt.eval, AV.need, AV.ac, qbin, binInt, AV.map, isScalar, avOf, acOf, AC.ren, giveBack, afterCall, eInt, List.getD_cons_succ, List.getD_cons_zero, List.set_cons_succ, List.set_cons_zero, List.map_nil, List.append_nil, List.length_nil, List.getElem?_cons_succ, List.getElem?_cons_zero, decide_eq_false_iff_not, Bool.not_eq_true', true_and, and_self, eq_self, or_true, tab_3, tab_108, hone, hand]
    have hnext : goodF (s + 1) ms part q = if runF ms (2 ^ s) part &&& q ≠ 0 then goodF s ms part q ||| 2 ^ s else goodF s ms part q := by
      have : goodF (s + 1) ms part q = if decide (runF ms (2 ^ s) part &&& q ≠ 0) = true then goodF s ms part q ||| 2 ^ s else goodF s ms part q := rfl
      rw [this]
      simp only [decide_eq_true_eq]
    refine ⟨fun hc => ⟨by omega, s + 1, by omega, by omega, ?_⟩, fun hc => ⟨s + 1, by omega, by omega, ?_⟩⟩
    · (simp only [LessC, lessS, lessO, belowS, belowO, AV.below, AC.below, List.length_nil, List.all_cons, List.all_nil, Int.cast_ofNat_Int, Int.natCast_add, AV.c.injEq, AC.int.injEq, true_and, and_true, and_self, reduceCtorEq, Bool.and_true, Nat.le_refl, eq_self, or_true, or_false, false_or] <;> try omega)
      rw [hor, hnext, if_pos (by intro e; rw [e] at hc; exact hc rfl)]
      exact ⟨rfl, i64_in _ (by omega)⟩
    · (simp only [LessC, lessS, lessO, belowS, belowO, AV.below, AC.below, List.length_nil, List.all_cons, List.all_nil, Int.cast_ofNat_Int, Int.natCast_add, AV.c.injEq, AC.int.injEq, true_and, and_true, and_self, reduceCtorEq, Bool.and_true, Nat.le_refl, eq_self, or_true, or_false, false_or] <;> try omega)
      rw [hnext, if_neg (fun h => h (by first | exact_mod_cast hc | simpa using hc))]
      exact ⟨rfl, i64_in _ (by omega)⟩
  have : s = n.toNat := by omega
  subst this
  have hgl : goodF n.toNat ms part q < 2 ^ 32 := maskOf_lt _ (by omega)
  have hb1 : Below n.toNat 1 := fun i hi => by have := bit1 hi; omega
  refine CallAt.plain (path_spec n ms es 1 (goodF n.toNat ms part q) (by decide) hb1 hgl ⟨c1, c2⟩ c4 c3) rfl ?_
  intro r os hP
  cases hs1 : shortF n.toNat ms 1 (goodF n.toNat ms part q) with
  | none =>
    rw [hs1] at hP
    obtain ⟨rfl, rfl⟩ := hP
    simp only [VC_skip, VC_region, VC_draw, VC_seq, VC_cond, VC_ret, aops_nil, aops_cons, put_some, qop, isQuiet, ASt.eval, AV.need, AV.ac, qun, qextract, AV.map, avOf, acOf, AC.ren, giveBack, afterCall, List.getD_cons_succ, List.getD_cons_zero, List.set_cons_succ, List.set_cons_zero, List.map_cons, List.map_nil, List.append_nil, List.length_cons, List.length_nil, List.headD_cons, List.getElem?_cons_succ, List.getElem?_cons_zero, true_and, and_true, and_self, forall_const, false_implies, Bool.and_true, Bool.true_eq_false, Bool.not_false, cond_true, beq_self_eq_true, Nat.zero_add, eq_self]
    (refine RetAt.leaf ?_ ?_ <;> simp only [resOf, tupOf, compOf, ASt.eval, AV.strip, AV.need, AV.map, findIx, AC.ren, List.getD_cons_succ, List.getD_cons_zero, List.map_cons, List.map_nil, and_self])
    exact ShowQ.none hc0 hq (by unfold showF; rw [hs1]) rfl rfl
  | some before =>
    rw [hs1] at hP
    obtain ⟨rfl, rfl⟩ := hP
    obtain ⟨hl1, hb8⟩ := shortF_len hs1
    simp only [VC_skip, VC_region, VC_draw, VC_seq, VC_cond, VC_ret, aops_nil, aops_cons, put_some, qop, isQuiet, ASt.eval, AV.need, AV.ac, qun, qextract, AV.map, AObj.map, avOf, acOf, AC.ren, backIx, giveBack, afterCall, List.getD_cons_succ, List.getD_cons_zero, List.set_cons_succ, List.set_cons_zero, List.map_cons, List.map_nil, List.nil_append, List.length_cons, List.length_nil, List.headD_cons, List.getElem?_cons_succ, List.getElem?_cons_zero, List.getElem?_nil, true_and, and_self, forall_const, false_implies, Bool.and_true, Bool.false_eq_true, Bool.not_true, cond_true, beq_self_eq_true, Nat.add_zero, Nat.zero_add, Nat.reduceSub, eq_self]
    refine DrawAt.freeze 0 ?_
    simp only [ASt.setObj, ASt.obj, ASt.map, ASt.freeze, AV.map, AObj.map, AC.frz, List.getD_cons_zero, List.set_cons_zero, List.map_cons, List.map_nil, cond_true, beq_self_eq_true]
    refine DrawAt.plan tabOK mixed (.take 0 false (.take 1 false (.take 2 false (.take 4 false (.take 6 false (.alt 3 (.take 5 true (.alt 7 (.take 8 true .done) .stop)) .stop)))))) (by decide +kernel) ?_
    simp only [avc_stop, avc_take, avc_alt, qstep, lstep, ownLoad, put_n0, put_some, aop, qop, isQuiet, ASt.eval, ASt.ev, AV.strip, AV.need, AV.ac, AV.isTup, qload, ned, DV.ac, ofCells, TI.isAgg, avOf, acOf, eInt, eList, ePair, List.getD_cons_succ, List.getD_cons_zero, List.set_cons_succ, List.set_cons_zero, List.map_cons, List.map_nil, List.cons_append, List.nil_append, List.length_cons, List.length_nil, List.take_succ_cons, List.take_nil, List.getElem?_cons_succ, List.getElem?_cons_zero, true_and, and_true, and_self, reduceCtorEq, not_false_eq_true, Bool.false_eq_true, Nat.zero_add, Nat.reduceAdd, Nat.le_refl, eq_self, or_true, tab_28]
    have r1 := runF_lt g1 (m := 1) (by decide) before
    have hand := u32_and r1 hgl
    refine CallAt.plain (run_spec n ms es 1 before (by decide) g1 g3 (by omega)) rfl ?_
    rintro r os ⟨rfl, rfl⟩
    simp only [avc_stop, avc_take, avc_alt, qstep, lstep, ownLoad, put_n0, put_some, aop, qop, isQuiet, ASt.eval, ASt.ev, AV.strip, AV.need, AV.ac, AV.isTup, qbin, binInt, ned, AV.map, isScalar, AC.ren, giveBack, afterCall, eInt, List.getD_cons_succ, List.getD_cons_zero, List.set_cons_succ, List.set_cons_zero, List.map_cons, List.map_nil, List.append_nil, List.length_cons, List.length_nil, List.getElem?_cons_succ, List.getElem?_cons_zero, true_and, and_true, and_self, Nat.zero_add, eq_self, or_true, tab_108, hand]
    refine CallAt.plain (run_spec n ms es _ part (and_lt r1) g1 g3 (by omega)) rfl ?_
    rintro r os ⟨rfl, rfl⟩
    simp only [avc_done, avc_take, qstep, ownLoad, VC_draw, VC_seq, put_some, qop, isQuiet, ASt.eval, AV.need, AV.map, AC.ren, giveBack, afterCall, List.getD_cons_succ, List.getD_cons_zero, List.set_cons_succ, List.set_cons_zero, List.map_nil, List.append_nil, List.length_cons, List.length_nil, List.getElem?_cons_succ, List.getElem?_cons_zero, true_and, Nat.zero_add, eq_self, or_true]
    have hhere : runF ms (runF ms 1 before &&& goodF n.toNat ms part q) part = hereF ms (goodF n.toNat ms part q) part before := rfl
    rw [hhere]
    have hhl : hereF ms (goodF n.toNat ms part q) part before < 2 ^ 32 := runF_lt g1 (and_lt r1) part
    have hhb : Below n.toNat (hereF ms (goodF n.toNat ms part q) part before) := runF_below htn (and_below (runF_below htn hb1 before)) part
    refine DrawAt.plan tabOK mixed (.take 0 false (.take 1 false (.take 2 false (.alt 3 (.alt 4 (.take 5 true (.take 6 true (.take 7 true (.take 8 true (.take 9 true .done))))) .stop) .stop)))) (by decide +kernel) ?_
    simp only [avc_stop, avc_take, avc_alt, qstep, lstep, ownLoad, put_n0, put_some, aop, qop, isQuiet, ASt.eval, ASt.ev, AV.strip, AV.need, AV.ac, AV.isTup, qload, ned, DV.ac, ofCells, TI.isAgg, eInt, eList, ePair, List.getD_cons_succ, List.getD_cons_zero, List.set_cons_succ, List.set_cons_zero, List.map_cons, List.map_nil, List.cons_append, List.nil_append, List.length_cons, List.length_nil, List.take_succ_cons, List.take_nil, List.getElem?_cons_succ, List.getElem?_cons_zero, true_and, and_true, and_self, reduceCtorEq, not_false_eq_true, Bool.false_eq_true, Nat.zero_add, Nat.reduceAdd, Nat.le_refl, eq_self, or_true, tab_28]
    refine CallAt.plain (ends_spec n ms es g2 g4) rfl ?_
    rintro r os ⟨rfl, rfl⟩
    simp only [avc_stop, avc_alt, lstep, put_n0, put_some, aop, isQuiet, ASt.eval, ASt.ev, AV.strip, AV.need, AV.isTup, ned, AV.map, AC.ren, giveBack, afterCall, List.getD_cons_succ, List.getD_cons_zero, List.set_cons_succ, List.set_cons_zero, List.map_cons, List.map_nil, List.append_nil, List.length_cons, List.length_nil, List.getElem?_cons_succ, List.getElem?_cons_zero, true_and, and_true, and_self, Nat.zero_add, eq_self]
    refine CallAt.plain (path_spec n ms es _ (endsF es) hhl hhb e2 ⟨c1, c2⟩ c4 c3) rfl ?_
    intro r os hP
    cases hs2 : shortF n.toNat ms (hereF ms (goodF n.toNat ms part q) part before) (endsF es) with
    | none =>
      rw [hs2] at hP
      obtain ⟨rfl, rfl⟩ := hP
      simp only [ownPart, avc_done, avc_take, qstep, ownLoad, VC_skip, VC_region, VC_seq, VC_cond, VC_ret, aops_nil, aops_cons, put_some, aop, qop, isQuiet, ASt.eval, ASt.ev, AV.strip, AV.need, AV.ac, AV.cells, AV.isTup, qun, qextract, needAll, ned, partsOf, fitAll, AC.fits, abuildSlice, elems, setPart, newObj, frzRefs, AV.map, dvs, AC.dv, leD, leD1, avOf, acOf, AC.ren, giveBack, afterCall, eInt, eList, List.getD_cons_succ, List.getD_cons_zero, List.set_cons_succ, List.set_cons_zero, List.map_cons, List.map_nil, List.replicate_succ, List.replicate_zero, List.cons_append, List.nil_append, List.append_nil, List.length_cons, List.length_nil, List.headD_cons, List.all_cons, List.all_nil, List.flatMap_cons, List.flatMap_nil, List.getElem?_cons_succ, List.getElem?_cons_zero, Nat.reduceLT, exists_eq_left, true_and, and_true, and_self, forall_const, false_implies, not_false_eq_true, Bool.and_true, Bool.true_eq_false, Bool.not_false, cond_true, beq_self_eq_true, Nat.zero_add, Nat.reduceAdd, Nat.reduceMul, Nat.reduceLeDiff, eq_self, Nat.succ_ne_self, or_true, tab_29, tab_59]
      (refine RetAt.leaf ?_ ?_ <;> simp only [resOf, tupOf, compOf, ASt.eval, AV.strip, AV.need, AV.map, findIx, AC.ren, List.getD_cons_succ, List.getD_cons_zero, List.map_cons, List.map_nil, and_self])
      exact ShowQ.none hc0 hq (by unfold showF; rw [hs1]; dsimp only; rw [hs2]) rfl rfl
    | some behind =>
      rw [hs2] at hP
      obtain ⟨rfl, rfl⟩ := hP
      obtain ⟨hl2, _⟩ := shortF_len hs2
      simp only [ownPart, avc_done, avc_take, qstep, ownLoad, VC_skip, VC_region, VC_seq, VC_cond, VC_ret, aops_nil, aops_cons, put_some, aop, qop, isQuiet, ASt.eval, ASt.ev, AV.strip, AV.need, AV.ac, AV.cells, AV.isTup, qun, qextract, needAll, ned, partsOf, fitAll, AC.fits, abuildSlice, elems, setPart, newObj, ASt.setObj, ASt.obj, ASt.map, ASt.freeze, frzRefs, AV.map, AObj.map, AC.frz, dvs, AC.dv, leD, leD1, avOf, acOf, AC.ren, backIx, giveBack, afterCall, eInt, eList, List.getD_cons_succ, List.getD_cons_zero, List.set_cons_succ, List.set_cons_zero, List.map_cons, List.map_nil, List.replicate_succ, List.replicate_zero, List.cons_append, List.nil_append, List.append_nil, List.length_cons, List.length_nil, List.headD_cons, List.all_cons, List.all_nil, List.flatMap_cons, List.flatMap_nil, List.getElem?_cons_succ, List.getElem?_cons_zero, List.getElem?_nil, Nat.reduceLT, true_and, and_true, and_self, forall_const, false_implies, not_false_eq_true, Bool.and_true, Bool.false_eq_true, Bool.not_true, cond_true, beq_self_eq_true, Nat.add_zero, Nat.zero_add, Nat.reduceAdd, Nat.reduceSub, Nat.reduceMul, Nat.reduceLeDiff, eq_self, Nat.succ_ne_self, decide_true, or_true, tab_29, tab_59]
      refine ⟨before, rfl, part, rfl, behind, rfl, ?_⟩
      refine CallAt.freeze 2 ?_
      simp only [ASt.setObj, ASt.obj, ASt.map, ASt.freeze, AV.map, AObj.map, AC.frz, frzF, List.getD_cons_succ, List.getD_cons_zero, List.set_cons_succ, List.set_cons_zero, List.map_cons, List.map_nil, cond_true, beq_self_eq_true]
      refine CallAt.plain (concat_spec [before, part, behind] (by simp) (by simp only [List.flatten_cons, List.flatten_nil, List.length_append, List.length_nil]; omega)) rfl ?_
      rintro r os ⟨rfl, rfl⟩
      simp only [VC_ret, aops_nil, aops_cons, put_some, qop, isQuiet, ASt.eval, AV.need, AV.map, avOf, acOf, AC.ren, giveBack, afterCall, List.getD_cons_succ, List.getD_cons_zero, List.set_cons_succ, List.set_cons_zero, List.map_nil, List.append_nil, List.length_cons, List.length_nil, true_and, Nat.zero_add, Nat.reduceAdd]
      (refine RetAt.leaf ?_ ?_ <;> simp only [resOf, tupOf, compOf, ASt.eval, AV.strip, AV.need, AV.map, findIx, AC.ren, List.getD_cons_succ, List.getD_cons_zero, List.map_cons, List.map_nil, and_self])
      refine ShowQ.some hc0 hq (t := before ++ part ++ behind) (by unfold showF; rw [hs1]; dsimp only; rw [hs2]) rfl ?_
      simp [List.append_assoc]
end Go.Vc
