/- How the reference looks for a shortest text. -/
import Derived.Test.YtmikejeohdleeaaHF
set_option linter.unusedVariables false
set_option linter.unusedSimpArgs false
namespace Go.Vc
open Go.Proofs Go.IntWalk
set_option maxRecDepth 100000
abbrev mdS (c : Nat) (es : SE) : AC := .md 3 4 (.int .i64) Bool false (fun b => [.bool b]) c es
abbrev encS : MapD Bool → List DV := encM 3 4 (.int .i64) Bool false (fun b => [.bool b])
abbrev rowM (rs : List (MapD Bool)) : AObj := .row 57 1 (MapD Bool) (0, []) encS rs
abbrev mdZ : MapD Bool := (0, [])
def PathR (t : Option (List Int)) (cf : Nat) (ef : SE) (r : AV) (os : List AObj) : Prop :=
  match t with
  | none => r = .tup [(false, [.nil]), (false, [.bool false])] ∧ os = [setO cf ef]
  | some text => r = .tup [(false, [.sl 1]), (false, [.bool true])] ∧ os = [setO cf ef, rowU text]
theorem preF_take {ms : List Mv} {R j : Nat} (h : j < ms.length) : orF (fun p => R.testBit (tgt p)) frm (ms.take (j + 1)) 0 = if R.testBit (tgt (ms.getD j mZ)) = true then orF (fun p => R.testBit (tgt p)) frm (ms.take j) 0 ||| 2 ^ frm (ms.getD j mZ) else orF (fun p => R.testBit (tgt p)) frm (ms.take j) 0 := by
  rw [take_next ms j mZ h, orF_snoc]
/-- the sets told by a slice of maps -/
def SetsM (rs : List (MapD Bool)) (R : Nat → Nat) : Prop := ∀ k, k < rs.length → SetM (rs.getD k mdZ).2 (R k)
theorem SetsM.snoc {rs : List (MapD Bool)} {R : Nat → Nat} (h : SetsM rs R) {x : MapD Bool} (hx : SetM x.2 (R rs.length)) : SetsM (rs ++ [x]) R := fun k hk => by
  simp only [List.length_append, List.length_singleton] at hk
  by_cases e : k < rs.length
  · have : (rs ++ [x]).getD k mdZ = rs.getD k mdZ := by simp [List.getD, List.getElem?_append, e]
    rw [this]; exact h k e
  · have : k = rs.length := by omega
    subst this
    have : (rs ++ [x]).getD rs.length mdZ = x := by simp [List.getD]
    rw [this]; exact hx
set_option maxHeartbeats 16000000 in
theorem shortest_spec (n : Int) (ms : List Mv) (es : List Int) (cf ct : Nat) (ef et : SE) (from' to : Nat) (hf : SetM ef from') (ht : SetM et to) (hfb : Below n.toNat from') (hn : 1 ≤ n ∧ n ≤ 32)
    (ho : ∀ p ∈ ms, 0 ≤ p.1 ∧ p.1 < n ∧ 0 ≤ p.2.1 ∧ p.2.1 < n) (hl : ms.length ≤ 200) :
    ACall Try.prog 85 [rmach n ms es, .c (.xr 0 .self), .c (mdS ct et)] [setO cf ef] (PathR (shortF n.toNat ms from' to) cf ef) := by
  (refine ACall.of_body (nt := 134) (rs := [.tmp 6, .tmp 7]) tabOK Try.func85 rfl rfl rfl rfl ?_; simp only [startSt, List.length_cons, List.length_nil, Nat.reduceAdd, Nat.reduceSub, List.replicate_succ, List.replicate_zero, List.cons_append, List.nil_append])
  simp only [VCp, ownSl, ownPart, VC_region, VC_seq, VC_block, VC_loop, aops_nil, aops_cons, put_some, aop, qop, isQuiet, ASt.eval, AV.need, AV.cells, AV.isTup, needAll, ned, partsOf, fitAll, AC.fits, abuildSlice, newObj, frzRefs, avOf, acOf, eInt, eList, ePair, List.getD_cons_succ, List.getD_cons_zero, List.set_cons_succ, List.set_cons_zero, List.map_cons, List.map_nil, List.cons_append, List.nil_append, List.append_nil, List.length_cons, List.length_nil, List.all_cons, List.all_nil, List.flatMap_cons, List.flatMap_nil, true_and, and_self, Bool.and_true, cond_true, beq_self_eq_true, Nat.zero_add, Nat.reduceAdd, eq_self, tab_32, tab_57, tab_139]
  refine LoopAt.inv (ι := Nat × List (MapD Bool)) (T := tab) (fun x => [(9, .c (.int .i64 x.1)), (8, .c (.sl 2)), (23, .c .junk)]) (fun x => [setO cf ef, .cells 32 (rcells n ms es), rowM x.2])
    (fun x => x.1 ≤ n.toNat ∧ x.2.length = x.1 + 1 ∧ SetsM x.2 (reachF ms to)) (fun x => n.toNat - x.1) tabOK (0, [(ct, et)]) ⟨Nat.zero_le _, rfl, fun k hk => ?_⟩ ?_ ?_
  · have : k = 0 := by simpa using hk
    subst this
    exact ht
  · (simp only [LessC, headSt, dsts, opDsts, resetS, putsS, lessS, lessO, belowS, belowO, AV.below, AObj.below, AC.below, XObj.below, List.set_cons_succ, List.set_cons_zero, List.cons_append, List.nil_append, List.append_nil, List.length_cons, List.length_nil, List.all_cons, List.all_nil, Nat.reduceLT, Int.cast_ofNat_Int, AV.c.injEq, and_self, reduceCtorEq, Bool.and_true, Nat.zero_add, Nat.reduceAdd, Nat.reduceLeDiff, eq_self, decide_true, or_true, or_false] <;> try omega)
  rintro ⟨d, rs⟩ ⟨hd, hrl, hR⟩
  dsimp only at hd hrl hR
  simp only [VCp, headSt, dsts, opDsts, resetS, putsS, kshOf, amakeMap, VC_skip, VC_region, VC_seq, VC_cond, VC_block, VC_loop, VC_exit, aops_nil, aops_cons, put_some, aop, qop, isQuiet, ASt.eval, AV.need, AV.ac, qbin, binInt, qlen, qfieldAddr, qload, newObj, ASt.obj, ofCells, TI.isAgg, isScalar, avOf, acOf, eInt, eBool, eList, ePair, List.getD_cons_succ, List.getD_cons_zero, List.set_cons_succ, List.set_cons_zero, List.cons_append, List.nil_append, List.append_nil, List.length_cons, List.length_nil, List.drop_succ_cons, List.drop_zero, List.take_succ_cons, List.take_zero, List.headD_cons, List.getElem?_cons_succ, List.getElem?_cons_zero, decide_eq_true_eq, decide_eq_false_iff_not, Int.not_lt, true_and, and_self, reduceCtorEq, not_false_eq_true, if_true, Nat.add_zero, Nat.zero_add, Nat.reduceAdd, Nat.reduceLeDiff, eq_self, Nat.succ_ne_self, tab_3, tab_4, tab_30, tab_32, tab_57, tab_139]
  refine ⟨fun h => ?_, fun h => ?_⟩
  · have hd' : d < n.toNat := by omega
    have hRd := hR d (by omega)
    refine LoopAt.inv (ι := Nat × Nat × SE) (T := tab) (fun x => [(34, .c (.int .i64 x.1))]) (fun x => [setO cf ef, .cells 32 (rcells n ms es), rowM rs, setO x.2.1 x.2.2])
      (fun x => x.1 ≤ ms.length ∧ SetM x.2.2 (orF (fun p => (reachF ms to d).testBit (tgt p)) frm (ms.take x.1) 0)) (fun x => ms.length - x.1) tabOK (0, 0, []) ⟨Nat.zero_le _, SetM.empty⟩ ?_ ?_
    · (simp only [LessC, headSt, dsts, opDsts, resetS, putsS, lessS, lessO, belowS, belowO, AV.below, AObj.below, AC.below, XObj.below, List.set_cons_succ, List.set_cons_zero, List.cons_append, List.nil_append, List.append_nil, List.length_cons, List.length_nil, List.all_cons, List.all_nil, Nat.reduceLT, Int.cast_ofNat_Int, AV.c.injEq, and_self, reduceCtorEq, Bool.and_true, Nat.zero_add, Nat.reduceAdd, Nat.reduceLeDiff, eq_self, decide_true, or_true] <;> try omega)
    rintro ⟨j, c, m⟩ ⟨hj, hm⟩
    dsimp only at hj hm
    simp only [VCp, headSt, dsts, opDsts, resetS, putsS, ownSl, ownPart, appRows, XObj.amap, VC_skip, VC_region, VC_draw, VC_seq, VC_cond, VC_block, VC_loop, VC_exit, aops_nil, aops_cons, put_some, put_none, aop, qop, isQuiet, ASt.eval, ASt.ev, AV.strip, AV.need, AV.ac, AV.cells, AV.isTup, qbin, binInt, qlen, qindexAddr, qload, splice, needAll, ned, partsOf, fitAll, AC.fits, astore, abuildSlice, appSrc, aappend, newObj, ASt.setObj, ASt.obj, ASt.map, ASt.freeze, frzRefs, AV.map, AObj.map, AC.frz, AC.kill, DV.ac, ofCells, TI.isAgg, isScalar, avOf, acOf, eInt, eList, ePair, List.getD_cons_succ, List.getD_cons_zero, List.set_cons_succ, List.set_cons_zero, List.map_cons, List.map_nil, List.cons_append, List.nil_append, List.append_nil, List.length_cons, List.length_nil, List.drop_succ_cons, List.drop_nil, List.take_succ_cons, List.take_zero, List.take_nil, List.all_cons, List.all_nil, List.flatMap_cons, List.flatMap_nil, ↓ex_rfl, cast_eq, heq_eq_eq, Int.toNat_natCast, decide_eq_true_eq, decide_eq_false_iff_not, Int.not_lt, true_and, and_self, reduceCtorEq, not_false_eq_true, Bool.and_true, cond_true, cond_false, beq_self_eq_true, if_true, if_false, Nat.zero_add, Nat.reduceAdd, Nat.reduceBEq, Nat.reduceLeDiff, Nat.le_refl, eq_self, Nat.succ_ne_self, decide_true, tab_3, tab_30, tab_57, tab_106, tab_139, rEnc]
    refine ⟨fun h => ?_, fun h => ?_⟩
    · have hj' : j < ms.length := by omega
      have hmem : ms.getD j mZ ∈ ms := by simp [List.getD, hj']
      have hp := ho _ hmem
      have hget := hRd.mget hp.2.2.1
      have hnext := preF_take (R := reachF ms to d) hj'
      refine ⟨⟨by omega, by omega⟩, ?_⟩
      refine DrawAt.quiet tabOK mixed (by decide +kernel) ?_
      simp only [qaops_nil, qaops_cons, qlookup, lookRes, keyOf, kshOf, encIs, AV.isA, amapUpdate, VC_skip, VC_region, VC_cond, aops_nil, aops_cons, put_some, put_none, aop, qop, isQuiet, ASt.eval, ASt.ev, AV.strip, AV.need, AV.ac, AV.cells, AV.isTup, qbin, binInt, qindexAddr, qload, ned, ASt.setObj, ASt.obj, frzRefs, dvs, AC.dv, DV.ac, leD, leD1, ofCells, TI.isAgg, isScalar, avOf, acOf, encM, eInt, eBool, ePair, List.getD_cons_succ, List.getD_cons_zero, List.set_cons_succ, List.set_cons_zero, List.map_cons, List.map_nil, List.cons_append, List.nil_append, List.length_cons, List.length_nil, List.drop_succ_cons, List.drop_zero, List.take_succ_cons, List.take_zero, List.take_nil, List.headD_cons, Int.reduceLT, Int.reduceLE, Int.cast_ofNat_Int, ↓ex_rfl, heq_eq_eq, DV.bool.injEq, exists_eq_left', Int.toNat_natCast, Int.reduceToNat, true_and, and_true, and_self, not_false_eq_true, Nat.add_zero, Nat.zero_add, Nat.reduceAdd, Nat.reduceMul, Nat.reduceLeDiff, Nat.le_refl, eq_self, Nat.succ_ne_self, tab_3, tab_4, tab_57, tab_106, tab_139, hget]
      refine ⟨⟨by omega, by omega⟩, by omega, fun hc => ?_, fun hc => ?_⟩
      · refine ⟨(j + 1, mtick c m (kI (ms.getD j mZ).1), mput c m (kI (ms.getD j mZ).1) true), ⟨by dsimp only; omega, ?_⟩, by dsimp only; omega, ?_⟩
        · dsimp only
          rw [hnext, if_pos (by unfold tgt; exact hc)]
          exact hm.put c _ hp.1
        · (simp only [LessC, lessS, lessO, belowS, belowO, AV.below, AObj.below, AC.below, XObj.below, List.length_cons, List.length_nil, List.all_cons, List.all_nil, Nat.reduceLT, Int.cast_ofNat_Int, Int.natCast_add, AV.c.injEq, AC.int.injEq, true_and, and_true, and_self, reduceCtorEq, Bool.and_true, Nat.zero_add, Nat.reduceAdd, Nat.reduceLeDiff, eq_self, decide_true, or_true, or_false, false_or] <;> try omega)
          exact i64_in _ (by omega)
      · refine ⟨(j + 1, c, m), ⟨by dsimp only; omega, ?_⟩, by dsimp only; omega, ?_⟩
        · dsimp only
          rw [hnext, if_neg (by unfold tgt; simpa using hc)]
          exact hm
        · (simp only [LessC, lessS, lessO, belowS, belowO, AV.below, AObj.below, AC.below, XObj.below, List.length_cons, List.length_nil, List.all_cons, List.all_nil, Nat.reduceLT, Int.cast_ofNat_Int, Int.natCast_add, AV.c.injEq, AC.int.injEq, true_and, and_true, and_self, reduceCtorEq, Bool.and_true, Nat.zero_add, Nat.reduceAdd, Nat.reduceLeDiff, eq_self, decide_true, or_true, or_false, false_or] <;> try omega)
          exact i64_in _ (by omega)
    · have : j = ms.length := by omega
      subst this
      rw [List.take_length] at hm
      refine ⟨by omega, by omega, (d + 1, rs ++ [(c, m)]), ⟨by dsimp only; omega, by simp [hrl], hR.snoc ?_⟩, by dsimp only; omega, ?_⟩
      · rw [hrl]; exact hm
      · (simp only [LessC, lessS, lessO, belowS, belowO, AV.below, AObj.below, AC.below, XObj.below, List.length_cons, List.length_nil, List.all_cons, List.all_nil, Nat.reduceLT, Int.cast_ofNat_Int, Int.natCast_add, AV.c.injEq, AC.int.injEq, true_and, and_true, and_self, reduceCtorEq, Bool.and_true, Nat.zero_add, Nat.reduceAdd, Nat.reduceLeDiff, eq_self, decide_true, or_true, or_false, false_or] <;> try omega)
        exact i64_in _ (by omega)
  have : d = n.toNat := by omega
  subst this
  refine LoopAt.freeze 2 ?_
  simp only [XObj.amap, ASt.setObj, ASt.obj, ASt.map, ASt.freeze, AV.map, AObj.map, AC.frz, List.getD_cons_succ, List.getD_cons_zero, List.set_cons_succ, List.set_cons_zero, List.map_cons, List.map_nil, cond_true, cond_false, beq_self_eq_true, Nat.reduceBEq]
  refine LoopAt.inv (ι := Nat) (T := tab) (fun d => [(55, .c (.int .i64 d))]) (fun d => [setO cf ef, .cells 32 (rcells n ms es)])
    (fun d => d ≤ rs.length ∧ ∀ k, k < d → from' &&& reachF ms to k = 0) (fun d => rs.length - d) tabOK 0 ⟨Nat.zero_le _, fun k hk => by omega⟩ ?_ ?_
  · (simp only [LessC, headSt, dsts, opDsts, resetS, putsS, lessS, lessO, belowS, belowO, AV.below, AObj.below, AC.below, XObj.below, List.set_cons_succ, List.set_cons_zero, List.cons_append, List.nil_append, List.append_nil, List.length_cons, List.length_nil, List.all_cons, List.all_nil, Nat.reduceLT, Int.cast_ofNat_Int, AV.c.injEq, and_self, reduceCtorEq, Bool.and_true, Nat.zero_add, Nat.reduceAdd, Nat.reduceLeDiff, eq_self, decide_true, or_true, or_false] <;> try omega)
  rintro d ⟨hd, hnone⟩
  simp only [VCp, headSt, dsts, opDsts, resetS, putsS, kshOf, amakeMap, arange, VC_skip, VC_region, VC_seq, VC_cond, VC_block, VC_loop, VC_exit, VC_ret, aops_nil, aops_cons, put_some, aop, qop, isQuiet, ASt.eval, AV.need, AV.ac, AV.isTup, qbin, binInt, ned, newObj, ASt.obj, TI.isAgg, isScalar, avOf, acOf, eInt, eBool, List.getD_cons_succ, List.getD_cons_zero, List.set_cons_succ, List.set_cons_zero, List.cons_append, List.nil_append, List.append_nil, List.length_cons, List.length_nil, decide_eq_true_eq, decide_eq_false_iff_not, Int.not_lt, true_and, and_self, reduceCtorEq, not_false_eq_true, Bool.and_true, cond_true, beq_self_eq_true, if_true, Nat.zero_add, Nat.reduceAdd, eq_self, Nat.succ_ne_self, tab_3, tab_4, tab_57]
  refine ⟨fun h => ?_, fun h => ?_⟩
  · have hd' : d < rs.length := by omega
    have hRd := hR d hd'
    refine LoopAt.inv (ι := Nat × SE × List Nat × Nat) (T := tab) (fun x => []) (fun x => [setO cf ef, .cells 32 (rcells n ms es), setO x.1 x.2.1, .ext (.iter (.xr 0 .self) cf x.2.2.1 cf)])
      (fun x => SetM x.2.1 (x.2.2.2 &&& reachF ms to d) ∧ GoneM ef from' x.2.2.1 x.2.2.2) (fun x => 32 - cnt 32 x.2.2.2) tabOK (0, [], [], 0) ⟨by rw [Nat.zero_and]; exact SetM.empty, GoneM.zero⟩ ?_ ?_
    · (simp only [LessC, headSt, dsts, opDsts, resetS, putsS, lessS, lessO, belowS, belowO, AV.below, AObj.below, AC.below, XObj.below, List.set_cons_succ, List.set_cons_zero, List.cons_append, List.nil_append, List.append_nil, List.length_cons, List.length_nil, List.all_cons, List.all_nil, Nat.reduceLT, AV.c.injEq, and_self, reduceCtorEq, Bool.and_true, Nat.zero_add, Nat.reduceAdd, Nat.reduceLeDiff, eq_self, decide_true, or_true] <;> try omega)
    rintro ⟨c, m, seen, v⟩ ⟨hm, hG⟩
    dsimp only at hm hG
    simp only [VCp, headSt, dsts, opDsts, resetS, putsS, qmlen, qlookup, lookRes, keyOf, kshOf, encIs, qentry, AV.isA, amapUpdate, anext, VC_skip, VC_region, VC_seq, VC_cond, VC_block, VC_loop, VC_exit, VC_ret, aops_nil, aops_cons, put_some, put_none, aop, qop, isQuiet, ASt.eval, ASt.ev, AV.strip, AV.need, AV.ac, AV.cells, AV.isTup, qbin, binInt, qindexAddr, qload, qextract, ned, ASt.setObj, ASt.obj, frzRefs, dvs, AC.dv, DV.ac, leD, leD1, ofCells, TI.isAgg, isScalar, avOf, acOf, encM, eInt, eBool, List.getLast?_append, List.getLast?_singleton, Option.some_or, List.getD_cons_succ, List.getD_cons_zero, List.set_cons_succ, List.set_cons_zero, List.map_cons, List.map_nil, List.cons_append, List.nil_append, List.append_nil, List.length_cons, List.length_nil, List.take_succ_cons, List.take_nil, List.headD_cons, List.getElem?_cons_zero, ↓ex_rfl, heq_eq_eq, DV.bool.injEq, exists_eq_left', Int.toNat_natCast, decide_eq_true_eq, decide_eq_false_iff_not, true_and, and_true, and_self, forall_const, false_implies, not_false_eq_true, Bool.and_true, Bool.false_eq_true, Bool.true_eq_false, cond_true, beq_self_eq_true, if_true, if_false, Nat.zero_add, Nat.reduceEqDiff, Nat.le_refl, eq_self, Nat.succ_ne_self, tab_3, tab_4, tab_57, tab_139]
    intro hw
    refine ⟨fun e he => (hw.1 e he), fun e he hns hfind => ?_, fun hall => ?_⟩
    · obtain ⟨num, ks, b⟩ := e
      obtain ⟨i, hk, hb, hi⟩ := hf.key _ he
      dsimp only at hk hb hns hfind
      subst hk hb
      obtain ⟨hv, hG'⟩ := hG.next hf hw he hns (i := i) rfl
      have hin := hfb i hi
      have hget := hRd.mget (n := (i : Int)) (by omega)
      rw [Int.toNat_natCast] at hget
      have hcnt := cnt_put hv (by omega)
      have hand := or_and_pow (v := v) (i := i) (R := reachF ms to d)
      simp only [KA.ac, List.map_cons, List.map_nil, List.length_cons, List.length_nil, List.headD_cons, List.getElem?_cons_zero, true_and, and_self, Nat.zero_add, eq_self, hfind, hget]
      have hpm := hm.put c (i : Int) (by omega)
      rw [Int.toNat_natCast] at hpm
      refine ⟨⟨by omega, by omega⟩, fun hc => ⟨(mtick c m (kI (i : Int)), mput c m (kI (i : Int)) true, seen ++ [num], v ||| 2 ^ i), ⟨?_, hG'⟩, hcnt, ?_⟩, fun hc => ⟨(c, m, seen ++ [num], v ||| 2 ^ i), ⟨?_, hG'⟩, hcnt, ?_⟩⟩
      · dsimp only
        rw [hand, if_pos hc]
        exact hpm
      · (simp only [LessC, lessS, lessO, belowS, belowO, AV.below, AObj.below, AC.below, XObj.below, List.length_cons, List.length_nil, List.all_cons, List.all_nil, Nat.reduceLT, AV.c.injEq, and_self, reduceCtorEq, Bool.and_true, Nat.zero_add, Nat.reduceAdd, Nat.reduceLeDiff, eq_self, decide_true, or_true, or_false] <;> try omega)
      · dsimp only
        rw [hand, if_neg (by rw [hc]; simp)]
        exact hm
      · (simp only [LessC, lessS, lessO, belowS, belowO, AV.below, AObj.below, AC.below, XObj.below, List.length_cons, List.length_nil, List.all_cons, List.all_nil, Nat.reduceLT, AV.c.injEq, and_self, reduceCtorEq, Bool.and_true, Nat.zero_add, Nat.reduceAdd, Nat.reduceLeDiff, eq_self, decide_true, or_true, or_false] <;> try omega)
    · have hvf := hG.all hf hall
      subst hvf
      have hlen := hm.len
      refine ⟨fun hz => ⟨d + 1, ⟨by omega, fun k hk => ?_⟩, by omega, ?_⟩, fun hz => ?_⟩
      · by_cases e : k = d
        · subst e; exact hlen.1 (by omega)
        · exact hnone k (by omega)
      · (simp only [LessC, lessS, lessO, belowS, belowO, AV.below, AObj.below, AC.below, XObj.below, List.length_cons, List.length_nil, List.all_cons, List.all_nil, Nat.reduceLT, Int.cast_ofNat_Int, Int.natCast_add, AV.c.injEq, AC.int.injEq, true_and, and_true, and_self, reduceCtorEq, Bool.and_true, Nat.zero_add, Nat.reduceAdd, Nat.reduceLeDiff, eq_self, decide_true, or_true, or_false, false_or] <;> try omega)
        exact i64_in _ (by omega)
      have hne : v &&& reachF ms to d ≠ 0 := fun e => hz (by have := hlen.2 e; omega)
      have hsf : shortF n.toNat ms v to = some (walkW (nxR ms (reachF ms to)) d (v &&& reachF ms to d)) := by
        unfold shortF
        rw [firstD_some (d := d) (by omega) (by simpa using hne) (fun k hk => by simpa using hnone k hk)]
      refine LoopAt.freeze 2 ?_
      refine LoopAt.adopt 16 5 1 Int 0 (fun n => [.int .u8 n]) rfl (fun _ => rfl) ?_
      simp only [XObj.amap, newObj, ASt.setObj, ASt.obj, ASt.map, ASt.freeze, AV.map, AObj.map, AC.frz, adopt, List.getD_cons_succ, List.getD_cons_zero, List.set_cons_succ, List.set_cons_zero, List.map_cons, List.map_nil, List.cons_append, List.nil_append, List.length_cons, List.length_nil, cond_true, cond_false, beq_self_eq_true, Nat.zero_add, Nat.reduceAdd, Nat.reduceBEq]
      refine LoopAt.inv (ι := Nat × List Int × Nat × SE × Nat) (T := tab) (fun x => [(17, .c (.int .i64 ((x.1 : Int) - 1))), (16, .c (.sl 4)), (14, .c (mdS x.2.2.1 x.2.2.2.1))])
        (fun x => [setO cf ef, .cells 32 (rcells n ms es), .gone, .ext (.iter (.xr 0 .self) cf seen cf), rowU x.2.1])
        (fun x => x.1 ≤ d ∧ x.2.1.length + x.1 ≤ d ∧ SetM x.2.2.2.1 x.2.2.2.2 ∧ x.2.1 ++ walkW (nxR ms (reachF ms to)) x.1 x.2.2.2.2 = walkW (nxR ms (reachF ms to)) d (v &&& reachF ms to d)) (fun x => x.1) tabOK
        (d, [], c, m, v &&& reachF ms to d) ⟨Nat.le_refl _, by simp, hm, rfl⟩ ?_ ?_
      · (simp only [LessC, headSt, dsts, opDsts, resetS, putsS, lessS, lessO, belowS, belowO, AV.below, AObj.below, AC.below, XObj.below, List.set_cons_succ, List.set_cons_zero, List.cons_append, List.nil_append, List.append_nil, List.length_cons, List.length_nil, List.all_cons, List.all_nil, Nat.reduceLT, AV.c.injEq, AC.int.injEq, true_and, and_true, and_self, reduceCtorEq, Bool.and_true, Nat.zero_add, Nat.reduceAdd, Nat.reduceLeDiff, eq_self, decide_true, or_true, false_or] <;> try omega)
        exact i64_in _ (by omega)
      rintro ⟨kk, text, c2, m2, hit⟩ ⟨hkk, htl, hm2, hwk⟩
      dsimp only at hkk htl hm2 hwk
      simp only [VCp, headSt, dsts, opDsts, resetS, putsS, VC_skip, VC_region, VC_seq, VC_cond, VC_block, VC_loop, VC_exit, VC_ret, aops_nil, aops_cons, put_some, qop, isQuiet, ASt.eval, AV.need, AV.ac, qbin, binInt, isScalar, avOf, acOf, eInt, List.getD_cons_succ, List.getD_cons_zero, List.set_cons_succ, List.set_cons_zero, List.cons_append, List.nil_append, List.append_nil, decide_eq_true_eq, decide_eq_false_iff_not, Int.not_le, true_and, and_self, Bool.and_true, cond_true, beq_self_eq_true, if_true, if_false, Nat.reduceEqDiff, eq_self, tab_3]
      refine ⟨fun h => ?_, fun h => ?_⟩
      · obtain ⟨k, rfl⟩ : ∃ k, kk = k + 1 := ⟨kk - 1, by omega⟩
        have hk1 : ((k + 1 : Nat) : Int) - 1 = k := by omega
        have hRk := hR k (by omega)
        simp only [hk1]
        refine LoopAt.thenFreeze 5 ?_
        refine LoopAt.inv (ι := Nat) (T := tab) (fun c => [(82, .c (.int .i64 c)), (16, .c (.sl 4)), (14, .c (mdS c2 m2))]) (fun c => [setO cf ef, .cells 32 (rcells n ms es), .gone, .ext (.iter (.xr 0 .self) cf seen cf), rowU text])
          (fun c => c ≤ 256 ∧ ∀ i : Nat, i < c → nxR ms (reachF ms to) k hit i = 0) (fun c => 256 - c) tabOK 0 ⟨Nat.zero_le _, fun i hi => by omega⟩ ?_ ?_
        · (simp only [LessC, headSt, dsts, opDsts, resetS, putsS, lessS, lessO, belowS, belowO, AV.below, AObj.below, AC.below, XObj.below, List.set_cons_succ, List.set_cons_zero, List.cons_append, List.nil_append, List.append_nil, List.length_cons, List.length_nil, List.all_cons, List.all_nil, Nat.reduceLT, Int.cast_ofNat_Int, AV.c.injEq, and_self, reduceCtorEq, Bool.and_true, Nat.zero_add, Nat.reduceAdd, Nat.reduceLeDiff, eq_self, decide_true, or_true] <;> try omega)
        rintro b ⟨hb, hmiss⟩
        simp only [VCp, headSt, dsts, opDsts, resetS, putsS, kshOf, amakeMap, VC_skip, VC_region, VC_seq, VC_cond, VC_block, VC_loop, VC_exit, VC_ret, aops_nil, aops_cons, put_some, aop, qop, isQuiet, ASt.eval, AV.need, AV.ac, qbin, binInt, qlen, qfieldAddr, qload, newObj, ASt.setObj, ASt.obj, ASt.map, ASt.freeze, ofCells, TI.isAgg, isScalar, avOf, acOf, eInt, eBool, eList, ePair, List.getD_cons_succ, List.getD_cons_zero, List.getD_nil, List.set_cons_succ, List.set_cons_zero, List.cons_append, List.nil_append, List.append_nil, List.length_cons, List.length_nil, List.drop_succ_cons, List.drop_zero, List.take_succ_cons, List.take_zero, List.headD_cons, List.getElem?_cons_succ, List.getElem?_cons_zero, decide_eq_true_eq, decide_eq_false_iff_not, Int.not_lt, true_and, and_self, reduceCtorEq, not_false_eq_true, Bool.and_true, cond_true, beq_self_eq_true, if_true, if_false, Nat.zero_add, Nat.reduceAdd, Nat.reduceEqDiff, Nat.reduceLeDiff, eq_self, Nat.succ_ne_self, tab_3, tab_4, tab_30, tab_32, tab_57]
        refine ⟨fun h => ?_, fun h => ?_⟩
        · have hb' : b < 256 := by omega
          refine LoopAt.inv (ι := Nat × Nat × SE) (T := tab) (fun x => [(89, .c (.int .i64 x.1))]) (fun x => [setO cf ef, .cells 32 (rcells n ms es), .gone, .ext (.iter (.xr 0 .self) cf seen cf), rowU text, setO x.2.1 x.2.2])
            (fun x => x.1 ≤ ms.length ∧ SetM x.2.2 (orF (fun p => (hit.testBit (frm p) && lbl p b) && (reachF ms to k).testBit (tgt p)) tgt (ms.take x.1) 0)) (fun x => ms.length - x.1) tabOK (0, 0, []) ⟨Nat.zero_le _, SetM.empty⟩ ?_ ?_
          · (simp only [LessC, headSt, dsts, opDsts, resetS, putsS, lessS, lessO, belowS, belowO, AV.below, AObj.below, AC.below, XObj.below, List.set_cons_succ, List.set_cons_zero, List.cons_append, List.nil_append, List.append_nil, List.length_cons, List.length_nil, List.all_cons, List.all_nil, Nat.reduceLT, Int.cast_ofNat_Int, AV.c.injEq, and_self, reduceCtorEq, Bool.and_true, Nat.zero_add, Nat.reduceAdd, Nat.reduceLeDiff, eq_self, decide_true, or_true] <;> try omega)
          rintro ⟨j, c3, m3⟩ ⟨hj, hm3⟩
          dsimp only at hj hm3
          simp only [VCp, headSt, dsts, opDsts, resetS, putsS, qmlen, ownSl, ownPart, appRows, XObj.amap, VC_skip, VC_region, VC_draw, VC_seq, VC_cond, VC_block, VC_exit, VC_ret, aops_nil, aops_cons, put_some, put_none, aop, qop, isQuiet, ASt.eval, ASt.ev, AV.strip, AV.need, AV.ac, AV.cells, AV.isTup, qbin, binInt, qindexAddr, qload, qconvert, splice, needAll, ned, partsOf, fitAll, AC.fits, astore, abuildSlice, elems, setPart, appSrc, aappend, newObj, ASt.setObj, ASt.obj, ASt.map, frzRefs, AV.map, AObj.map, AC.frz, AC.kill, dvs, AC.dv, DV.ac, leD, leD1, ofCells, TI.isAgg, isScalar, avOf, acOf, eInt, eList, ePair, List.getD_cons_succ, List.getD_cons_zero, List.set_cons_succ, List.set_cons_zero, List.map_cons, List.map_nil, List.replicate_succ, List.replicate_zero, List.cons_append, List.nil_append, List.append_nil, List.length_cons, List.length_nil, List.drop_succ_cons, List.drop_nil, List.take_succ_cons, List.take_zero, List.take_nil, List.all_cons, List.all_nil, List.flatMap_cons, List.flatMap_nil, Nat.reduceLT, ↓ex_rfl, cast_eq, heq_eq_eq, DV.int.injEq, exists_eq_left', Int.toNat_natCast, decide_eq_true_eq, decide_eq_false_iff_not, Int.not_lt, true_and, and_true, and_self, reduceCtorEq, not_false_eq_true, Bool.and_true, cond_true, cond_false, beq_self_eq_true, if_true, if_false, Nat.zero_add, Nat.reduceAdd, Nat.reduceMul, Nat.reduceBEq, Nat.reduceEqDiff, Nat.reduceLeDiff, Nat.le_refl, eq_self, Nat.succ_ne_self, tab_3, tab_5, tab_29, tab_30, tab_57, tab_106, rEnc]
          refine ⟨fun h => ?_, fun h => ?_⟩
          · have hj' : j < ms.length := by omega
            have hmem : ms.getD j mZ ∈ ms := by simp [List.getD, hj']
            have hp := ho _ hmem
            have hget1 := hm2.mget hp.1
            have hget2 := hRk.mget hp.2.2.1
            have hnext : orF (fun p => (hit.testBit (frm p) && lbl p b) && (reachF ms to k).testBit (tgt p)) tgt (ms.take (j + 1)) 0 = if ((hit.testBit (frm (ms.getD j mZ)) && lbl (ms.getD j mZ) b) && (reachF ms to k).testBit (tgt (ms.getD j mZ))) = true then orF (fun p => (hit.testBit (frm p) && lbl p b) && (reachF ms to k).testBit (tgt p)) tgt (ms.take j) 0 ||| 2 ^ tgt (ms.getD j mZ) else orF (fun p => (hit.testBit (frm p) && lbl p b) && (reachF ms to k).testBit (tgt p)) tgt (ms.take j) 0 := by rw [take_next ms j mZ hj', orF_snoc]
            refine ⟨⟨by omega, by omega⟩, ?_⟩
            refine DrawAt.quiet tabOK mixed (by decide +kernel) ?_
            simp only [qaops_nil, qaops_cons, qlookup, lookRes, keyOf, kshOf, encIs, AV.isA, amapUpdate, VC_skip, VC_region, VC_cond, aops_nil, aops_cons, put_some, put_none, aop, qop, isQuiet, ASt.eval, ASt.ev, AV.strip, AV.need, AV.ac, AV.cells, AV.isTup, onG, guardOf, qbin, binInt, qpick, qpick0, qindexAddr, qload, ned, ASt.setObj, ASt.obj, frzRefs, dvs, AC.dv, DV.ac, leD, leD1, ofCells, TI.isAgg, isScalar, avOf, acOf, encM, eInt, eBool, ePair, List.getD_cons_succ, List.getD_cons_zero, List.set_cons_succ, List.set_cons_zero, List.map_cons, List.map_nil, List.cons_append, List.nil_append, List.length_cons, List.length_nil, List.drop_succ_cons, List.drop_zero, List.take_succ_cons, List.take_zero, List.take_nil, List.headD_cons, List.getElem?_cons_succ, List.getElem?_cons_zero, Option.bind_some, Int.reduceLT, Int.reduceLE, Int.cast_ofNat_Int, ↓ex_rfl, heq_eq_eq, DV.bool.injEq, exists_eq_left', Int.toNat_natCast, Int.reduceToNat, implies_true, imp_self, beq_true, decide_eq_true_eq, decide_eq_false_iff_not, Bool.cond_false_right, Bool.and_eq_true, Bool.and_eq_false_iff, Int.not_le, true_and, and_true, and_self, not_false_eq_true, Bool.true_and, Nat.add_zero, Nat.zero_add, Nat.reduceAdd, Nat.reduceMul, Nat.reduceLeDiff, Nat.le_refl, eq_self, Nat.succ_ne_self, tab_3, tab_4, tab_57, tab_106, tab_139, hget1, hget2]
            refine ⟨fun _ => ⟨by omega, by omega⟩, fun hc => ?_, fun hc => ?_⟩
            · refine ⟨(j + 1, mtick c3 m3 (kI (ms.getD j mZ).2.1), mput c3 m3 (kI (ms.getD j mZ).2.1) true), ⟨by dsimp only; omega, ?_⟩, by dsimp only; omega, ?_⟩
              · dsimp only
                rw [hnext, if_pos (by simp only [frm, tgt, lbl, Bool.and_eq_true, decide_eq_true_eq]; exact ⟨⟨hc.1.1.1, hc.1.1.2, hc.1.2⟩, hc.2⟩)]
                exact hm3.put c3 _ hp.2.2.1
              · (simp only [LessC, lessS, lessO, belowS, belowO, AV.below, AObj.below, AC.below, XObj.below, List.length_cons, List.length_nil, List.all_cons, List.all_nil, Nat.reduceLT, Int.cast_ofNat_Int, Int.natCast_add, AV.c.injEq, AC.int.injEq, true_and, and_true, and_self, reduceCtorEq, Bool.and_true, Nat.zero_add, Nat.reduceAdd, Nat.reduceLeDiff, eq_self, decide_true, or_true, or_false, false_or] <;> try omega)
                exact i64_in _ (by omega)
            · refine ⟨(j + 1, c3, m3), ⟨by dsimp only; omega, ?_⟩, by dsimp only; omega, ?_⟩
              · dsimp only
                rw [hnext, if_neg ?_]
                · exact hm3
                · simp only [frm, tgt, lbl, Bool.and_eq_true, decide_eq_true_eq]
                  rintro ⟨⟨h1, h2, h3⟩, h4⟩
                  rcases hc with ((hc | hc) | hc) | hc
                  · rw [h1] at hc; cases hc
                  · omega
                  · omega
                  · rw [h4] at hc; cases hc
              · (simp only [LessC, lessS, lessO, belowS, belowO, AV.below, AObj.below, AC.below, XObj.below, List.length_cons, List.length_nil, List.all_cons, List.all_nil, Nat.reduceLT, Int.cast_ofNat_Int, Int.natCast_add, AV.c.injEq, AC.int.injEq, true_and, and_true, and_self, reduceCtorEq, Bool.and_true, Nat.zero_add, Nat.reduceAdd, Nat.reduceLeDiff, eq_self, decide_true, or_true, or_false, false_or] <;> try omega)
                exact i64_in _ (by omega)
          · have : j = ms.length := by omega
            subst this
            rw [List.take_length] at hm3
            have hm3' : SetM m3 (nxR ms (reachF ms to) k hit b) := hm3
            have hlen3 := hm3'.len
            have hw8 : IntKind.u8.wrap (b : Int) = b := by rw [IntKind.wrap_u8]; omega
            refine ⟨fun hpos => ⟨by omega, by omega, (k, text ++ [(b : Int)], c3, m3, nxR ms (reachF ms to) k hit b), ⟨by dsimp only; omega, by simp only [List.length_append, List.length_singleton]; omega, hm3', ?_⟩, by dsimp only; omega, ?_⟩,
              fun hz => ⟨b + 1, ⟨by omega, fun i hi => ?_⟩, by omega, ?_⟩⟩
            · dsimp only
              rw [← hwk, walkW_hit hb' (fun e => by have := hlen3.2 e; omega) hmiss]
              simp
            · rw [hw8]
              (simp only [LessC, lessS, lessO, belowS, belowO, AV.below, AObj.below, AC.below, XObj.below, List.length_cons, List.length_nil, List.all_cons, List.all_nil, Nat.reduceLT, AV.c.injEq, AC.int.injEq, true_and, and_true, and_self, reduceCtorEq, Bool.and_true, Nat.zero_add, Nat.reduceAdd, Nat.reduceLeDiff, eq_self, decide_true, or_true, or_false, false_or] <;> try omega)
              exact i64_in _ (by omega)
            · by_cases e : i = b
              · subst e; exact hlen3.1 (by omega)
              · exact hmiss i (by omega)
            · (simp only [LessC, lessS, lessO, belowS, belowO, AV.below, AObj.below, AC.below, XObj.below, List.length_cons, List.length_nil, List.all_cons, List.all_nil, Nat.reduceLT, Int.cast_ofNat_Int, Int.natCast_add, AV.c.injEq, AC.int.injEq, true_and, and_true, and_self, reduceCtorEq, Bool.and_true, Nat.zero_add, Nat.reduceAdd, Nat.reduceLeDiff, eq_self, decide_true, or_true, or_false, false_or] <;> try omega)
              exact i64_in _ (by omega)
        · have : b = 256 := by omega
          subst this
          refine ⟨(k, text, c2, m2, hit), ⟨by dsimp only; omega, by dsimp only; omega, hm2, ?_⟩, by dsimp only; omega, ?_⟩
          · dsimp only
            rw [← hwk, walkW_miss hmiss]
          · (simp only [LessC, lessS, lessO, belowS, belowO, AV.below, AObj.below, AC.below, XObj.below, List.length_cons, List.length_nil, List.all_cons, List.all_nil, Int.reduceLT, Nat.reduceLT, Int.cast_ofNat_Int, AV.c.injEq, AC.int.injEq, true_and, and_true, and_self, reduceCtorEq, Bool.and_true, Nat.zero_add, Nat.reduceAdd, Nat.reduceLeDiff, eq_self, decide_true, decide_false, or_true, or_false, false_or] <;> try omega)
            exact i64_in _ (by omega)
      · have : kk = 0 := by omega
        subst this
        refine RetAt.of [0, 4] rfl ?_ rfl (by decide) (by simp) ?_ <;> simp only [resOf, tupOf, compOf, keepObjs, keepObjs, XObj.amap, ASt.eval, AV.strip, AV.need, AV.map, AObj.map, findIx, AC.ren, List.getD_cons_succ, List.getD_cons_zero, List.map_cons, List.map_nil, Int.reduceLE, Int.reduceSub, Int.reduceNeg, Int.cast_ofNat_Int, and_self, cond_true, cond_false, beq_self_eq_true, Nat.zero_add, Nat.reduceBEq, decide_false]
        rw [hsf, ← hwk]
        exact ⟨rfl, by simp [walkW]⟩
  · have : d = rs.length := by omega
    subst this
    refine RetAt.of [0] rfl ?_ rfl (by decide) (by simp) ?_ <;> simp only [resOf, tupOf, compOf, keepObjs, keepObjs, XObj.amap, ASt.eval, AV.strip, AV.need, AV.map, AObj.map, findIx, AC.ren, List.getD_cons_succ, List.getD_cons_zero, List.map_cons, List.map_nil, and_self]
    have : shortF n.toNat ms from' to = none := by
      unfold shortF
      rw [firstD_none fun k hk => by simpa using hnone k (by omega)]
    rw [this]
    exact ⟨rfl, rfl⟩
end Go.Vc
