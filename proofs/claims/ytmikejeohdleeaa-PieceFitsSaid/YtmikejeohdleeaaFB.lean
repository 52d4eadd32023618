/- Overlaps and Join. -/
import Derived.Test.YtmikejeohdleeaaFA
set_option linter.unusedVariables false
set_option linter.unusedSimpArgs false
namespace Go.Vc
theorem LoopAt.renum {P : Program} {body : Code} {Q : Exit → ASt → Prop} {st : ASt} (keep : List Nat) (hk : RenOK st.n0 keep) (h : LoopAt P body Q (st.renum keep)) : LoopAt P body Q st := fun F hs a w hS => h F _ a w (hS.renum hk)
section
variable {P : Program} {T : Tab} {F : Fr} {st : ASt} {hs : Nat → Value} {a : Act} {w : World}
/-- a row of own rows in the place of a nil slice in a local variable -/
def adoptR (st : ASt) (o j : Nat) (ty ety : TypeId) (size : Nat) (α : Type) (z : α) (enc : α → List DV) : ASt := match st.obj o with
  | .cells t cs => newObj (st.setObj o (.cells t (cs.set j (.xr st.objs.length .whole)))) (.ext (.rows ty ety size α z enc []))
  | _ => st
theorem Sim.adoptR (h : Sim F st hs a w) (o j : Nat) (ty ety : TypeId) (size : Nat) (α : Type) (z : α) (enc : α → List DV) (hn : isNilAt st o j) (henc : ∀ x, (enc x).length = size) :
    ∃ hs', Sim F (adoptR st o j ty ety size α z enc) hs' a w := by
  unfold isNilAt at hn
  cases hob : st.obj o <;> simp only [hob] at hn <;> try exact hn.elim
  rename_i t cs
  cases hc : cs[j]? with
  | none => rw [hc] at hn; exact hn.elim
  | some x =>
    rw [hc] at hn
    cases x <;> simp only at hn
    have ho := obj_some hob (by simp)
    have hlt : o < st.objs.length := (List.getElem?_eq_some_iff.1 ho).1
    obtain ⟨hS1, _⟩ := h.new (ob := .ext (.rows ty ety size α z enc [])) (u := .tuple #[.slice none 0 0]) (w' := w) (Keep.refl _ w) (fun b hb => by
      obtain ⟨l, i, u, e1, e2, e3⟩ := hb
      have e1' : l = [Value.slice none 0 0] := by simp only [Value.tuple.injEq] at e1; simpa using (congrArg Array.toList e1).symm
      subst e1'
      match i, e2 with
      | 0, e2 => cases e2; cases e3
      | i + 1, e2 => simp at e2) fun _ _ => ⟨.slice none 0 0, [], rfl, World.ownsRow_nil w 0 ty 1, henc, fun i v xs hi => by simp at hi, fun i j v v' b hi hj hb hb' => by
      match i, j, hi, hj with
      | 0, 0, _, _ => rfl
      | i + 1, _, hi, _ => simp at hi
      | 0, j + 1, _, hj => simp at hj⟩
    have ho1 : (newObj st (.ext (.rows ty ety size α z enc []))).objs[o]? = some (.cells t cs) := by
      simp only [newObj]
      rw [List.getElem?_append, if_pos hlt]
      exact ho
    obtain ⟨b, vals, e, hb, hr⟩ := hS1.good.rel o _ ho1
    have hfb : foot (.cells t cs) (setH hs st.objs.length (.tuple #[.slice none 0 0]) o) b := by simp [foot, hblk, e]
    have hS2 := hS1.write ho1 (ob' := .cells t (cs.set j (.xr st.objs.length .whole))) (b := b) hfb (fun _ => Iff.rfl) (Keep.refl _ w) fun hcc hdd => by
      refine ⟨b, vals, e, hb, by simpa using hr.1, fun i x v hx hv => ?_⟩
      rw [List.getElem?_set] at hx
      by_cases hi : j = i
      · subst hi
        rw [if_pos rfl] at hx
        split at hx
        · cases hx
          have hv0 : v = .slice none 0 0 := hr.2 j .nil v hc hv
          subst hv0
          exact ⟨[], by rw [setH_same], rfl⟩
        · cases hx
      · rw [if_neg hi] at hx
        exact hr.2 i x v hx hv
    have e2 : (newObj st (.ext (.rows ty ety size α z enc []))).setObj o (.cells t (cs.set j (.xr st.objs.length .whole))) = Vc.adoptR st o j ty ety size α z enc := by
      simp only [Vc.adoptR, hob, newObj, ASt.setObj]
      congr 1
      rw [List.set_append, if_pos hlt]
    rw [e2] at hS2
    exact ⟨_, hS2⟩
theorem AWP.adoptR {c : Code} {Q : Exit → ASt → Prop} {st : ASt} (o j : Nat) (ty ety : TypeId) (size : Nat) (α : Type) (z : α) (enc : α → List DV) (hn : isNilAt st o j) (henc : ∀ x, (enc x).length = size)
    (h : AWP P c Q (Vc.adoptR st o j ty ety size α z enc)) : AWP P c Q st := fun F hs a w hS =>
  let ⟨hs', hS'⟩ := hS.adoptR o j ty ety size α z enc hn henc
  h F hs' a w hS'
theorem LoopAt.adoptR {body : Code} {Q : Exit → ASt → Prop} {st : ASt} (o j : Nat) (ty ety : TypeId) (size : Nat) (α : Type) (z : α) (enc : α → List DV) (hn : isNilAt st o j) (henc : ∀ x, (enc x).length = size)
    (h : LoopAt P body Q (Vc.adoptR st o j ty ety size α z enc)) : LoopAt P body Q st := AWP.adoptR o j ty ety size α z enc hn henc h
end
end Go.Vc
namespace Go.Vc.Pc
open Go.Proofs Go.IntWalk
set_option maxRecDepth 100000
abbrev rBB (xss : List (List Int)) : AC := .rd 1 (List Int) [] (fun xs => [.list 1 Int 0 (fun n => [.int .u8 n]) xs]) xss
def ovCell (ls : List (List Int)) (most : Int) (i k : Nat) : Int := if i = k then 0 else fitF (ls.getD i []) (ls.getD k []) most
def ovRow (ls : List (List Int)) (most : Int) (i : Nat) : List Int := (List.range ls.length).map (ovCell ls most i)
def ovM (ls : List (List Int)) (most : Int) : Mat := (List.range ls.length).map (ovRow ls most)
def ovErr (ls : List (List Int)) (most : Int) : Int := if 12 < ls.length then 2 else if most < 1 ∨ 64 < most then 1 else 0
/-- a row with its first k cells -/
def prow (ls : List (List Int)) (most : Int) (i k : Nat) : List Int := (List.range ls.length).map fun k' => if k' < k then ovCell ls most i k' else 0
theorem prow_len {ls : List (List Int)} {most : Int} {i k : Nat} : (prow ls most i k).length = ls.length := by simp [prow]
theorem prow_zero {ls : List (List Int)} {most : Int} {i : Nat} : prow ls most i 0 = zeros ls.length 0 := by
  apply List.ext_getElem (by simp [prow, zeros])
  intro k h1 h2
  simp [prow, zeros]
theorem prow_full {ls : List (List Int)} {most : Int} {i : Nat} : prow ls most i ls.length = ovRow ls most i := by
  apply List.ext_getElem (by simp [prow, ovRow])
  intro k h1 h2
  have : k < ls.length := by simpa [prow] using h1
  simp [prow, ovRow, this]
theorem prow_set {ls : List (List Int)} {most : Int} {i k : Nat} : (prow ls most i k).set k (ovCell ls most i k) = prow ls most i (k + 1) := by
  apply List.ext_getElem (by simp [prow])
  intro m h1 h2
  have hm : m < ls.length := by simpa [prow] using h2
  rw [List.getElem_set]
  by_cases e : k = m
  · subst e
    simp [prow]
  · rw [if_neg e]
    simp only [prow, List.getElem_map, List.getElem_range]
    by_cases h : m < k
    · rw [if_pos h, if_pos (by omega)]
    · rw [if_neg h, if_neg (by omega)]
theorem prow_same {ls : List (List Int)} {most : Int} {i : Nat} : prow ls most i i = prow ls most i (i + 1) := by
  apply List.ext_getElem (by simp [prow])
  intro m h1 h2
  simp only [prow, List.getElem_map, List.getElem_range]
  by_cases h : m < i
  · rw [if_pos h, if_pos (by omega)]
  · rw [if_neg h]
    by_cases e : m = i
    · subst e
      rw [if_pos (by omega)]
      simp [ovCell]
    · rw [if_neg (by omega)]
theorem ovM_len {ls : List (List Int)} {most : Int} : (ovM ls most).length = ls.length := by simp [ovM]
theorem ovM_get {ls : List (List Int)} {most : Int} {i : Nat} (h : i < ls.length) : (ovM ls most).getD i [] = ovRow ls most i := by simp [ovM, List.getD, h]
set_option maxHeartbeats 8000000 in
theorem overlaps_spec (ls : List (List Int)) (most : Int) (h1 : ls.length < 9223372036854775807) (h2 : ∀ r ∈ ls, r.length < 9223372036854775807) :
    ACall Try.prog 33 [.c (rBB ls), .c (.int .i64 most)] [] (fun r os =>
      if ovErr ls most ≠ 0 then r = .tup [(true, [.nil, .nil, .nil]), (false, [.int .i64 (ovErr ls most)])] ∧ os = []
      else r = .tup [(true, [rI (zeros ls.length 0), rI (zeros ls.length 0), .xr 0 .whole]), (false, [.int .i64 0])] ∧ os = [rowsI (ovM ls most)]) := by
  (refine ACall.of_body (nt := 64) (rs := [.cell 4 53, .tmp 5]) tabOK Try.func33 rfl rfl rfl rfl ?_; simp only [startSt, List.length_cons, List.length_nil, Nat.reduceAdd, Nat.reduceSub, List.replicate_succ, List.replicate_zero, List.cons_append, List.nil_append])
  simp only [VCp, VC_skip, VC_region, VC_draw, VC_seq, VC_cond, VC_ret, aops_nil, aops_cons, put_some, put_none, aop, qop, isQuiet, ASt.eval, ASt.ev, AV.strip, AV.need, AV.ac, AV.cells, AV.isTup, onG, guardOf, qbin, binInt, qpick, qpick0, qlen, qbuild, fillParts, splice, needAll, ned, partsOf, fitAll, AC.fits, astore, newObj, ASt.setObj, ASt.obj, isScalar, avOf, acOf, eInt, eList, ePair, List.getD_cons_succ, List.getD_cons_zero, List.set_cons_succ, List.set_cons_zero, List.map_nil, List.cons_append, List.nil_append, List.append_nil, List.length_cons, List.length_nil, List.drop_succ_cons, List.drop_nil, List.take_zero, List.all_cons, List.all_nil, List.getElem?_cons_succ, List.getElem?_cons_zero, Option.bind_some, implies_true, imp_self, beq_false, decide_eq_true_eq, decide_eq_false_iff_not, Bool.not_eq_true', Bool.cond_true_left, Bool.or_eq_true, Bool.or_eq_false_iff, Int.not_lt, true_and, and_self, reduceCtorEq, not_false_eq_true, Bool.and_true, Bool.true_and, Nat.zero_add, Nat.reduceAdd, Nat.le_refl, eq_self, ne_eq, tab_3, tab_53, tab_59]
  refine ⟨fun h => ?_, fun h => ?_⟩
  · (refine RetAt.leaf ?_ ?_ <;> simp only [resOf, tupOf, compOf, ASt.eval, AV.strip, AV.need, AV.ac, qload, ASt.obj, AV.map, ofCells, TI.isAgg, findIx, AC.ren, eInt, eList, ePair, List.getD_cons_succ, List.getD_cons_zero, List.map_cons, List.map_nil, List.cons_append, List.nil_append, List.length_cons, List.length_nil, List.drop_zero, List.take_succ_cons, List.take_nil, and_true, and_self, reduceCtorEq, not_false_eq_true, Nat.zero_add, Nat.reduceAdd, Nat.le_refl, eq_self, and_false, tab_53])
    have e : ovErr ls most = 2 := if_pos (by omega)
    rw [e, if_pos (by decide)]
    all_goals trivial
  refine ⟨fun hm => ?_, fun hm => ?_⟩
  · (refine RetAt.leaf ?_ ?_ <;> simp only [resOf, tupOf, compOf, ASt.eval, AV.strip, AV.need, AV.ac, qload, ASt.obj, AV.map, ofCells, TI.isAgg, findIx, AC.ren, eInt, eList, ePair, List.getD_cons_succ, List.getD_cons_zero, List.map_cons, List.map_nil, List.cons_append, List.nil_append, List.length_cons, List.length_nil, List.drop_zero, List.take_succ_cons, List.take_nil, and_true, and_self, reduceCtorEq, not_false_eq_true, Nat.zero_add, Nat.reduceAdd, Nat.le_refl, eq_self, and_false, tab_53])
    have e : ovErr ls most = 1 := by unfold ovErr; rw [if_neg (by omega), if_pos (by omega)]
    rw [e, if_pos (by decide)]
    all_goals trivial
  have e : ovErr ls most = 0 := by unfold ovErr; rw [if_neg (by omega), if_neg (by omega)]
  refine DrawAt.plan tabOK mixed (.take 0 false (.take 2 false (.alt 1 (.alt 3 (.take 4 false (.alt 5 (.alt 6 .done .stop) .stop)) (.alt 5 (.alt 3 (.take 4 true (.alt 6 .done .stop)) .stop) .stop)) (.alt 3 (.alt 1 (.take 4 false (.alt 5 (.alt 6 .done .stop) .stop)) (.alt 5 (.alt 1 (.take 4 true (.alt 6 .done .stop)) .stop) .stop)) (.alt 5 (.alt 1 (.alt 3 (.take 4 true (.alt 6 .done .stop)) .stop) (.alt 3 (.alt 1 (.take 4 true (.alt 6 .done .stop)) .stop) .stop)) .stop))))) (by decide +kernel) ?_
  simp only [amakePlain, avc_done, avc_stop, avc_take, avc_alt, qstep, lstep, ownLoad, VC_region, VC_seq, VC_block, VC_loop, aops_nil, aops_cons, put_some, put_none, aop, qop, isQuiet, ASt.eval, ASt.ev, AV.strip, AV.need, AV.ac, AV.cells, AV.isTup, qbuild, fillParts, structPlace, splice, needAll, ned, partsOf, fitAll, AC.fits, astore, amake, newObj, ASt.setObj, ASt.obj, avOf, acOf, eInt, eList, ePair, List.getD_cons_succ, List.getD_cons_zero, List.set_cons_succ, List.set_cons_zero, List.map_cons, List.map_nil, List.cons_append, List.nil_append, List.append_nil, List.length_cons, List.length_nil, List.drop_succ_cons, List.drop_zero, List.drop_nil, List.take_succ_cons, List.take_zero, List.all_cons, List.all_nil, List.getElem?_cons_succ, List.getElem?_cons_zero, Int.cast_ofNat_Int, Int.toNat_natCast, true_and, and_true, and_self, reduceCtorEq, not_false_eq_true, Bool.and_true, Bool.false_eq_true, Nat.zero_add, Nat.reduceAdd, Nat.reduceLeDiff, Nat.le_refl, eq_self, Nat.succ_ne_self, or_true, tab_3, tab_26, tab_53]
  repeat' (first | (with_reducible apply And.intro) | (with_reducible intro _))
  all_goals first | omega | skip
  refine LoopAt.freeze 1 (LoopAt.freeze 2 (LoopAt.renum [0, 3] ⟨rfl, Nat.zero_le _, by decide⟩ ?_))
  rotate_left
  refine LoopAt.freeze 1 (LoopAt.freeze 3 (LoopAt.renum [0, 2] ⟨rfl, Nat.zero_le _, by decide⟩ ?_))
  rotate_left
  refine LoopAt.freeze 1 (LoopAt.freeze 2 (LoopAt.renum [0, 3] ⟨rfl, Nat.zero_le _, by decide⟩ ?_))
  rotate_left
  refine LoopAt.freeze 1 (LoopAt.freeze 3 (LoopAt.renum [0, 2] ⟨rfl, Nat.zero_le _, by decide⟩ ?_))
  rotate_left
  refine LoopAt.freeze 2 (LoopAt.freeze 3 (LoopAt.renum [0, 1] ⟨rfl, Nat.zero_le _, by decide⟩ ?_))
  rotate_left
  refine LoopAt.freeze 2 (LoopAt.freeze 3 (LoopAt.renum [0, 1] ⟨rfl, Nat.zero_le _, by decide⟩ ?_))
  rotate_left
  all_goals simp only [ASt.renum, keepObjs, XObj.amap, ASt.setObj, ASt.obj, ASt.map, ASt.freeze, AV.map, AObj.map, AC.frz, findIx, AC.ren, List.getD_cons_succ, List.getD_cons_zero, List.set_cons_succ, List.set_cons_zero, List.map_cons, List.map_nil, cond_true, cond_false, beq_self_eq_true, Nat.zero_add, Nat.reduceBEq]
  all_goals
    refine LoopAt.adoptR 1 2 26 3 1 Int 0 (fun n => [.int .i64 n]) trivial (fun _ => rfl) ?_
    simp only [adoptR, newObj, ASt.setObj, ASt.obj, List.getD_cons_succ, List.getD_cons_zero, List.set_cons_succ, List.set_cons_zero, List.cons_append, List.nil_append, List.length_cons, List.length_nil, Nat.zero_add, Nat.reduceAdd]
    refine LoopAt.inv (ι := Nat) (T := tab) (fun i => [(30, .c (.int .i64 i))]) (fun i => [.cells 53 [.nil, .nil, .nil], .cells 53 [rI (zeros ls.length 0), rI (zeros ls.length 0), .xr 2 .whole], rowsI ((ovM ls most).take i)])
      (fun i => i ≤ ls.length) (fun i => ls.length - i) tabOK 0 (Nat.zero_le _) ?_ ?_
    · (simp only [LessC, headSt, dsts, opDsts, resetS, putsS, lessS, lessO, belowS, belowO, AV.below, AObj.below, AC.below, XObj.below, List.set_cons_succ, List.set_cons_zero, List.cons_append, List.nil_append, List.append_nil, List.length_cons, List.length_nil, List.take_zero, List.all_cons, List.all_nil, Nat.reduceLT, Int.cast_ofNat_Int, AV.c.injEq, and_self, reduceCtorEq, Bool.and_true, Nat.zero_add, Nat.reduceAdd, Nat.reduceLeDiff, eq_self, decide_true, or_true] <;> try omega)
    intro i hi
    simp only [VCp, headSt, dsts, opDsts, resetS, putsS, amakePlain, VC_skip, VC_region, VC_seq, VC_cond, VC_block, VC_loop, VC_exit, VC_ret, aops_nil, aops_cons, put_some, put_none, aop, qop, isQuiet, ASt.eval, ASt.ev, AV.strip, AV.need, AV.ac, AV.cells, AV.isTup, qbin, binInt, qload, splice, ned, AC.fits, astore, amake, newObj, ASt.setObj, ASt.obj, ofCells, TI.isAgg, isScalar, avOf, acOf, eInt, eList, ePair, List.getD_cons_succ, List.getD_cons_zero, List.set_cons_succ, List.set_cons_zero, List.cons_append, List.nil_append, List.append_nil, List.length_cons, List.length_nil, List.drop_succ_cons, List.drop_zero, List.drop_nil, List.take_succ_cons, List.take_zero, List.take_nil, List.all_cons, List.all_nil, Int.cast_ofNat_Int, Int.toNat_natCast, decide_eq_true_eq, decide_eq_false_iff_not, Int.not_lt, true_and, and_self, reduceCtorEq, not_false_eq_true, Bool.and_true, if_true, Nat.zero_add, Nat.reduceAdd, Nat.le_refl, eq_self, Nat.succ_ne_self, tab_3, tab_26, tab_53]
    refine ⟨fun h => ?_, fun h => ?_⟩
    · have hi' : i < ls.length := by omega
      refine ⟨by omega, by omega, by omega, by omega, ?_⟩
      refine LoopAt.inv (ι := Nat) (T := tab) (fun k => [(36, .c (.int .i64 k))]) (fun k => [.cells 53 [.nil, .nil, .nil], .cells 53 [rI (zeros ls.length 0), rI (zeros ls.length 0), .xr 2 .whole], rowsI ((ovM ls most).take i), .row 3 1 Int 0 (fun n => [.int .i64 n]) (prow ls most i k)])
        (fun k => k ≤ ls.length) (fun k => ls.length - k) tabOK 0 (Nat.zero_le _) ?_ ?_
      · (simp only [LessC, headSt, dsts, opDsts, resetS, putsS, lessS, lessO, belowS, belowO, AV.below, AObj.below, AC.below, XObj.below, List.set_cons_succ, List.set_cons_zero, List.cons_append, List.nil_append, List.append_nil, List.length_cons, List.length_nil, List.all_cons, List.all_nil, Nat.reduceLT, Int.cast_ofNat_Int, AV.c.injEq, AObj.row.injEq, heq_eq_eq, true_and, and_true, and_self, reduceCtorEq, Bool.and_true, Nat.zero_add, Nat.reduceAdd, Nat.reduceLeDiff, eq_self, decide_true, or_true] <;> try omega)
        rw [prow_zero]
      intro k hk
      simp only [VCp, headSt, dsts, opDsts, resetS, putsS, ownSl, ownPart, abuildRows, appRows, aappRows, AC.absorb, AC.merge, XObj.amap, VC_skip, VC_region, VC_draw, VC_seq, VC_cond, VC_block, VC_exit, VC_ret, aops_nil, aops_cons, put_some, put_none, aop, qop, isQuiet, ASt.eval, ASt.ev, AV.strip, AV.need, AV.ac, AV.cells, AV.isTup, qbin, binInt, qfieldAddr, qload, splice, ned, AC.fits, astore, newObj, ASt.setObj, ASt.obj, ASt.map, AV.map, AObj.map, ofCells, TI.isAgg, isScalar, avOf, acOf, eInt, eList, ePair, List.getD_cons_succ, List.getD_cons_zero, List.set_cons_succ, List.set_cons_zero, List.map_cons, List.map_nil, List.cons_append, List.nil_append, List.append_nil, List.length_cons, List.length_nil, List.drop_succ_cons, List.drop_zero, List.drop_nil, List.take_succ_cons, List.take_zero, List.take_nil, List.headD_cons, List.all_cons, List.all_nil, List.getElem?_cons_succ, List.getElem?_cons_zero, ↓ex_rfl, cast_eq, heq_eq_eq, decide_eq_true_eq, decide_eq_false_iff_not, Bool.not_eq_true', Int.not_lt, true_and, and_self, reduceCtorEq, not_false_eq_true, Bool.and_true, cond_true, cond_false, beq_self_eq_true, if_true, if_false, Nat.add_zero, Nat.zero_add, Nat.reduceAdd, Nat.reduceBEq, Nat.reduceEqDiff, Nat.reduceLeDiff, Nat.le_refl, eq_self, Nat.succ_ne_self, decide_true, tab_3, tab_26, tab_51, tab_53]
      refine ⟨fun h => ?_, fun h => ?_⟩
      · have hk' : k < ls.length := by omega
        refine ⟨fun hne => ?_, fun heq => ?_⟩
        · have hne' : ¬ i = k := fun e => hne (by rw [e])
          have hcell : ovCell ls most i k = fitF (ls.getD i []) (ls.getD k []) most := if_neg hne'
          have m1 : ls.getD i [] ∈ ls := by simp [List.getD, hi']
          have m2 : ls.getD k [] ∈ ls := by simp [List.getD, hk']
          refine DrawAt.plan tabOK mixed (.take 0 false (.take 1 false (.take 2 false (.take 3 false (.take 4 false (.take 5 true (.take 6 false (.take 7 false (.take 8 false (.take 9 true (.take 10 true (.alt 11 (.take 12 true (.alt 13 .done .stop)) .stop)))))))))))) (by decide +kernel) ?_
          simp only [avc_stop, avc_take, avc_alt, qstep, lstep, ownLoad, put_n0, put_some, aop, qop, isQuiet, ASt.eval, ASt.ev, AV.strip, AV.need, AV.ac, AV.isTup, qindexAddr, qload, ned, DV.ac, ofCells, TI.isAgg, eInt, eList, List.getD_cons_succ, List.getD_cons_zero, List.set_cons_succ, List.set_cons_zero, List.map_cons, List.map_nil, List.length_cons, List.length_nil, List.take_succ_cons, List.take_nil, List.headD_cons, List.getElem?_cons_succ, List.getElem?_cons_zero, Int.toNat_natCast, true_and, and_true, and_self, not_false_eq_true, Bool.false_eq_true, Nat.zero_add, Nat.le_refl, eq_self, Nat.succ_ne_self, or_true, tab_29, tab_59]
          refine ⟨by omega, by omega, ?_⟩
          refine CallAt.plain (fit_spec (ls.getD i []) (ls.getD k []) most (h2 _ m1) (h2 _ m2)) rfl ?_
          rintro r os ⟨rfl, rfl⟩
          simp only [avc_done, avc_stop, avc_take, avc_alt, qstep, lstep, ownLoad, VC_region, aops_nil, aops_cons, put_some, put_none, aop, qop, isQuiet, ASt.eval, ASt.ev, AV.strip, AV.need, AV.ac, AV.cells, AV.isTup, qbin, binInt, qindexAddr, splice, ned, astore, ASt.setObj, ASt.obj, frzRefs, AV.map, dvs, AC.dv, leD, leD1, isScalar, avOf, acOf, AC.ren, giveBack, afterCall, eInt, eList, List.getD_cons_succ, List.getD_cons_zero, List.set_cons_succ, List.set_cons_zero, List.map_nil, List.nil_append, List.append_nil, List.length_cons, List.length_nil, List.drop_succ_cons, List.drop_nil, List.take_zero, List.getElem?_cons_succ, List.getElem?_cons_zero, DV.int.injEq, exists_eq_left', Int.toNat_natCast, true_and, and_true, and_self, not_false_eq_true, Nat.zero_add, Nat.reduceAdd, Nat.le_refl, eq_self, Nat.succ_ne_self, or_true, tab_3, tab_26, prow_len]
          refine ⟨by omega, by omega, k + 1, by omega, by omega, ?_⟩
          rw [← hcell, prow_set]
          (simp only [LessC, lessS, lessO, belowS, belowO, AV.below, AObj.below, AC.below, XObj.below, List.length_cons, List.length_nil, List.all_cons, List.all_nil, Nat.reduceLT, Int.cast_ofNat_Int, Int.natCast_add, AV.c.injEq, AC.int.injEq, true_and, and_true, and_self, reduceCtorEq, Bool.and_true, Nat.zero_add, Nat.reduceAdd, Nat.reduceLeDiff, eq_self, decide_true, or_true, or_false, false_or] <;> try omega)
          all_goals exact i64_in _ (by omega)
        · have hik : i = k := by have := nd heq; omega
          have hps : prow ls most i k = prow ls most i (k + 1) := by
            subst hik
            exact prow_same
          refine ⟨k + 1, by omega, by omega, ?_⟩
          rw [hps]
          (simp only [LessC, lessS, lessO, belowS, belowO, AV.below, AObj.below, AC.below, XObj.below, List.length_cons, List.length_nil, List.all_cons, List.all_nil, Nat.reduceLT, Int.cast_ofNat_Int, Int.natCast_add, AV.c.injEq, AC.int.injEq, true_and, and_true, and_self, reduceCtorEq, Bool.and_true, Nat.zero_add, Nat.reduceAdd, Nat.reduceLeDiff, eq_self, decide_true, or_true, or_false, false_or] <;> try omega)
          all_goals exact i64_in _ (by omega)
      · have hkn : k = ls.length := by omega
        rw [hkn, prow_full]
        have hlt : ((ovM ls most).take i).length = i := by rw [List.length_take, ovM_len]; omega
        have htn : (ovM ls most).take (i + 1) = (ovM ls most).take i ++ [ovRow ls most i] := by rw [take_next (ovM ls most) i [] (by rw [ovM_len]; exact hi'), ovM_get hi']
        refine ⟨by omega, by omega, i + 1, by omega, by omega, ?_⟩
        rw [htn]
        (simp only [LessC, lessS, lessO, belowS, belowO, AV.below, AObj.below, AC.below, XObj.below, List.length_cons, List.length_nil, List.all_cons, List.all_nil, Nat.reduceLT, Int.cast_ofNat_Int, Int.natCast_add, AV.c.injEq, AC.int.injEq, true_and, and_true, and_self, reduceCtorEq, Bool.and_true, Nat.zero_add, Nat.reduceAdd, Nat.reduceLeDiff, eq_self, decide_true, or_true, or_false, false_or] <;> try omega)
        all_goals exact i64_in _ (by omega)
    · have hin : i = ls.length := by omega
      rw [hin, List.take_of_length_le (by rw [ovM_len]; omega)]
      refine RetAt.keeping [2] (by decide) ?_ ?_ <;> simp only [resOf, tupOf, compOf, keepObjs, keepObjs, XObj.amap, ASt.eval, AV.strip, AV.need, AV.ac, qload, ASt.obj, AV.map, AObj.map, ofCells, TI.isAgg, findIx, AC.ren, eInt, eList, ePair, List.getD_cons_succ, List.getD_cons_zero, List.map_cons, List.map_nil, List.cons_append, List.nil_append, List.length_cons, List.length_nil, List.drop_zero, List.take_succ_cons, List.take_nil, and_self, reduceCtorEq, not_false_eq_true, cond_true, beq_self_eq_true, Nat.zero_add, Nat.reduceAdd, Nat.le_refl, eq_self, and_false, tab_53]
      rw [e, if_neg (by decide)]
      all_goals trivial
end Go.Vc.Pc
