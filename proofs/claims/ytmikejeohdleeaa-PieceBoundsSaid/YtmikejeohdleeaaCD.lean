/- A bound is proved. -/
import Derived.Test.YtmikejeohdleeaaCB
import Derived.Test.YtmikejeohdleeaaBA
set_option linter.unusedVariables false
set_option linter.unusedSimpArgs false
namespace Go.Vc.Pc
open Go.Proofs Go.IntWalk
set_option maxRecDepth 100000
/-- the greatest but one -/
def gmax (c : Nat → Int) (s : Nat) : Nat → Int
  | 0 => low
  | k + 1 => if k = s then gmax c s k else maxI (gmax c s k) (c k)
theorem gmax_le {c : Nat → Int} {s : Nat} : ∀ {m k : Nat}, k < m → ¬ k = s → c k ≤ gmax c s m
  | m + 1, k, h, hs => by
    unfold gmax
    have hx := maxI_le (gmax c s m) (c m)
    by_cases e : k = m
    · subst e
      rw [if_neg hs]
      exact hx.2
    · have ih := gmax_le (c := c) (s := s) (m := m) (k := k) (by omega) hs
      split <;> omega
theorem gmax_has {c : Nat → Int} {s : Nat} : ∀ m : Nat, gmax c s m = low ∨ ∃ k, k < m ∧ ¬ k = s ∧ gmax c s m = c k
  | 0 => .inl rfl
  | m + 1 => by
    unfold gmax
    have ih := gmax_has (c := c) (s := s) m
    have up : (gmax c s m = low ∨ ∃ k, k < m ∧ ¬ k = s ∧ gmax c s m = c k) → (gmax c s m = low ∨ ∃ k, k < m + 1 ∧ ¬ k = s ∧ gmax c s m = c k) := fun h => h.imp id fun ⟨k, h1, h2, h3⟩ => ⟨k, by omega, h2, h3⟩
    split
    · exact up ih
    · rename_i hs
      rcases maxI_cases (gmax c s m) (c m) with ⟨_, h⟩ | ⟨_, h⟩ <;> rw [h]
      · exact .inr ⟨m, by omega, hs, rfl⟩
      · exact up ih
def orZero (x : Int) : Int := if x = low then 0 else x
def outV (f l : List Int) (nx : Mat) (i : Nat) : Int := orZero (gmax (cellV f l nx i) i (f.length + 1))
def inC (f l : List Int) (nx : Mat) (k i : Nat) : Int := cellV f l nx i k - outV f l nx i
def inV (f l : List Int) (nx : Mat) (k : Nat) : Int := orZero (gmax (inC f l nx k) k (f.length + 1))
def outL (f l : List Int) (nx : Mat) : List Int := (List.range (f.length + 1)).map (outV f l nx)
def inL (f l : List Int) (nx : Mat) : List Int := (List.range (f.length + 1)).map (inV f l nx)
theorem outL_len {f l : List Int} {nx : Mat} : (outL f l nx).length = f.length + 1 := by simp [outL]
theorem inL_len {f l : List Int} {nx : Mat} : (inL f l nx).length = f.length + 1 := by simp [inL]
theorem outL_get {f l : List Int} {nx : Mat} {i : Nat} (h : i < f.length + 1) : (outL f l nx).getD i 0 = outV f l nx i := by simp [outL, List.getD, h]
theorem inL_get {f l : List Int} {nx : Mat} {i : Nat} (h : i < f.length + 1) : (inL f l nx).getD i 0 = inV f l nx i := by simp [inL, List.getD, h]
section
variable {f l : List Int} {nx : Mat}
theorem gmax_cell (ht : Tame l nx f.length) (hf : ∀ i, i < f.length → -1000000 ≤ f.getD i 0 ∧ f.getD i 0 ≤ 1000000) {i m : Nat} (hi : i ≤ f.length) (hm : m ≤ f.length + 1) : gmax (cellV f l nx i) i m = low ∨ (-1000000 ≤ gmax (cellV f l nx i) i m ∧ gmax (cellV f l nx i) i m ≤ 1000000) := by
  rcases gmax_has (c := cellV f l nx i) (s := i) m with h | ⟨k, h1, h2, h3⟩
  · exact .inl h
  · rw [h3]
    exact .inr (cellV_bounds ht hf hi (by omega) (fun e => h2 e.symm))
theorem outV_bounds (ht : Tame l nx f.length) (hf : ∀ i, i < f.length → -1000000 ≤ f.getD i 0 ∧ f.getD i 0 ≤ 1000000) {i : Nat} (hi : i ≤ f.length) : -1000000 ≤ outV f l nx i ∧ outV f l nx i ≤ 1000000 := by
  unfold outV orZero
  rcases gmax_cell ht hf hi (Nat.le_refl _) with h | h
  · rw [if_pos h]; omega
  · split <;> omega
theorem outV_le (ht : Tame l nx f.length) (hf : ∀ i, i < f.length → -1000000 ≤ f.getD i 0 ∧ f.getD i 0 ≤ 1000000) {i k : Nat} (hi : i ≤ f.length) (hk : k ≤ f.length) (hne : ¬ i = k) : gmax (cellV f l nx i) i (f.length + 1) = outV f l nx i ∧ cellV f l nx i k ≤ outV f l nx i := by
  have h1 := gmax_le (c := cellV f l nx i) (s := i) (m := f.length + 1) (k := k) (by omega) (fun e => hne e.symm)
  have h2 := cellV_bounds ht hf hi hk hne
  unfold outV orZero
  rw [if_neg (by unfold low; omega)]
  exact ⟨rfl, h1⟩
theorem inC_bounds (ht : Tame l nx f.length) (hf : ∀ i, i < f.length → -1000000 ≤ f.getD i 0 ∧ f.getD i 0 ≤ 1000000) {i k : Nat} (hi : i ≤ f.length) (hk : k ≤ f.length) (hne : ¬ i = k) : -2000000 ≤ inC f l nx k i ∧ inC f l nx k i ≤ 0 := by
  have h1 := outV_bounds ht hf hi
  have h2 := cellV_bounds ht hf hi hk hne
  have h3 := (outV_le ht hf hi hk hne).2
  unfold inC
  omega
theorem gmax_in (ht : Tame l nx f.length) (hf : ∀ i, i < f.length → -1000000 ≤ f.getD i 0 ∧ f.getD i 0 ≤ 1000000) {k m : Nat} (hk : k ≤ f.length) (hm : m ≤ f.length + 1) : gmax (inC f l nx k) k m = low ∨ (-2000000 ≤ gmax (inC f l nx k) k m ∧ gmax (inC f l nx k) k m ≤ 0) := by
  rcases gmax_has (c := inC f l nx k) (s := k) m with h | ⟨i, h1, h2, h3⟩
  · exact .inl h
  · rw [h3]
    exact .inr (inC_bounds ht hf (by omega) hk h2)
theorem inV_bounds (ht : Tame l nx f.length) (hf : ∀ i, i < f.length → -1000000 ≤ f.getD i 0 ∧ f.getD i 0 ≤ 1000000) {k : Nat} (hk : k ≤ f.length) : -2000000 ≤ inV f l nx k ∧ inV f l nx k ≤ 0 := by
  unfold inV orZero
  rcases gmax_in ht hf hk (Nat.le_refl _) with h | h
  · rw [if_pos h]; omega
  · split <;> omega
theorem inV_le (ht : Tame l nx f.length) (hf : ∀ i, i < f.length → -1000000 ≤ f.getD i 0 ∧ f.getD i 0 ≤ 1000000) {i k : Nat} (hi : i ≤ f.length) (hk : k ≤ f.length) (hne : ¬ i = k) : gmax (inC f l nx k) k (f.length + 1) = inV f l nx k ∧ inC f l nx k i ≤ inV f l nx k := by
  have h1 := gmax_le (c := inC f l nx k) (s := k) (m := f.length + 1) (k := i) (by omega) hne
  have h2 := inC_bounds ht hf hi hk hne
  unfold inV orZero
  rw [if_neg (by unfold low; omega)]
  exact ⟨rfl, h1⟩
open Classical in
theorem proved (ht : Tame l nx f.length) (hf : ∀ i, i < f.length → -1000000 ≤ f.getD i 0 ∧ f.getD i 0 ≤ 1000000) : hE f l nx (outL f l nx) (inL f l nx) = 0 := by
  refine hE_ok outL_len inL_len ?_ ?_
  · rintro ⟨i, hi, hb⟩
    rw [outL_get (by omega), inL_get (by omega)] at hb
    have h1 := outV_bounds ht hf hi
    have h2 := inV_bounds ht hf hi
    unfold bad4 at hb
    omega
  · rintro ⟨i, k, hi, hk, hne, ho⟩
    rw [outL_get (by omega), inL_get (by omega)] at ho
    have h1 := (inV_le ht hf hi hk hne).2
    unfold inC at h1
    omega
end
/-- a row of which the first i are done -/
def base (V : Nat → Int) (n i : Nat) : List Int := (List.range n).map fun j => if j < i then V j else 0
theorem base_len {V : Nat → Int} {n i : Nat} : (base V n i).length = n := by simp [base]
theorem base_zero {V : Nat → Int} {n : Nat} : zeros n (0 : Int) = base V n 0 := by
  apply List.ext_getElem
  · simp [zeros, base]
  · intro k h1 h2
    simp [zeros, base]
theorem base_next {V : Nat → Int} {n i : Nat} {x : Int} (h : x = V i) : (base V n i).set i x = base V n (i + 1) := by
  subst h
  apply List.ext_getElem
  · simp [base]
  · intro k h1 h2
    simp only [base, List.getElem_set, List.getElem_map, List.getElem_range]
    by_cases e : i = k
    · subst e; simp
    · rw [if_neg e]
      by_cases e2 : k < i
      · rw [if_pos e2, if_pos (by omega)]
      · rw [if_neg e2, if_neg (by omega)]
theorem base_full {V : Nat → Int} {n : Nat} : base V n n = (List.range n).map V := by
  unfold base
  apply List.map_congr_left
  intro j hj
  rw [if_pos (List.mem_range.1 hj)]
theorem base_get {V : Nat → Int} {n i : Nat} {x : Int} (h : i < n) : ((base V n i).set i x).getD i 0 = x := by
  have : i < (base V n i).length := by rw [base_len]; exact h
  simp [List.getD, this]
set_option maxHeartbeats 16000000 in
theorem prove_spec (f l : List Int) (nx : Mat) (h0 : tchk f l nx = 0) :
    ACall Try.prog 42 [tbl f l nx] [] (fun r os => r = .tup [(true, [.sl 0, .sl 1]), (false, [.int .i64 (sm (outL f l nx) (inL f l nx) (f.length + 1))]), (false, [.int .i64 0])] ∧ os = [rowI (outL f l nx), rowI (inL f l nx)]) := by
  obtain ⟨hn, ht, hf⟩ := tchk_ok h0
  have hll := ht.ll
  have hnl := ht.nl
  have hrl : ∀ r ∈ nx, r.length < 9223372036854775807 := fun r hr => by
    obtain ⟨i, hi, e⟩ := List.getElem_of_mem hr
    have := ht.rl i (by omega)
    rw [show nx.getD i [] = r by simp [List.getD, hi, e]] at this
    omega
  have wn : IntKind.i64.wrap ((f.length : Int) + 1) = (f.length : Int) + 1 := i64_in _ (by omega)
  have en : ((f.length : Int) + 1).toNat = f.length + 1 := by omega
  (refine ACall.of_body (nt := 142) (rs := [.cell 2 74, .tmp 3, .tmp 4]) tabOK Try.func42 rfl rfl rfl rfl ?_; simp only [startSt, List.length_cons, List.length_nil, Nat.reduceAdd, Nat.reduceSub, List.replicate_succ, List.replicate_zero, List.cons_append, List.nil_append])
  simp only [VCp, VC_region, VC_seq, aops_nil, aops_cons, put_some, aop, qop, isQuiet, ASt.eval, ASt.ev, AV.strip, AV.need, AV.ac, AV.cells, AV.isTup, qload, ned, AC.fits, newObj, ASt.obj, ofCells, TI.isAgg, avOf, acOf, eInt, eList, ePair, List.getD_cons_succ, List.getD_cons_zero, List.set_cons_succ, List.set_cons_zero, List.map_cons, List.map_nil, List.cons_append, List.nil_append, List.length_cons, List.length_nil, List.drop_zero, List.take_succ_cons, List.take_nil, List.all_cons, List.all_nil, Int.reduceNeg, true_and, and_self, reduceCtorEq, not_false_eq_true, Bool.and_true, Nat.zero_add, Nat.reduceAdd, Nat.le_refl, eq_self, tab_53, tab_74]
  refine CallAt.plain (check_spec f l nx (by omega) (by omega) (by omega) hrl) rfl ?_
  rintro r os ⟨rfl, rfl⟩
  rw [h0]
  simp only [VC_skip, VC_region, VC_draw, VC_seq, VC_cond, VC_ret, aops_nil, aops_cons, put_some, put_none, aop, qop, isQuiet, ASt.eval, ASt.ev, AV.strip, AV.need, AV.ac, AV.cells, AV.isTup, qbin, binInt, qlen, qfieldAddr, qload, qbuild, fillParts, splice, needAll, ned, partsOf, fitAll, AC.fits, astore, ASt.setObj, ASt.obj, AV.map, ofCells, TI.isAgg, isScalar, avOf, acOf, AC.ren, giveBack, afterCall, eInt, eList, ePair, List.getD_cons_succ, List.getD_cons_zero, List.set_cons_succ, List.set_cons_zero, List.map_nil, List.cons_append, List.nil_append, List.append_nil, List.length_cons, List.length_nil, List.drop_succ_cons, List.drop_zero, List.drop_nil, List.take_succ_cons, List.take_zero, List.headD_cons, List.all_cons, List.all_nil, List.getElem?_cons_zero, Int.reduceNeg, true_and, and_self, forall_const, reduceCtorEq, false_implies, not_false_eq_true, Bool.and_true, Bool.false_eq_true, Bool.not_true, Nat.add_zero, Nat.zero_add, Nat.reduceAdd, Nat.reduceLeDiff, Nat.le_refl, eq_self, Nat.succ_ne_self, decide_true, tab_26, tab_34, tab_53, tab_74]
  refine DrawAt.plan tabOK mixed (.take 0 false (.take 1 false (.take 3 false (.take 4 false (.alt 2 (.alt 5 (.take 6 false (.alt 7 (.alt 8 .done .stop) .stop)) (.alt 7 (.alt 5 (.take 6 true (.alt 8 .done .stop)) .stop) .stop)) (.alt 5 (.alt 2 (.take 6 false (.alt 7 (.alt 8 .done .stop) .stop)) (.alt 7 (.alt 2 (.take 6 true (.alt 8 .done .stop)) .stop) .stop)) (.alt 7 (.alt 2 (.alt 5 (.take 6 true (.alt 8 .done .stop)) .stop) (.alt 5 (.alt 2 (.take 6 true (.alt 8 .done .stop)) .stop) .stop)) .stop))))))) (by decide +kernel) ?_
  simp only [amakePlain, avc_done, avc_stop, avc_take, avc_alt, qstep, lstep, ownLoad, VC_region, VC_seq, VC_block, VC_loop, aops_nil, aops_cons, put_some, put_none, aop, qop, isQuiet, ASt.eval, ASt.ev, AV.strip, AV.need, AV.ac, AV.cells, AV.isTup, qbin, binInt, qbuild, fillParts, structPlace, splice, needAll, ned, partsOf, fitAll, AC.fits, astore, amake, newObj, ASt.setObj, ASt.obj, isScalar, avOf, acOf, eInt, eList, ePair, List.getD_cons_succ, List.getD_cons_zero, List.set_cons_succ, List.set_cons_zero, List.map_cons, List.map_nil, List.cons_append, List.nil_append, List.append_nil, List.length_cons, List.length_nil, List.drop_succ_cons, List.drop_zero, List.drop_nil, List.take_succ_cons, List.take_zero, List.all_cons, List.all_nil, List.getElem?_cons_succ, List.getElem?_cons_zero, Int.reduceNeg, Int.cast_ofNat_Int, true_and, and_true, and_self, reduceCtorEq, not_false_eq_true, Bool.and_true, Bool.false_eq_true, Nat.zero_add, Nat.reduceAdd, Nat.reduceLeDiff, Nat.le_refl, eq_self, Nat.succ_ne_self, or_true, tab_3, tab_26, tab_74, wn, en]
  refine (fun key => ⟨⟨by omega, by omega, by omega, by omega, ⟨by omega, by omega, by omega, by omega, LoopAt.fix 0 (renumL [1, 4, 2, 3] ⟨rfl, Nat.zero_le _, by decide⟩ key)⟩, by omega, by omega, by omega, by omega, LoopAt.fix 0 (renumL [1, 3, 2, 4] ⟨rfl, Nat.zero_le _, by decide⟩ key)⟩, ⟨by omega, by omega, by omega, by omega, ⟨by omega, by omega, by omega, by omega, LoopAt.fix 0 (renumL [1, 4, 3, 2] ⟨rfl, Nat.zero_le _, by decide⟩ key)⟩, by omega, by omega, by omega, by omega, LoopAt.fix 0 (renumL [1, 3, 4, 2] ⟨rfl, Nat.zero_le _, by decide⟩ key)⟩, ⟨by omega, by omega, by omega, by omega, by omega, by omega, by omega, by omega, LoopAt.fix 0 (renumL [1, 2, 3, 4] ⟨rfl, Nat.zero_le _, by decide⟩ key)⟩, by omega, by omega, by omega, by omega, by omega, by omega, by omega, by omega, LoopAt.fix 0 (renumL [1, 2, 4, 3] ⟨rfl, Nat.zero_le _, by decide⟩ key)⟩) ?_
  simp only [ASt.renum, keepObjs, ASt.fix, AC.fixp, XObj.amap, ASt.setObj, ASt.obj, ASt.map, AV.map, AObj.map, dvs, AC.dv, findIx, AC.ren, List.getD_cons_succ, List.getD_cons_zero, List.set_cons_zero, List.map_cons, List.map_nil, List.drop_zero, Int.reduceNeg, cond_true, cond_false, beq_self_eq_true, Nat.zero_add, Nat.reduceAdd, Nat.reduceBEq]
  refine LoopAt.inv (ι := Nat) (T := tab) (fun i => [(36, .c (.int .i64 i))]) (fun i => [.cells 74 [.nil, .nil], .cells 74 [.sl 2, .sl 3], rowI (base (outV f l nx) (f.length + 1) i), rowI (zeros (f.length + 1) 0)])
    (fun i => i ≤ f.length + 1) (fun i => f.length + 1 - i) tabOK 0 (Nat.zero_le _) ?_ ?_
  · (simp only [LessC, headSt, dsts, opDsts, resetS, putsS, lessS, lessO, belowS, belowO, AV.below, AObj.below, AC.below, List.set_cons_succ, List.set_cons_zero, List.cons_append, List.nil_append, List.append_nil, List.length_cons, List.length_nil, List.all_cons, List.all_nil, Nat.reduceLT, Int.cast_ofNat_Int, AV.c.injEq, AObj.row.injEq, heq_eq_eq, true_and, and_true, and_self, reduceCtorEq, Bool.and_true, Nat.zero_add, Nat.reduceAdd, Nat.reduceLeDiff, eq_self, decide_true, or_true] <;> try omega)
    exact base_zero
  intro i hi
  have hbl := base_len (V := outV f l nx) (n := f.length + 1) (i := i)
  simp only [VCp, headSt, dsts, opDsts, resetS, putsS, VC_skip, VC_region, VC_seq, VC_cond, VC_block, VC_loop, VC_exit, aops_nil, aops_cons, put_some, put_none, aop, qop, isQuiet, ASt.eval, ASt.ev, AV.strip, AV.need, AV.ac, AV.cells, AV.isTup, qbin, binInt, qindexAddr, qfieldAddr, qload, splice, ned, astore, ASt.setObj, ASt.obj, frzRefs, dvs, AC.dv, leD, leD1, ofCells, TI.isAgg, isScalar, avOf, acOf, eInt, eList, ePair, List.getD_cons_succ, List.getD_cons_zero, List.set_cons_succ, List.set_cons_zero, List.cons_append, List.nil_append, List.append_nil, List.length_cons, List.length_nil, List.drop_succ_cons, List.drop_zero, List.drop_nil, List.take_succ_cons, List.take_zero, List.headD_cons, List.getElem?_cons_zero, Int.reduceNeg, Int.cast_ofNat_Int, Int.natCast_add, DV.int.injEq, exists_eq_left', Int.toNat_natCast, decide_eq_true_eq, decide_eq_false_iff_not, Int.not_lt, true_and, and_true, and_self, not_false_eq_true, if_true, Nat.add_zero, Nat.zero_add, Nat.reduceAdd, Nat.reduceLeDiff, Nat.le_refl, eq_self, Nat.succ_ne_self, tab_3, tab_26, tab_74, hbl, wn]
  refine ⟨fun h => ?_, fun h => ?_⟩
  · have hi' : i < f.length + 1 := by omega
    refine ⟨⟨by omega, by omega⟩, hi', ?_⟩
    refine LoopAt.inv (ι := Nat) (T := tab) (fun k => [(45, .c (.int .i64 k))]) (fun k => [.cells 74 [.nil, .nil], .cells 74 [.sl 2, .sl 3], rowI ((base (outV f l nx) (f.length + 1) i).set i (gmax (cellV f l nx i) i k)), rowI (zeros (f.length + 1) 0)])
      (fun k => k ≤ f.length + 1) (fun k => f.length + 1 - k) tabOK 0 (Nat.zero_le _) ?_ ?_
    · (simp only [LessC, headSt, dsts, opDsts, resetS, putsS, lessS, lessO, belowS, belowO, AV.below, AObj.below, AC.below, List.set_cons_succ, List.set_cons_zero, List.cons_append, List.nil_append, List.append_nil, List.length_cons, List.length_nil, List.all_cons, List.all_nil, Int.reduceNeg, Nat.reduceLT, Int.cast_ofNat_Int, AV.c.injEq, AObj.row.injEq, heq_eq_eq, true_and, and_true, and_self, reduceCtorEq, Bool.and_true, Nat.zero_add, Nat.reduceAdd, Nat.reduceLeDiff, eq_self, decide_true, or_true] <;> try omega)
      rfl
    intro k hk
    have hgk := base_get (V := outV f l nx) (n := f.length + 1) (i := i) (x := gmax (cellV f l nx i) i k) hi'
    have hgl : ((base (outV f l nx) (f.length + 1) i).set i (gmax (cellV f l nx i) i k)).length = f.length + 1 := by rw [List.length_set, hbl]
    simp only [VCp, headSt, dsts, opDsts, resetS, putsS, VC_skip, VC_region, VC_seq, VC_cond, VC_block, VC_loop, VC_exit, aops_nil, aops_cons, put_some, put_none, aop, qop, isQuiet, ASt.eval, ASt.ev, AV.strip, AV.need, AV.ac, AV.cells, AV.isTup, qbin, binInt, qindexAddr, qfieldAddr, qload, splice, ned, astore, ASt.setObj, ASt.obj, frzRefs, dvs, AC.dv, DV.ac, leD, leD1, ofCells, TI.isAgg, isScalar, avOf, acOf, eInt, eList, ePair, List.getD_cons_succ, List.getD_cons_zero, List.set_cons_succ, List.set_cons_zero, List.map_cons, List.map_nil, List.cons_append, List.nil_append, List.append_nil, List.length_cons, List.length_nil, List.drop_succ_cons, List.drop_zero, List.drop_nil, List.take_succ_cons, List.take_zero, List.take_nil, List.headD_cons, List.getElem?_cons_zero, Int.reduceNeg, Int.cast_ofNat_Int, Int.natCast_add, DV.int.injEq, exists_eq_left', Int.toNat_natCast, List.length_set, decide_eq_true_eq, decide_eq_false_iff_not, Int.not_lt, true_and, and_true, and_self, reduceCtorEq, not_false_eq_true, if_true, if_false, Nat.add_zero, Nat.zero_add, Nat.reduceAdd, Nat.reduceLeDiff, Nat.le_refl, eq_self, Nat.succ_ne_self, tab_3, tab_26, tab_53, tab_74, hgk, hbl]
    refine ⟨fun h => ?_, fun h => ?_⟩
    · have hk' : k < f.length + 1 := by omega
      refine CallAt.plain (cellP_spec f l nx ht hn i k (by omega) (by omega)) rfl ?_
      rintro r os ⟨rfl, rfl⟩
      by_cases eik : i = k
      · have z2 : (i = k) = True := eq_true eik
        have hst : gmax (cellV f l nx i) i (k + 1) = gmax (cellV f l nx i) i k := if_pos eik.symm
        simp only [VC_skip, VC_region, VC_draw, VC_seq, VC_cond, aops_nil, aops_cons, put_some, qop, isQuiet, ASt.eval, AV.need, AV.ac, qbin, binInt, qextract, AV.map, isScalar, avOf, acOf, AC.ren, giveBack, afterCall, eInt, List.getD_cons_succ, List.getD_cons_zero, List.set_cons_succ, List.set_cons_zero, List.map_cons, List.map_nil, List.append_nil, List.length_cons, List.length_nil, List.headD_cons, List.getElem?_cons_succ, List.getElem?_cons_zero, Int.reduceNeg, true_and, and_self, forall_const, false_implies, Bool.false_eq_true, Bool.not_true, if_true, Nat.zero_add, Nat.reduceAdd, eq_self, decide_true, tab_3, z2]
        refine ⟨k + 1, by omega, by omega, ?_⟩
        rw [hst]
        (simp only [LessC, lessS, lessO, belowS, belowO, AV.below, AObj.below, AC.below, List.length_cons, List.length_nil, List.all_cons, List.all_nil, Nat.reduceLT, Int.cast_ofNat_Int, Int.natCast_add, AV.c.injEq, AC.int.injEq, true_and, and_true, and_self, reduceCtorEq, Bool.and_true, Nat.zero_add, Nat.reduceAdd, Nat.reduceLeDiff, eq_self, decide_true, or_true, or_false, false_or] <;> try omega)
        all_goals exact i64_in _ (by omega)
      · have z2 : (i = k) = False := eq_false eik
        have hst : gmax (cellV f l nx i) i (k + 1) = maxI (gmax (cellV f l nx i) i k) (cellV f l nx i k) := if_neg (fun e => eik e.symm)
        rw [if_neg eik]
        simp only [VC_skip, VC_region, VC_draw, VC_seq, VC_cond, aops_nil, aops_cons, put_some, qop, isQuiet, ASt.eval, AV.need, AV.ac, qbin, binInt, qextract, AV.map, isScalar, avOf, acOf, AC.ren, giveBack, afterCall, eInt, List.getD_cons_succ, List.getD_cons_zero, List.set_cons_succ, List.set_cons_zero, List.map_cons, List.map_nil, List.append_nil, List.length_cons, List.length_nil, List.headD_cons, List.getElem?_cons_succ, List.getElem?_cons_zero, Int.reduceNeg, true_and, and_true, and_self, forall_const, false_implies, Bool.true_eq_false, Bool.not_false, Nat.zero_add, Nat.reduceAdd, eq_self, decide_false, tab_3, z2]
        refine DrawAt.plan tabOK mixed (.take 0 true (.take 1 true (.take 2 true (.take 3 true (.take 4 true (.take 5 true (.take 6 true (.take 7 true (.take 8 true (.take 9 true (.take 10 true (.alt 11 .done .stop)))))))))))) (by decide +kernel) ?_
        simp only [avc_done, avc_stop, avc_take, avc_alt, qstep, lstep, ownLoad, VC_region, aops_nil, aops_cons, put_some, put_none, aop, qop, isQuiet, ASt.eval, ASt.ev, AV.strip, AV.need, AV.ac, AV.cells, AV.isTup, qbin, binInt, qmax, qindexAddr, qfieldAddr, qload, splice, ned, astore, ASt.setObj, ASt.obj, frzRefs, dvs, AC.dv, DV.ac, leD, leD1, ofCells, TI.isAgg, isScalar, avOf, acOf, eInt, eList, ePair, List.getD_cons_succ, List.getD_cons_zero, List.set_cons_succ, List.set_cons_zero, List.map_cons, List.map_nil, List.cons_append, List.nil_append, List.append_nil, List.length_cons, List.length_nil, List.drop_succ_cons, List.drop_zero, List.drop_nil, List.take_succ_cons, List.take_zero, List.take_nil, List.headD_cons, List.getElem?_cons_succ, List.getElem?_cons_zero, Int.reduceNeg, Int.cast_ofNat_Int, Int.natCast_add, DV.int.injEq, exists_eq_left', Int.toNat_natCast, List.length_set, true_and, and_true, and_self, not_false_eq_true, Bool.true_eq_false, Nat.add_zero, Nat.zero_add, Nat.reduceAdd, Nat.reduceLeDiff, Nat.le_refl, eq_self, Nat.succ_ne_self, or_true, or_false, tab_3, tab_26, tab_74, hgk, hbl]
        refine ⟨⟨by omega, by omega⟩, hi', ⟨by omega, by omega⟩, hi', k + 1, by omega, by omega, ?_⟩
        rw [hst]
        unfold maxI
        simp only [List.set_set]
        (simp only [LessC, lessS, lessO, belowS, belowO, AV.below, AObj.below, AC.below, List.length_cons, List.length_nil, List.all_cons, List.all_nil, Nat.reduceLT, Int.cast_ofNat_Int, Int.natCast_add, AV.c.injEq, AC.int.injEq, true_and, and_true, and_self, reduceCtorEq, Bool.and_true, Nat.zero_add, Nat.reduceAdd, Nat.reduceLeDiff, eq_self, decide_true, or_true, or_false, false_or] <;> try omega)
        all_goals exact i64_in _ (by omega)
    · have hin : k = f.length + 1 := by omega
      subst hin
      have hst : ∀ x, x = outV f l nx i → ((base (outV f l nx) (f.length + 1) i).set i x) = base (outV f l nx) (f.length + 1) (i + 1) := fun x h => base_next h
      refine ⟨⟨by omega, by omega⟩, hi', fun hz => ⟨⟨by omega, by omega⟩, hi', i + 1, by omega, by omega, ?_⟩, fun hz => ⟨i + 1, by omega, by omega, ?_⟩⟩
      · rw [List.set_set, hst 0 (by unfold outV orZero; rw [if_pos (by unfold low; exact hz)])]
        (simp only [LessC, lessS, lessO, belowS, belowO, AV.below, AObj.below, AC.below, List.length_cons, List.length_nil, List.all_cons, List.all_nil, Int.reduceNeg, Nat.reduceLT, Int.cast_ofNat_Int, Int.natCast_add, AV.c.injEq, AC.int.injEq, true_and, and_true, and_self, reduceCtorEq, Bool.and_true, Nat.zero_add, Nat.reduceAdd, Nat.reduceLeDiff, eq_self, decide_true, or_true, or_false, false_or] <;> try omega)
        all_goals exact i64_in _ (by omega)
      · rw [hst _ (by unfold outV orZero; rw [if_neg (by unfold low; simpa using hz)])]
        (simp only [LessC, lessS, lessO, belowS, belowO, AV.below, AObj.below, AC.below, List.length_cons, List.length_nil, List.all_cons, List.all_nil, Int.reduceNeg, Nat.reduceLT, Int.cast_ofNat_Int, Int.natCast_add, AV.c.injEq, AC.int.injEq, true_and, and_true, and_self, reduceCtorEq, Bool.and_true, Nat.zero_add, Nat.reduceAdd, Nat.reduceLeDiff, eq_self, decide_true, or_true, or_false, false_or] <;> try omega)
        all_goals exact i64_in _ (by omega)
  · have hin : i = f.length + 1 := by omega
    rw [hin, base_full]
    have eO : (List.range (f.length + 1)).map (outV f l nx) = outL f l nx := rfl
    rw [eO]
    have hOl := outL_len (f := f) (l := l) (nx := nx)
    refine LoopAt.inv (ι := Nat) (T := tab) (fun k => [(81, .c (.int .i64 k))]) (fun k => [.cells 74 [.nil, .nil], .cells 74 [.sl 2, .sl 3], rowI (outL f l nx), rowI (base (inV f l nx) (f.length + 1) k)])
      (fun k => k ≤ f.length + 1) (fun k => f.length + 1 - k) tabOK 0 (Nat.zero_le _) ?_ ?_
    · (simp only [LessC, headSt, dsts, opDsts, resetS, putsS, lessS, lessO, belowS, belowO, AV.below, AObj.below, AC.below, List.set_cons_succ, List.set_cons_zero, List.cons_append, List.nil_append, List.append_nil, List.length_cons, List.length_nil, List.all_cons, List.all_nil, Nat.reduceLT, Int.cast_ofNat_Int, Int.natCast_add, AV.c.injEq, AObj.row.injEq, heq_eq_eq, true_and, and_true, and_self, reduceCtorEq, Bool.and_true, Nat.zero_add, Nat.reduceAdd, Nat.reduceLeDiff, eq_self, decide_true, or_true] <;> try omega)
      exact base_zero
    intro k hk
    have hbl := base_len (V := inV f l nx) (n := f.length + 1) (i := k)
    simp only [VCp, headSt, dsts, opDsts, resetS, putsS, VC_skip, VC_region, VC_seq, VC_cond, VC_block, VC_loop, VC_exit, aops_nil, aops_cons, put_some, put_none, aop, qop, isQuiet, ASt.eval, ASt.ev, AV.strip, AV.need, AV.ac, AV.cells, AV.isTup, qbin, binInt, qindexAddr, qfieldAddr, qload, splice, ned, astore, ASt.setObj, ASt.obj, frzRefs, dvs, AC.dv, DV.ac, leD, leD1, ofCells, TI.isAgg, isScalar, avOf, acOf, eInt, eList, ePair, List.getD_cons_succ, List.getD_cons_zero, List.set_cons_succ, List.set_cons_zero, List.map_cons, List.map_nil, List.cons_append, List.nil_append, List.append_nil, List.length_cons, List.length_nil, List.drop_succ_cons, List.drop_zero, List.drop_nil, List.take_succ_cons, List.take_zero, List.take_nil, List.headD_cons, List.getElem?_cons_succ, List.getElem?_cons_zero, Int.reduceNeg, Int.cast_ofNat_Int, Int.natCast_add, DV.int.injEq, exists_eq_left', Int.toNat_natCast, decide_eq_true_eq, decide_eq_false_iff_not, Int.not_lt, true_and, and_true, and_self, reduceCtorEq, not_false_eq_true, if_true, Nat.zero_add, Nat.reduceAdd, Nat.le_refl, eq_self, Nat.succ_ne_self, tab_3, tab_26, tab_53, tab_74, hbl, wn]
    refine ⟨fun h => ?_, fun h => ?_⟩
    · have hk' : k < f.length + 1 := by omega
      refine ⟨⟨by omega, by omega⟩, hk', ?_⟩
      refine LoopAt.inv (ι := Nat) (T := tab) (fun i => [(90, .c (.int .i64 i))]) (fun i => [.cells 74 [.nil, .nil], .cells 74 [.sl 2, .sl 3], rowI (outL f l nx), rowI ((base (inV f l nx) (f.length + 1) k).set k (gmax (inC f l nx k) k i))])
        (fun i => i ≤ f.length + 1) (fun i => f.length + 1 - i) tabOK 0 (Nat.zero_le _) ?_ ?_
      · (simp only [LessC, headSt, dsts, opDsts, resetS, putsS, lessS, lessO, belowS, belowO, AV.below, AObj.below, AC.below, List.set_cons_succ, List.set_cons_zero, List.cons_append, List.nil_append, List.append_nil, List.length_cons, List.length_nil, List.all_cons, List.all_nil, Int.reduceNeg, Nat.reduceLT, Int.cast_ofNat_Int, AV.c.injEq, AObj.row.injEq, heq_eq_eq, true_and, and_true, and_self, reduceCtorEq, Bool.and_true, Nat.zero_add, Nat.reduceAdd, Nat.reduceLeDiff, eq_self, decide_true, or_true] <;> try omega)
        rfl
      intro i hi
      have hgk := base_get (V := inV f l nx) (n := f.length + 1) (i := k) (x := gmax (inC f l nx k) k i) hk'
      simp only [VCp, headSt, dsts, opDsts, resetS, putsS, VC_skip, VC_region, VC_seq, VC_cond, VC_block, VC_exit, aops_nil, aops_cons, put_some, put_none, aop, qop, isQuiet, ASt.eval, ASt.ev, AV.strip, AV.need, AV.ac, AV.cells, AV.isTup, qbin, binInt, qindexAddr, qfieldAddr, qload, splice, ned, astore, ASt.setObj, ASt.obj, frzRefs, dvs, AC.dv, DV.ac, leD, leD1, ofCells, TI.isAgg, isScalar, avOf, acOf, eInt, eList, ePair, List.getD_cons_succ, List.getD_cons_zero, List.set_cons_succ, List.set_cons_zero, List.map_cons, List.map_nil, List.cons_append, List.nil_append, List.append_nil, List.length_cons, List.length_nil, List.drop_succ_cons, List.drop_zero, List.drop_nil, List.take_succ_cons, List.take_zero, List.take_nil, List.headD_cons, List.getElem?_cons_succ, List.getElem?_cons_zero, Int.reduceNeg, Int.cast_ofNat_Int, Int.natCast_add, DV.int.injEq, exists_eq_left', Int.toNat_natCast, List.length_set, decide_eq_true_eq, decide_eq_false_iff_not, Int.not_lt, true_and, and_true, and_self, reduceCtorEq, not_false_eq_true, if_true, if_false, Nat.zero_add, Nat.reduceAdd, Nat.reduceEqDiff, Nat.le_refl, eq_self, Nat.succ_ne_self, tab_3, tab_26, tab_53, tab_74, hgk, hbl]
      refine ⟨fun h => ?_, fun h => ?_⟩
      · have hi' : i < f.length + 1 := by omega
        refine CallAt.plain (cellP_spec f l nx ht hn i k (by omega) (by omega)) rfl ?_
        rintro r os ⟨rfl, rfl⟩
        by_cases eik : i = k
        · have z2 : (i = k) = True := eq_true eik
          have hst : gmax (inC f l nx k) k (i + 1) = gmax (inC f l nx k) k i := if_pos eik
          simp only [VC_skip, VC_region, VC_draw, VC_seq, VC_cond, aops_nil, aops_cons, put_some, qop, isQuiet, ASt.eval, AV.need, AV.ac, qbin, binInt, qextract, AV.map, isScalar, avOf, acOf, AC.ren, giveBack, afterCall, eInt, List.getD_cons_succ, List.getD_cons_zero, List.set_cons_succ, List.set_cons_zero, List.map_cons, List.map_nil, List.append_nil, List.length_cons, List.length_nil, List.headD_cons, List.getElem?_cons_succ, List.getElem?_cons_zero, Int.reduceNeg, true_and, and_self, forall_const, false_implies, Bool.false_eq_true, Bool.not_true, if_true, Nat.zero_add, Nat.reduceAdd, eq_self, decide_true, tab_3, z2]
          refine ⟨i + 1, by omega, by omega, ?_⟩
          rw [hst]
          (simp only [LessC, lessS, lessO, belowS, belowO, AV.below, AObj.below, AC.below, List.length_cons, List.length_nil, List.all_cons, List.all_nil, Nat.reduceLT, Int.cast_ofNat_Int, Int.natCast_add, AV.c.injEq, AC.int.injEq, true_and, and_true, and_self, reduceCtorEq, Bool.and_true, Nat.zero_add, Nat.reduceAdd, Nat.reduceLeDiff, eq_self, decide_true, or_true, or_false, false_or] <;> try omega)
          all_goals exact i64_in _ (by omega)
        · have z2 : (i = k) = False := eq_false eik
          have hst : gmax (inC f l nx k) k (i + 1) = maxI (gmax (inC f l nx k) k i) (inC f l nx k i) := if_neg eik
          have b1 := outV_bounds ht hf (i := i) (by omega)
          have b2 := cellV_bounds ht hf (i := i) (k := k) (by omega) (by omega) eik
          have hOg := outL_get (f := f) (l := l) (nx := nx) hi'
          have w1 : IntKind.i64.wrap (cellV f l nx i k - outV f l nx i) = inC f l nx k i := i64_in _ (by omega)
          rw [if_neg eik]
          simp only [VC_skip, VC_region, VC_draw, VC_seq, VC_cond, aops_nil, aops_cons, put_some, qop, isQuiet, ASt.eval, AV.need, AV.ac, qbin, binInt, qextract, AV.map, isScalar, avOf, acOf, AC.ren, giveBack, afterCall, eInt, List.getD_cons_succ, List.getD_cons_zero, List.set_cons_succ, List.set_cons_zero, List.map_cons, List.map_nil, List.append_nil, List.length_cons, List.length_nil, List.headD_cons, List.getElem?_cons_succ, List.getElem?_cons_zero, Int.reduceNeg, true_and, and_true, and_self, forall_const, false_implies, Bool.true_eq_false, Bool.not_false, Nat.zero_add, Nat.reduceAdd, eq_self, decide_false, tab_3, z2]
          refine DrawAt.plan tabOK mixed (.take 0 true (.take 1 true (.take 2 true (.take 3 true (.take 4 true (.take 5 true (.take 6 true (.take 7 true (.take 8 true (.take 9 true (.take 10 true (.take 11 true (.take 12 true (.take 13 true (.take 14 true (.take 15 true (.take 16 true (.alt 17 .done .stop)))))))))))))))))) (by decide +kernel) ?_
          simp only [avc_done, avc_stop, avc_take, avc_alt, qstep, lstep, ownLoad, VC_region, aops_nil, aops_cons, put_some, put_none, aop, qop, isQuiet, ASt.eval, ASt.ev, AV.strip, AV.need, AV.ac, AV.cells, AV.isTup, qbin, binInt, qmax, qindexAddr, qfieldAddr, qload, splice, ned, astore, ASt.setObj, ASt.obj, frzRefs, dvs, AC.dv, DV.ac, leD, leD1, ofCells, TI.isAgg, isScalar, avOf, acOf, eInt, eList, ePair, List.getD_cons_succ, List.getD_cons_zero, List.set_cons_succ, List.set_cons_zero, List.map_cons, List.map_nil, List.cons_append, List.nil_append, List.append_nil, List.length_cons, List.length_nil, List.drop_succ_cons, List.drop_zero, List.drop_nil, List.take_succ_cons, List.take_zero, List.take_nil, List.headD_cons, List.getElem?_cons_succ, List.getElem?_cons_zero, Int.reduceNeg, Int.cast_ofNat_Int, Int.natCast_add, DV.int.injEq, exists_eq_left', Int.toNat_natCast, List.length_set, true_and, and_true, and_self, not_false_eq_true, Bool.true_eq_false, Nat.add_zero, Nat.zero_add, Nat.reduceAdd, Nat.reduceLeDiff, Nat.le_refl, eq_self, Nat.succ_ne_self, or_true, or_false, tab_3, tab_26, tab_74, hgk, hbl, hOg, hOl, w1]
          refine ⟨⟨by omega, by omega⟩, hk', ⟨by omega, by omega⟩, hi', ⟨by omega, by omega⟩, hk', i + 1, by omega, by omega, ?_⟩
          rw [hst]
          unfold maxI
          simp only [List.set_set]
          (simp only [LessC, lessS, lessO, belowS, belowO, AV.below, AObj.below, AC.below, List.length_cons, List.length_nil, List.all_cons, List.all_nil, Nat.reduceLT, Int.cast_ofNat_Int, Int.natCast_add, AV.c.injEq, AC.int.injEq, true_and, and_true, and_self, reduceCtorEq, Bool.and_true, Nat.zero_add, Nat.reduceAdd, Nat.reduceLeDiff, eq_self, decide_true, or_true, or_false, false_or] <;> try omega)
          all_goals exact i64_in _ (by omega)
      · have hin : i = f.length + 1 := by omega
        subst hin
        have hst : ∀ x, x = inV f l nx k → ((base (inV f l nx) (f.length + 1) k).set k x) = base (inV f l nx) (f.length + 1) (k + 1) := fun x h => base_next h
        refine ⟨⟨by omega, by omega⟩, hk', fun hz => ⟨⟨by omega, by omega⟩, hk', k + 1, by omega, by omega, ?_⟩, fun hz => ⟨k + 1, by omega, by omega, ?_⟩⟩
        · rw [List.set_set, hst 0 (by unfold inV orZero; rw [if_pos (by unfold low; exact hz)])]
          (simp only [LessC, lessS, lessO, belowS, belowO, AV.below, AObj.below, AC.below, List.length_cons, List.length_nil, List.all_cons, List.all_nil, Int.reduceNeg, Nat.reduceLT, Int.cast_ofNat_Int, Int.natCast_add, AV.c.injEq, AC.int.injEq, true_and, and_true, and_self, reduceCtorEq, Bool.and_true, Nat.zero_add, Nat.reduceAdd, Nat.reduceLeDiff, eq_self, decide_true, or_true, or_false, false_or] <;> try omega)
          all_goals exact i64_in _ (by omega)
        · rw [hst _ (by unfold inV orZero; rw [if_neg (by unfold low; simpa using hz)])]
          (simp only [LessC, lessS, lessO, belowS, belowO, AV.below, AObj.below, AC.below, List.length_cons, List.length_nil, List.all_cons, List.all_nil, Int.reduceNeg, Nat.reduceLT, Int.cast_ofNat_Int, Int.natCast_add, AV.c.injEq, AC.int.injEq, true_and, and_true, and_self, reduceCtorEq, Bool.and_true, Nat.zero_add, Nat.reduceAdd, Nat.reduceLeDiff, eq_self, decide_true, or_true, or_false, false_or] <;> try omega)
          all_goals exact i64_in _ (by omega)
    · have hkn : k = f.length + 1 := by omega
      rw [hkn, base_full]
      have eI : (List.range (f.length + 1)).map (inV f l nx) = inL f l nx := rfl
      rw [eI]
      have hIl := inL_len (f := f) (l := l) (nx := nx)
      refine CallAt.view [2, 3] (holds_spec f l nx (outL f l nx) (inL f l nx) h0 (by omega) (by omega)) rfl (fun r os h => by obtain ⟨rfl, rfl⟩ := h; refine ⟨by simp [AV.flat, AC.flat], fun _ h => by cases h⟩) ?_
      rintro r os ⟨rfl, rfl⟩
      rw [hRes_ok (proved ht hf)]
      simp only [VC_skip, VC_region, VC_seq, VC_cond, VC_ret, aops_nil, aops_cons, put_some, put_none, aop, qop, isQuiet, ASt.eval, ASt.ev, AV.strip, AV.need, AV.ac, AV.cells, AV.isTup, qbin, binInt, qload, qextract, qbuild, fillParts, splice, needAll, ned, partsOf, fitAll, AC.fits, astore, ASt.setObj, ASt.obj, AV.map, ofCells, TI.isAgg, isScalar, avOf, acOf, AC.ren, giveBack, afterCall, eInt, eList, ePair, List.getD_cons_succ, List.getD_cons_zero, List.set_cons_succ, List.set_cons_zero, List.map_cons, List.map_nil, List.cons_append, List.nil_append, List.append_nil, List.length_cons, List.length_nil, List.drop_succ_cons, List.drop_zero, List.drop_nil, List.take_succ_cons, List.take_zero, List.take_nil, List.headD_cons, List.all_cons, List.all_nil, List.getElem?_cons_succ, List.getElem?_cons_zero, Int.cast_ofNat_Int, Int.natCast_add, true_and, and_self, forall_const, reduceCtorEq, false_implies, not_false_eq_true, Bool.and_true, Bool.false_eq_true, Bool.not_true, Nat.zero_add, Nat.reduceAdd, Nat.le_refl, eq_self, decide_true, tab_34, tab_74]
      refine RetAt.keeping [2, 3] (by decide) ?_ ?_ <;> simp only [resOf, tupOf, compOf, keepObjs, keepObjs, XObj.amap, ASt.eval, AV.strip, AV.need, AV.ac, qload, ASt.obj, AV.map, AObj.map, ofCells, TI.isAgg, findIx, AC.ren, eInt, eList, ePair, List.getD_cons_succ, List.getD_cons_zero, List.map_cons, List.map_nil, List.cons_append, List.nil_append, List.length_cons, List.length_nil, List.drop_zero, List.take_succ_cons, List.take_nil, and_self, reduceCtorEq, not_false_eq_true, cond_true, cond_false, beq_self_eq_true, Nat.zero_add, Nat.reduceAdd, Nat.reduceBEq, Nat.le_refl, eq_self, tab_74]
end Go.Vc.Pc
