/- The reference's automata: tables of pairs. -/
import Derived.Test.YtmikejeohdleeaaGD
set_option linter.unusedVariables false
set_option linter.unusedSimpArgs false
namespace Go.Vc
open Go.Proofs Go.IntWalk
set_option maxRecDepth 100000
def bitsL (n m : Nat) : List Bool := (List.range n).map m.testBit
theorem bitsL_len (n m : Nat) : (bitsL n m).length = n := by simp [bitsL]
theorem bitsL_get {n m t : Nat} (h : t < n) : (bitsL n m).getD t false = m.testBit t := by
  simp [bitsL, List.getD, h]
theorem bitsL_set {n m t : Nat} : (bitsL n m).set t true = bitsL n (m ||| 2 ^ t) := by
  apply List.ext_getElem?
  intro i
  rw [List.getElem?_set]
  simp only [bitsL, List.length_map, List.length_range, List.getElem?_map]
  by_cases hi : i < n
  · rw [List.getElem?_range hi]
    by_cases ht : t = i
    · subst ht
      rw [if_pos rfl, if_pos hi]
      simp [Nat.testBit_or]
    · rw [if_neg ht]
      simp [Nat.testBit_or, ht]
  · rw [List.getElem?_eq_none (by simp; omega)]
    by_cases ht : t = i
    · subst ht; rw [if_pos rfl, if_neg hi]; rfl
    · rw [if_neg ht]; rfl
theorem zeros_bits (n : Nat) : zeros n false = bitsL n 0 := by
  apply List.ext_getElem?
  intro i
  simp only [zeros, bitsL, List.getElem?_replicate, List.getElem?_map]
  by_cases hi : i < n
  · rw [if_pos hi, List.getElem?_range hi]; simp
  · rw [if_neg hi, List.getElem?_eq_none (by simp; omega)]; rfl
/-- the first i rows -/
def pmat (n i : Nat) (f : Nat → Nat) : List (List Bool) := (List.range n).map fun s => if s < i then bitsL n (f s) else []
def mat (n : Nat) (f : Nat → Nat) : List (List Bool) := (List.range n).map fun s => bitsL n (f s)
theorem pmat_len (n i : Nat) (f : Nat → Nat) : (pmat n i f).length = n := by simp [pmat]
theorem mat_len (n : Nat) (f : Nat → Nat) : (mat n f).length = n := by simp [mat]
theorem pmat_zero (n : Nat) (f : Nat → Nat) : zeros n ([] : List Bool) = pmat n 0 f := by
  apply List.ext_getElem?
  intro i
  simp only [zeros, pmat, List.getElem?_replicate, List.getElem?_map]
  by_cases hi : i < n
  · rw [if_pos hi, List.getElem?_range hi]; simp
  · rw [if_neg hi, List.getElem?_eq_none (by simp; omega)]; rfl
theorem pmat_full {n i : Nat} (h : n ≤ i) (f : Nat → Nat) : pmat n i f = mat n f := by
  unfold pmat mat
  apply List.map_congr_left
  intro s hs
  simp only [List.mem_range] at hs
  rw [if_pos (by omega)]
theorem pmat_set {n i : Nat} {f : Nat → Nat} (hi : i < n) : (pmat n i f).set i (bitsL n (f i)) = pmat n (i + 1) f := by
  apply List.ext_getElem?
  intro k
  rw [List.getElem?_set]
  simp only [pmat, List.length_map, List.length_range, List.getElem?_map]
  by_cases hk : k < n
  · rw [List.getElem?_range hk]
    by_cases he : i = k
    · subst he
      rw [if_pos rfl, if_pos hi]
      simp
    · rw [if_neg he]
      simp only [Option.map_some]
      by_cases c : k < i
      · rw [if_pos c, if_pos (by omega)]
      · rw [if_neg c, if_neg (by omega)]
  · rw [List.getElem?_eq_none (l := List.range n) (by simp; omega)]
    by_cases he : i = k
    · subst he; rw [if_pos rfl, if_neg hk]; rfl
    · rw [if_neg he]; rfl
theorem mat_get {n s : Nat} {f : Nat → Nat} (h : s < n) : (mat n f).getD s [] = bitsL n (f s) := by
  simp [mat, List.getD, h]
theorem mat_set {n s : Nat} {f : Nat → Nat} {m : Nat} : (mat n f).set s (bitsL n m) = mat n (fun i => if i = s then m else f i) := by
  apply List.ext_getElem?
  intro k
  rw [List.getElem?_set]
  simp only [mat, List.length_map, List.length_range, List.getElem?_map]
  by_cases hk : k < n
  · rw [List.getElem?_range hk]
    by_cases he : s = k
    · subst he; rw [if_pos rfl, if_pos hk]; simp
    · rw [if_neg he]
      have : ¬ k = s := fun e => he e.symm
      simp [this]
  · rw [List.getElem?_eq_none (l := List.range n) (by simp; omega)]
    by_cases he : s = k
    · subst he; rw [if_pos rfl, if_neg hk]; rfl
    · rw [if_neg he]; rfl
theorem set_get {β : Type} {l : List (List β)} {i : Nat} {x : List β} (h : i < l.length) : (l.set i x).getD i [] = x := by
  simp [List.getD, h]
def rEnc : Mv → List DV := fun p => [.int .i64 p.1, .int .i64 p.2.1, .int .i64 p.2.2.1, .int .i64 p.2.2.2]
abbrev rcells (n : Int) (ms : List Mv) (es : List Int) : List AC := [.int .i64 n, .rd 4 Mv mZ rEnc ms, .rd 1 Int 0 (fun n => [.int .i64 n]) es]
abbrev rmach (n : Int) (ms : List Mv) (es : List Int) : AV := .agg (rcells n ms es)
abbrev rowsB (xss : List (List Bool)) : AObj := .ext (.rows 116 4 1 Bool false (fun b => [.bool b]) xss)
def wayF (ms : List Mv) (text : List Int) (s : Nat) : Nat := runF ms (2 ^ s) text
theorem zeros_len {β : Type} (n : Nat) (z : β) : (zeros n z).length = n := by simp [zeros]
theorem pmat_step {n i : Nat} {f : Nat → Nat} (hi : i < n) (hf : f i = 2 ^ i) :
    ((pmat n i f).set i (zeros n false)).set i ((((pmat n i f).set i (zeros n false)).getD i []).set i true) = pmat n (i + 1) f := by
  rw [set_get (by rw [pmat_len]; exact hi), zeros_bits, bitsL_set, List.set_set, ← pmat_set hi, hf]
  simp
theorem pset_step {n i : Nat} {f : Nat → Nat} {m t : Nat} (hi : i < n) :
    ((pmat n i f).set i (bitsL n m)).set i ((((pmat n i f).set i (bitsL n m)).getD i []).set t true) = (pmat n i f).set i (bitsL n (m ||| 2 ^ t)) := by
  rw [set_get (by rw [pmat_len]; exact hi), bitsL_set, List.set_set]
theorem pset_get {n i : Nat} {f : Nat → Nat} {m : Nat} (hi : i < n) : ((pmat n i f).set i (bitsL n m)).getD i [] = bitsL n m := set_get (by rw [pmat_len]; exact hi)
set_option maxHeartbeats 8000000 in
theorem ways_spec (n : Int) (ms : List Mv) (es : List Int) (text : List Int) (hn : 1 ≤ n ∧ n ≤ 32) (ho : ∀ p ∈ ms, 0 ≤ p.1 ∧ p.1 < n ∧ 0 ≤ p.2.1 ∧ p.2.1 < n) (hl : ms.length ≤ 200) (ht : text.length < 9223372036854775807) (h8 : ∀ x ∈ text, 0 ≤ x ∧ x < 256) :
    ACall Try.prog 71 [rmach n ms es, .c (.rd 1 Int 0 encU8 text)] [] (fun r os => r = .c (.xr 0 .whole) ∧ os = [rowsB (mat n.toNat (wayF ms text))]) := by
  have hmo : MOK ms := fun p hp => by have := ho p hp; omega
  (refine ACall.of_body (nt := 95) (rs := [.tmp 4]) tabOK Try.func71 rfl rfl rfl rfl ?_; simp only [startSt, List.length_cons, List.length_nil, Nat.reduceAdd, Nat.reduceSub, List.replicate_succ, List.replicate_zero, List.cons_append, List.nil_append])
  simp only [VCp, nilZero, VC_region, VC_seq, VC_block, VC_loop, aops_nil, aops_cons, put_some, aop, qop, isQuiet, ASt.eval, AV.need, AV.ac, AV.cells, AV.isTup, qlen, qfieldAddr, qload, ned, AC.fits, amake, newObj, ASt.obj, ofCells, TI.isAgg, avOf, acOf, eInt, eBool, eList, ePair, List.getD_cons_succ, List.getD_cons_zero, List.set_cons_succ, List.set_cons_zero, List.cons_append, List.nil_append, List.length_cons, List.length_nil, List.drop_zero, List.take_succ_cons, List.take_zero, List.headD_cons, List.all_cons, List.all_nil, List.getElem?_cons_zero, Int.cast_ofNat_Int, true_and, and_self, not_false_eq_true, Bool.and_true, cond_true, beq_self_eq_true, Nat.add_zero, Nat.zero_add, Nat.reduceAdd, Nat.reduceLeDiff, eq_self, Nat.succ_ne_self, tab_3, tab_4, tab_32, tab_113, tab_116]
  refine ⟨by omega, by omega, by omega, by omega, ?_⟩
  refine LoopAt.inv (ι := Nat) (T := tab) (fun i => [(18, .c (.int .i64 i)), (5, .c (.xr 1 .whole))]) (fun i => [.cells 32 (rcells n ms es), rowsB (pmat n.toNat i (fun s => 2 ^ s))])
    (fun i => i ≤ n.toNat) (fun i => n.toNat - i) tabOK 0 (Nat.zero_le _) ?_ ?_
  · (simp only [LessC, headSt, dsts, opDsts, resetS, putsS, lessS, lessO, belowS, belowO, AV.below, AObj.below, AC.below, XObj.below, List.set_cons_succ, List.set_cons_zero, List.cons_append, List.nil_append, List.append_nil, List.length_cons, List.length_nil, List.all_cons, List.all_nil, Nat.reduceLT, Int.cast_ofNat_Int, AV.c.injEq, true_and, and_true, and_self, reduceCtorEq, Bool.and_true, Nat.zero_add, Nat.reduceAdd, Nat.reduceLeDiff, eq_self, decide_true, or_true] <;> try omega)
    rw [pmat_zero n.toNat fun s => 2 ^ s]
  intro i hi
  simp only [VCp, headSt, dsts, opDsts, resetS, putsS, xstore, xabsorb, ownSl, AC.absorb, XObj.amap, amakePlain, VC_skip, VC_region, VC_seq, VC_cond, VC_block, VC_loop, VC_exit, aops_nil, aops_cons, put_some, put_none, aop, qop, isQuiet, ASt.eval, ASt.ev, AV.strip, AV.need, AV.ac, AV.cells, AV.isTup, qbin, binInt, qlen, qindexAddr, qfieldAddr, qload, splice, ned, amake, newObj, ASt.setObj, ASt.obj, ASt.map, frzRefs, AV.map, AObj.map, dvs, AC.dv, leD, leD1, ofCells, TI.isAgg, isScalar, avOf, acOf, eInt, eBool, eList, ePair, List.getD_cons_succ, List.getD_cons_zero, List.set_cons_succ, List.set_cons_zero, List.map_cons, List.map_nil, List.cons_append, List.nil_append, List.append_nil, List.length_cons, List.length_nil, List.drop_succ_cons, List.drop_zero, List.drop_nil, List.take_succ_cons, List.take_zero, List.headD_cons, List.getElem?_cons_zero, Int.cast_ofNat_Int, ↓ex_rfl, cast_eq, heq_eq_eq, DV.bool.injEq, exists_eq_left', Int.toNat_natCast, List.length_set, decide_eq_true_eq, decide_eq_false_iff_not, Int.not_lt, true_and, and_true, and_self, not_false_eq_true, cond_true, cond_false, beq_self_eq_true, if_true, Nat.add_zero, Nat.zero_add, Nat.reduceAdd, Nat.reduceBEq, Nat.reduceLeDiff, Nat.le_refl, eq_self, Nat.succ_ne_self, tab_3, tab_4, tab_29, tab_32, tab_113, tab_116, zeros_len, pmat_len, List.length_set]
  refine ⟨fun h => ?_, fun h => ?_⟩
  · have hi' : i < n.toNat := by omega
    have e1 := pmat_step (f := fun s => 2 ^ s) hi' rfl
    have e2 : ((pmat n.toNat i fun s => 2 ^ s).set i (zeros n.toNat false)).getD i [] = zeros n.toNat false := set_get (by rw [pmat_len]; exact hi')
    rw [e1, e2, zeros_len]
    refine ⟨by omega, by omega, by omega, by omega, by omega, by omega, by omega, by omega, ⟨by omega, by omega, by omega⟩, by omega, by omega, i + 1, by omega, by omega, ?_⟩
    (simp only [LessC, lessS, lessO, belowS, belowO, AV.below, AObj.below, AC.below, XObj.below, List.length_cons, List.length_nil, List.all_cons, List.all_nil, Nat.reduceLT, Int.cast_ofNat_Int, Int.natCast_add, AV.c.injEq, AC.int.injEq, true_and, and_true, and_self, reduceCtorEq, Bool.and_true, Nat.zero_add, Nat.reduceAdd, Nat.reduceLeDiff, eq_self, decide_true, or_true, or_false, false_or] <;> try omega)
    exact i64_in _ (by omega)
  have : i = n.toNat := by omega
  subst this
  rw [pmat_full (Nat.le_refl _)]
  refine LoopAt.invR (ι := Nat) (T := tab) (fun k => [(36, .c (.int .i64 k)), (5, .c (.xr 1 .whole)), (15, .c .junk), (16, .c .junk)]) (fun k => [.cells 32 (rcells n ms es), rowsB (mat n.toNat (wayF ms (text.take k)))])
    (fun k => k ≤ text.length) (fun k => text.length - k) tabOK [0, 1] [0, 2] 0 (Nat.zero_le _) ?_ ?_ ?_
  · (simp only [RenOK, List.length_cons, List.length_nil, List.take_zero, List.range_zero, true_and, Nat.zero_add, Nat.reduceAdd, Nat.reduceLeDiff, eq_self] <;> first | omega | decide | skip)
  · (simp only [LessC, headSt, dsts, opDsts, resetS, putsS, lessS, lessO, belowS, belowO, AV.below, AObj.below, AC.below, ASt.renum, keepObjs, XObj.amap, XObj.below, AV.map, AObj.map, findIx, AC.ren, List.getD_cons_succ, List.getD_cons_zero, List.set_cons_succ, List.set_cons_zero, List.map_cons, List.map_nil, List.cons_append, List.nil_append, List.append_nil, List.length_cons, List.length_nil, List.take_zero, List.all_cons, List.all_nil, Nat.reduceLT, Int.cast_ofNat_Int, AV.c.injEq, true_and, and_true, and_self, reduceCtorEq, Bool.and_true, cond_true, cond_false, beq_self_eq_true, Nat.zero_add, Nat.reduceAdd, Nat.reduceBEq, Nat.reduceLeDiff, eq_self, decide_true, or_true, or_false] <;> first | omega | decide | skip)
    rfl
  intro k hk
  simp only [VCp, headSt, dsts, opDsts, resetS, putsS, ASt.renum, keepObjs, XObj.amap, nilZero, VC_skip, VC_region, VC_seq, VC_cond, VC_block, VC_loop, VC_exit, VC_ret, aops_nil, aops_cons, put_some, aop, qop, isQuiet, ASt.eval, AV.need, AV.ac, AV.isTup, qbin, binInt, qlen, qindexAddr, qfieldAddr, qload, ned, amake, newObj, ASt.obj, AV.map, AObj.map, DV.ac, ofCells, TI.isAgg, isScalar, avOf, acOf, findIx, AC.ren, eInt, eBool, eList, ePair, encU8, List.getD_cons_succ, List.getD_cons_zero, List.set_cons_succ, List.set_cons_zero, List.map_cons, List.map_nil, List.cons_append, List.nil_append, List.append_nil, List.length_cons, List.length_nil, List.drop_zero, List.take_succ_cons, List.take_zero, List.take_nil, List.headD_cons, List.getElem?_cons_zero, Int.cast_ofNat_Int, Int.toNat_natCast, decide_eq_true_eq, decide_eq_false_iff_not, Int.not_lt, true_and, and_self, not_false_eq_true, cond_true, cond_false, beq_self_eq_true, if_true, Nat.add_zero, Nat.zero_add, Nat.reduceAdd, Nat.reduceBEq, Nat.reduceLeDiff, Nat.le_refl, eq_self, Nat.succ_ne_self, tab_3, tab_4, tab_5, tab_29, tab_32, tab_113, tab_116, zeros_len]
  refine ⟨fun h => ?_, fun h => ?_⟩
  · have hk' : k < text.length := by omega
    refine ⟨by omega, by omega, by omega, by omega, by omega, ?_⟩
    have hF : ∀ s, wayF ms (text.take (k + 1)) s = stepF ms (wayF ms (text.take k) s) (text.getD k 0) := fun s => runF_take ms (2 ^ s) text k hk'
    refine LoopAt.inv (ι := Nat) (T := tab) (fun i => [(45, .c (.int .i64 i))]) (fun i => [.cells 32 (rcells n ms es), rowsB (mat n.toNat (wayF ms (text.take k))), rowsB (pmat n.toNat i (wayF ms (text.take (k + 1))))])
      (fun i => i ≤ n.toNat) (fun i => n.toNat - i) tabOK 0 (Nat.zero_le _) ?_ ?_
    · (simp only [LessC, headSt, dsts, opDsts, resetS, putsS, lessS, lessO, belowS, belowO, AV.below, AObj.below, AC.below, XObj.below, List.set_cons_succ, List.set_cons_zero, List.cons_append, List.nil_append, List.append_nil, List.length_cons, List.length_nil, List.all_cons, List.all_nil, Nat.reduceLT, Int.cast_ofNat_Int, AV.c.injEq, true_and, and_true, and_self, reduceCtorEq, Bool.and_true, Nat.zero_add, Nat.reduceAdd, Nat.reduceLeDiff, eq_self, decide_true, or_true] <;> try omega)
      rw [pmat_zero n.toNat (wayF ms (text.take (k + 1)))]
    intro i hi
    simp only [VCp, headSt, dsts, opDsts, resetS, putsS, xabsorb, ownSl, AC.absorb, XObj.amap, amakePlain, VC_skip, VC_region, VC_seq, VC_cond, VC_block, VC_loop, VC_exit, VC_ret, aops_nil, aops_cons, put_some, put_none, aop, qop, isQuiet, ASt.eval, AV.need, AV.ac, AV.isTup, qbin, binInt, qlen, qindexAddr, qfieldAddr, qload, ned, amake, newObj, ASt.setObj, ASt.obj, ASt.map, AV.map, AObj.map, ofCells, TI.isAgg, isScalar, avOf, acOf, AC.ren, eInt, eBool, eList, ePair, List.getD_cons_succ, List.getD_cons_zero, List.set_cons_succ, List.set_cons_zero, List.map_cons, List.map_nil, List.cons_append, List.nil_append, List.append_nil, List.length_cons, List.length_nil, List.drop_succ_cons, List.drop_zero, List.take_succ_cons, List.take_zero, List.headD_cons, List.getElem?_cons_succ, List.getElem?_cons_zero, Int.cast_ofNat_Int, ↓ex_rfl, cast_eq, heq_eq_eq, Int.toNat_natCast, decide_eq_true_eq, decide_eq_false_iff_not, Int.not_lt, true_and, and_self, not_false_eq_true, cond_true, cond_false, beq_self_eq_true, if_true, if_false, Nat.add_zero, Nat.zero_add, Nat.reduceAdd, Nat.reduceBEq, Nat.reduceEqDiff, Nat.reduceLeDiff, eq_self, Nat.succ_ne_self, tab_3, tab_4, tab_30, tab_32, tab_113, tab_116, pmat_len]
    refine ⟨fun h => ?_, fun h => ?_⟩
    · have hi' : i < n.toNat := by omega
      refine ⟨by omega, by omega, by omega, by omega, by omega, by omega, ?_⟩
      refine LoopAt.inv (ι := Nat) (T := tab) (fun j => [(57, .c (.int .i64 j))]) (fun j => [.cells 32 (rcells n ms es), rowsB (mat n.toNat (wayF ms (text.take k))),
          rowsB ((pmat n.toNat i (wayF ms (text.take (k + 1)))).set i (bitsL n.toNat (stepF (ms.take j) (wayF ms (text.take k) i) (text.getD k 0))))])
        (fun j => j ≤ ms.length) (fun j => ms.length - j) tabOK 0 (Nat.zero_le _) ?_ ?_
      · (simp only [LessC, headSt, dsts, opDsts, resetS, putsS, lessS, lessO, belowS, belowO, AV.below, AObj.below, AC.below, XObj.below, List.set_cons_succ, List.set_cons_zero, List.cons_append, List.nil_append, List.append_nil, List.length_cons, List.length_nil, List.take_zero, List.all_cons, List.all_nil, Nat.reduceLT, Int.cast_ofNat_Int, AV.c.injEq, true_and, and_true, and_self, reduceCtorEq, Bool.and_true, Nat.zero_add, Nat.reduceAdd, Nat.reduceLeDiff, eq_self, decide_true, or_true] <;> try omega)
        rw [zeros_bits]
        rfl
      intro j hj
      simp only [VCp, headSt, dsts, opDsts, resetS, putsS, VC_skip, VC_region, VC_draw, VC_seq, VC_cond, VC_block, VC_exit, VC_ret, aops_nil, aops_cons, put_some, put_none, aop, qop, isQuiet, ASt.eval, ASt.ev, AV.strip, AV.need, AV.ac, AV.cells, AV.isTup, qbin, binInt, qindexAddr, qload, splice, ned, AC.fits, astore, newObj, ASt.setObj, ASt.obj, AV.map, DV.ac, ofCells, TI.isAgg, isScalar, avOf, acOf, AC.ren, eInt, eList, ePair, List.getD_cons_succ, List.getD_cons_zero, List.set_cons_succ, List.set_cons_zero, List.map_cons, List.map_nil, List.cons_append, List.nil_append, List.append_nil, List.length_cons, List.length_nil, List.drop_succ_cons, List.drop_nil, List.take_succ_cons, List.take_zero, List.take_nil, List.all_cons, List.all_nil, Int.toNat_natCast, decide_eq_true_eq, decide_eq_false_iff_not, Int.not_lt, true_and, and_self, reduceCtorEq, not_false_eq_true, Bool.and_true, cond_true, cond_false, beq_self_eq_true, if_true, if_false, Nat.zero_add, Nat.reduceAdd, Nat.reduceBEq, Nat.reduceEqDiff, Nat.le_refl, eq_self, Nat.succ_ne_self, tab_3, tab_30, tab_106, rEnc]
      refine ⟨fun h => ?_, fun h => ?_⟩
      · have hj' : j < ms.length := by omega
        have hmem : ms.getD j mZ ∈ ms := by simp [List.getD, hj']
        have hp := ho _ hmem
        refine ⟨by omega, ?_⟩
        have hmat : (mat n.toNat (wayF ms (text.take k))).getD i [] = bitsL n.toNat (wayF ms (text.take k) i) := mat_get hi'
        have hgb : (bitsL n.toNat (wayF ms (text.take k) i)).getD (ms.getD j mZ).1.toNat false = (wayF ms (text.take k) i).testBit (frm (ms.getD j mZ)) := bitsL_get (by omega)
        have hc8 : 0 ≤ text.getD k 0 ∧ text.getD k 0 < 256 := h8 _ (by simp [List.getD, hk'])
        have hw : IntKind.i64.wrap (text.getD k 0) = text.getD k 0 := i64_in _ (by omega)
        have hs : stepF (ms.take (j + 1)) (wayF ms (text.take k) i) (text.getD k 0) = if ((wayF ms (text.take k) i).testBit (frm (ms.getD j mZ)) && lbl (ms.getD j mZ) (text.getD k 0)) = true then stepF (ms.take j) (wayF ms (text.take k) i) (text.getD k 0) ||| 2 ^ tgt (ms.getD j mZ) else stepF (ms.take j) (wayF ms (text.take k) i) (text.getD k 0) := by
          unfold stepF
          rw [take_next ms j mZ hj', orF_snoc]
        refine DrawAt.quiet tabOK mixed (by decide +kernel) ?_
        simp only [qaops_nil, qaops_cons, VC_skip, VC_region, VC_draw, VC_cond, aops_nil, aops_cons, put_some, qop, isQuiet, ASt.eval, AV.need, AV.ac, onG, guardOf, qbin, binInt, qpick, qpick0, qindexAddr, qload, qconvert, ASt.obj, DV.ac, ofCells, TI.isAgg, isScalar, avOf, acOf, eInt, eBool, eList, ePair, List.getD_cons_succ, List.getD_cons_zero, List.set_cons_succ, List.set_cons_zero, List.map_cons, List.map_nil, List.cons_append, List.nil_append, List.length_cons, List.length_nil, List.drop_succ_cons, List.drop_zero, List.take_succ_cons, List.take_zero, List.take_nil, List.headD_cons, List.getElem?_cons_succ, List.getElem?_cons_zero, Option.bind_some, Int.reduceLT, Int.reduceLE, Int.cast_ofNat_Int, Int.toNat_natCast, Int.reduceToNat, implies_true, imp_self, beq_true, decide_eq_true_eq, decide_eq_false_iff_not, Bool.cond_false_right, Bool.and_eq_true, Bool.and_eq_false_iff, Int.not_le, true_and, and_true, and_self, not_false_eq_true, Bool.and_true, Bool.true_and, Nat.add_zero, Nat.zero_add, Nat.reduceAdd, Nat.reduceMul, Nat.reduceLeDiff, Nat.le_refl, eq_self, Nat.succ_ne_self, tab_3, tab_4, tab_5, tab_106, tab_113, tab_116, hmat, hgb, hw, bitsL_len, mat_len]
        refine ⟨⟨by omega, by omega⟩, by omega, ⟨by omega, by omega, by omega⟩, ⟨by omega, by omega⟩, fun hc => ?_, fun hc => ?_⟩
        · refine DrawAt.plan tabOK mixed (.take 0 true (.take 1 true (.take 2 true (.take 3 true (.take 4 true (.take 5 true (.take 6 true (.alt 7 .done .stop)))))))) (by decide +kernel) ?_
          simp only [xstore, avc_done, avc_stop, avc_take, avc_alt, qstep, lstep, ownLoad, VC_region, aops_nil, aops_cons, put_some, put_none, aop, qop, isQuiet, ASt.eval, ASt.ev, AV.strip, AV.need, AV.ac, AV.cells, AV.isTup, qbin, binInt, qindexAddr, qload, splice, ned, ASt.setObj, ASt.obj, frzRefs, dvs, AC.dv, leD, leD1, ofCells, TI.isAgg, isScalar, avOf, acOf, eInt, eBool, eList, ePair, List.getD_cons_succ, List.getD_cons_zero, List.set_cons_succ, List.set_cons_zero, List.cons_append, List.nil_append, List.append_nil, List.length_cons, List.length_nil, List.drop_succ_cons, List.drop_zero, List.drop_nil, List.take_succ_cons, List.take_zero, List.headD_cons, List.getElem?_cons_succ, List.getElem?_cons_zero, Int.reduceLT, Int.reduceLE, Int.cast_ofNat_Int, DV.bool.injEq, exists_eq_left', Int.toNat_natCast, Int.reduceToNat, List.length_set, true_and, and_true, and_self, not_false_eq_true, Bool.true_eq_false, Nat.zero_add, Nat.reduceAdd, Nat.reduceMul, Nat.reduceLeDiff, Nat.le_refl, eq_self, Nat.succ_ne_self, or_true, or_false, tab_3, tab_4, tab_106, tab_113, tab_116]
          have hps := pset_step (n := n.toNat) (i := i) (f := wayF ms (text.take (k + 1))) (m := stepF (ms.take j) (wayF ms (text.take k) i) (text.getD k 0)) (t := (ms.getD j mZ).2.1.toNat) hi'
          rw [hps, pset_get hi', bitsL_len, pmat_len]
          refine ⟨by omega, by omega, ⟨by omega, by omega, by omega⟩, by omega, by omega, j + 1, by omega, by omega, ?_⟩
          (simp only [LessC, lessS, lessO, belowS, belowO, AV.below, AObj.below, AC.below, XObj.below, List.length_cons, List.length_nil, List.all_cons, List.all_nil, Nat.reduceLT, Int.cast_ofNat_Int, Int.natCast_add, AV.c.injEq, AC.int.injEq, true_and, and_true, and_self, reduceCtorEq, Bool.and_true, Nat.zero_add, Nat.reduceAdd, Nat.reduceLeDiff, eq_self, decide_true, or_true, or_false, false_or] <;> try omega)
          rw [hs, if_pos (by simp only [lbl, Bool.and_eq_true, decide_eq_true_eq]; exact ⟨hc.1.1, hc.1.2, hc.2⟩)]
          exact ⟨i64_in _ (by omega), rfl⟩
        · refine ⟨j + 1, by omega, by omega, ?_⟩
          (simp only [LessC, lessS, lessO, belowS, belowO, AV.below, AObj.below, AC.below, XObj.below, List.length_cons, List.length_nil, List.all_cons, List.all_nil, Nat.reduceLT, Int.cast_ofNat_Int, Int.natCast_add, AV.c.injEq, AC.int.injEq, true_and, and_true, and_self, reduceCtorEq, Bool.and_true, Nat.zero_add, Nat.reduceAdd, Nat.reduceLeDiff, eq_self, decide_true, or_true, or_false, false_or] <;> try omega)
          rw [hs, if_neg ?_]
          · exact ⟨i64_in _ (by omega), rfl⟩
          · simp only [lbl, Bool.and_eq_true, decide_eq_true_eq]
            intro hd
            rcases hc with (hc | hc) | hc
            · rw [hd.1] at hc; cases hc
            · omega
            · omega
      · have : j = ms.length := by omega
        subst this
        rw [List.take_length]
        refine ⟨i + 1, by omega, by omega, ?_⟩
        (simp only [LessC, lessS, lessO, belowS, belowO, AV.below, AObj.below, AC.below, XObj.below, List.length_cons, List.length_nil, List.all_cons, List.all_nil, Nat.reduceLT, Int.cast_ofNat_Int, Int.natCast_add, AV.c.injEq, AC.int.injEq, true_and, and_true, and_self, reduceCtorEq, Bool.and_true, Nat.zero_add, Nat.reduceAdd, Nat.reduceLeDiff, eq_self, decide_true, or_true, or_false, false_or] <;> try omega)
        rw [← hF i, pmat_set hi']
        exact ⟨i64_in _ (by omega), rfl⟩
    · have : i = n.toNat := by omega
      subst this
      rw [pmat_full (Nat.le_refl _)]
      refine ⟨k + 1, by omega, by omega, ?_, ?_⟩
      · (simp only [RenOK, List.length_cons, List.length_nil, List.take_zero, List.range_zero, true_and, Nat.zero_add, Nat.reduceAdd, Nat.reduceLeDiff, eq_self] <;> first | omega | decide | skip)
      · (simp only [LessC, lessS, lessO, belowS, belowO, AV.below, AObj.below, AC.below, XObj.below, List.length_cons, List.length_nil, List.all_cons, List.all_nil, Nat.reduceLT, Int.cast_ofNat_Int, Int.natCast_add, AV.c.injEq, AC.int.injEq, true_and, and_true, and_self, reduceCtorEq, Bool.and_true, Nat.zero_add, Nat.reduceAdd, Nat.reduceLeDiff, eq_self, decide_true, or_true, or_false, false_or] <;> first | omega | decide | skip)
        exact i64_in _ (by omega)
  · have : k = text.length := by omega
    subst this
    rw [List.take_length]
    refine RetAt.keeping [1] (by decide) ?_ ?_ <;> simp only [resOf, tupOf, keepObjs, keepObjs, XObj.amap, ASt.eval, AV.strip, AV.need, AV.map, AObj.map, findIx, AC.ren, List.getD_cons_succ, List.getD_cons_zero, List.map_cons, List.map_nil, and_self, cond_true, beq_self_eq_true, eq_self]
end Go.Vc
