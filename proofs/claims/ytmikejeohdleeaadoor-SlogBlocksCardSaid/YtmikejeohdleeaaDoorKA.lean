/- Numbers in blocks of bytes, checksums. -/
import Derived.Test.YtmikejeohdleeaaDoorVT
import Derived.IntWalk
set_option linter.unusedVariables false
set_option linter.unusedSimpArgs false
namespace Go.Vc.Sb
open Go.Proofs Go.IntWalk
set_option maxRecDepth 100000
abbrev rB (xs : List Int) : AC := .rd 1 Int 0 (fun n => [.int .u8 n]) xs
abbrev rowB (xs : List Int) : AObj := .row 5 1 Int 0 (fun n => [.int .u8 n]) xs
/-- the number of n bytes -/
def numF (xs : List Int) (off : Nat) : Nat → Int
  | 0 => 0
  | i + 1 => bits .or .i64 (numF xs off i) (shl .i64 (IntKind.i64.wrap (xs.getD (off + i) 0)) (8 * (i : Int)))
/-- a number's bytes are laid -/
def putF (xs : List Int) (off : Nat) (v : Int) : Nat → List Int
  | 0 => xs
  | i + 1 => (putF xs off v i).set (off + i) (IntKind.u8.wrap (shr .i64 v (8 * (i : Int))))
theorem putF_len {xs : List Int} {off : Nat} {v : Int} : ∀ n, (putF xs off v n).length = xs.length
  | 0 => rfl
  | n + 1 => by show ((putF xs off v n).set _ _).length = _; rw [List.length_set, putF_len n]
def crcS (c : Int) : Int := bits .xor .u32 (shr .u32 c 1) (IntKind.u32.wrap (bits .and .u32 c 1 * 3988292384))
def crcI (c : Int) : Nat → Int
  | 0 => c
  | i + 1 => crcS (crcI c i)
def crcX (c x : Int) : Int := crcI (bits .xor .u32 c (IntKind.u32.wrap x)) 8
def crcN (xs : List Int) : Int := xs.foldl crcX 4294967295
def crcF (xs : List Int) : Int := IntKind.i64.wrap (bits .xor .u32 4294967295 (crcN xs))
theorem crc_next {xs : List Int} {i : Nat} (h : i < xs.length) : crcN (xs.take (i + 1)) = crcI (bits .xor .u32 (crcN (xs.take i)) (IntKind.u32.wrap (xs.getD i 0))) 8 := by
  have e : xs.take (i + 1) = xs.take i ++ [xs.getD i 0] := by rw [List.take_add_one]; simp [List.getD, h]
  unfold crcN
  rw [e, List.foldl_append]
  rfl
set_option maxHeartbeats 8000000 in
theorem number_spec (xs : List Int) (off n : Nat) (h1 : off + n ≤ xs.length) (h2 : xs.length ≤ 1048576) (h3 : n ≤ 8) : ACall Tryd.prog 18 [.c (rB xs), .c (.int .i64 off), .c (.int .i64 n)] [] (fun r os => r = .c (.int .i64 (numF xs off n)) ∧ os = []) := by
  (refine ACall.of_body (nt := 27) (rs := [.tmp 6]) tabOK Tryd.func18 rfl rfl rfl rfl ?_; simp only [startSt, List.length_cons, List.length_nil, Nat.reduceAdd, Nat.reduceSub, List.replicate_succ, List.replicate_zero, List.cons_append, List.nil_append])
  simp only [VCp, VC_region, VC_seq, VC_block, VC_loop, aops_nil, aops_cons, put_some, qop, isQuiet, ASt.eval, AV.need, avOf, acOf, List.getD_cons_succ, List.getD_cons_zero, List.set_cons_succ, List.set_cons_zero, true_and]
  refine LoopAt.inv (ι := Nat) (T := tab) (fun i => [(10, .c (.int .i64 i)), (7, .c (.int .i64 (numF xs off i)))]) (fun i => []) (fun i => i ≤ n) (fun i => n - i) tabOK 0 (Nat.zero_le _) ?_ ?_
  · (simp only [LessC, headSt, dsts, opDsts, resetS, putsS, lessS, lessO, belowS, belowO, AV.below, AC.below, List.set_cons_succ, List.set_cons_zero, List.cons_append, List.nil_append, List.append_nil, List.length_nil, Int.cast_ofNat_Int, AV.c.injEq, AC.int.injEq, true_and, and_true, and_self, reduceCtorEq, Bool.and_true, Nat.le_refl, eq_self, or_true, false_or] <;> try omega)
    all_goals trivial
  intro i hi
  have w1 : IntKind.i64.wrap ((off : Int) + (i : Int)) = (off : Int) + (i : Int) := i64_in _ (by omega)
  have w3 : ((off : Int) + (i : Int)).toNat = off + i := by omega
  have w2 : IntKind.i64.wrap (8 * (i : Int)) = 8 * (i : Int) := i64_in _ (by omega)
  simp only [VCp, headSt, dsts, opDsts, resetS, putsS, VC_skip, VC_region, VC_seq, VC_cond, VC_block, VC_exit, VC_ret, aops_nil, aops_cons, put_some, qop, isQuiet, ASt.eval, AV.need, AV.ac, qbin, binInt, qindexAddr, qload, qconvert, DV.ac, ofCells, TI.isAgg, isScalar, avOf, acOf, eInt, eList, List.getD_cons_succ, List.getD_cons_zero, List.set_cons_succ, List.set_cons_zero, List.map_cons, List.map_nil, List.cons_append, List.nil_append, List.append_nil, List.length_cons, List.length_nil, List.take_succ_cons, List.take_nil, List.headD_cons, decide_eq_true_eq, decide_eq_false_iff_not, Int.not_lt, true_and, and_self, not_false_eq_true, Bool.and_true, if_true, Nat.zero_add, Nat.le_refl, eq_self, Nat.succ_ne_self, tab_3, tab_5, tab_22, w1, w2, w3]
  refine ⟨fun h => ?_, fun h => ?_⟩
  · refine ⟨⟨by omega, by omega⟩, by omega, i + 1, by omega, by omega, ?_⟩
    (simp only [LessC, lessS, lessO, belowS, belowO, AV.below, AC.below, List.length_nil, Int.cast_ofNat_Int, Int.natCast_add, AV.c.injEq, AC.int.injEq, true_and, and_true, and_self, reduceCtorEq, Bool.and_true, Nat.le_refl, eq_self, or_true, or_false, false_or] <;> try omega)
    all_goals first | exact ⟨rfl, i64_in _ (by omega)⟩ | exact ⟨i64_in _ (by omega), rfl⟩
  · have hin : i = n := by omega
    subst hin
    (refine RetAt.leaf ?_ ?_ <;> simp only [resOf, tupOf, ASt.eval, AV.strip, AV.need, AV.map, AC.ren, List.getD_cons_succ, List.getD_cons_zero, and_self, eq_self])
set_option maxHeartbeats 8000000 in
theorem numberF_spec (xs : List Int) (off n : Nat) (h1 : off + n ≤ xs.length) (h2 : xs.length ≤ 1048576) (h3 : n ≤ 8) : ACall Tryd.prog 22 [.c (rB xs), .c (.int .i64 off), .c (.int .i64 n)] [] (fun r os => r = .c (.int .i64 (numF xs off n)) ∧ os = []) := by
  (refine ACall.of_body (nt := 27) (rs := [.tmp 6]) tabOK Tryd.func22 rfl rfl rfl rfl ?_; simp only [startSt, List.length_cons, List.length_nil, Nat.reduceAdd, Nat.reduceSub, List.replicate_succ, List.replicate_zero, List.cons_append, List.nil_append])
  simp only [VCp, VC_region, VC_seq, VC_block, VC_loop, aops_nil, aops_cons, put_some, qop, isQuiet, ASt.eval, AV.need, avOf, acOf, List.getD_cons_succ, List.getD_cons_zero, List.set_cons_succ, List.set_cons_zero, true_and]
  refine LoopAt.inv (ι := Nat) (T := tab) (fun i => [(10, .c (.int .i64 i)), (7, .c (.int .i64 (numF xs off i)))]) (fun i => []) (fun i => i ≤ n) (fun i => n - i) tabOK 0 (Nat.zero_le _) ?_ ?_
  · (simp only [LessC, headSt, dsts, opDsts, resetS, putsS, lessS, lessO, belowS, belowO, AV.below, AC.below, List.set_cons_succ, List.set_cons_zero, List.cons_append, List.nil_append, List.append_nil, List.length_nil, Int.cast_ofNat_Int, AV.c.injEq, AC.int.injEq, true_and, and_true, and_self, reduceCtorEq, Bool.and_true, Nat.le_refl, eq_self, or_true, false_or] <;> try omega)
    all_goals trivial
  intro i hi
  have w1 : IntKind.i64.wrap ((off : Int) + (i : Int)) = (off : Int) + (i : Int) := i64_in _ (by omega)
  have w3 : ((off : Int) + (i : Int)).toNat = off + i := by omega
  have w2 : IntKind.i64.wrap (8 * (i : Int)) = 8 * (i : Int) := i64_in _ (by omega)
  simp only [VCp, headSt, dsts, opDsts, resetS, putsS, VC_skip, VC_region, VC_seq, VC_cond, VC_block, VC_exit, VC_ret, aops_nil, aops_cons, put_some, qop, isQuiet, ASt.eval, AV.need, AV.ac, qbin, binInt, qindexAddr, qload, qconvert, DV.ac, ofCells, TI.isAgg, isScalar, avOf, acOf, eInt, eList, List.getD_cons_succ, List.getD_cons_zero, List.set_cons_succ, List.set_cons_zero, List.map_cons, List.map_nil, List.cons_append, List.nil_append, List.append_nil, List.length_cons, List.length_nil, List.take_succ_cons, List.take_nil, List.headD_cons, decide_eq_true_eq, decide_eq_false_iff_not, Int.not_lt, true_and, and_self, not_false_eq_true, Bool.and_true, if_true, Nat.zero_add, Nat.le_refl, eq_self, Nat.succ_ne_self, tab_3, tab_5, tab_22, w1, w2, w3]
  refine ⟨fun h => ?_, fun h => ?_⟩
  · refine ⟨⟨by omega, by omega⟩, by omega, i + 1, by omega, by omega, ?_⟩
    (simp only [LessC, lessS, lessO, belowS, belowO, AV.below, AC.below, List.length_nil, Int.cast_ofNat_Int, Int.natCast_add, AV.c.injEq, AC.int.injEq, true_and, and_true, and_self, reduceCtorEq, Bool.and_true, Nat.le_refl, eq_self, or_true, or_false, false_or] <;> try omega)
    all_goals first | exact ⟨rfl, i64_in _ (by omega)⟩ | exact ⟨i64_in _ (by omega), rfl⟩
  · have hin : i = n := by omega
    subst hin
    (refine RetAt.leaf ?_ ?_ <;> simp only [resOf, tupOf, ASt.eval, AV.strip, AV.need, AV.map, AC.ren, List.getD_cons_succ, List.getD_cons_zero, and_self, eq_self])
set_option maxHeartbeats 8000000 in
theorem put_spec (xs : List Int) (off n : Nat) (v : Int) (h1 : off + n ≤ xs.length) (h2 : xs.length ≤ 1048576) (h3 : n ≤ 8) : ACall Tryd.prog 20 [.c (.sl 0), .c (.int .i64 off), .c (.int .i64 n), .c (.int .i64 v)] [rowB xs] (fun r os => r = .tup [] ∧ os = [rowB (putF xs off v n)]) := by
  (refine ACall.of_body (nt := 24) (rs := []) tabOK Tryd.func20 rfl rfl rfl rfl ?_; simp only [startSt, List.length_cons, List.length_nil, Nat.reduceAdd, Nat.reduceSub, List.replicate_succ, List.replicate_zero, List.cons_append, List.nil_append])
  simp only [VCp, VC_region, VC_seq, VC_block, VC_loop, aops_nil, aops_cons, put_some, qop, isQuiet, ASt.eval, AV.need, avOf, acOf, List.getD_cons_succ, List.getD_cons_zero, List.set_cons_succ, List.set_cons_zero, true_and]
  refine LoopAt.inv (ι := Nat) (T := tab) (fun i => [(10, .c (.int .i64 i))]) (fun i => [rowB (putF xs off v i)]) (fun i => i ≤ n) (fun i => n - i) tabOK 0 (Nat.zero_le _) ?_ ?_
  · (simp only [LessC, headSt, dsts, opDsts, resetS, putsS, lessS, lessO, belowS, belowO, AV.below, AObj.below, AC.below, List.set_cons_succ, List.set_cons_zero, List.cons_append, List.nil_append, List.append_nil, List.length_cons, List.length_nil, Nat.reduceLT, Int.cast_ofNat_Int, AV.c.injEq, AObj.row.injEq, heq_eq_eq, true_and, and_true, and_self, reduceCtorEq, Bool.and_true, Nat.zero_add, Nat.le_refl, eq_self, decide_true, or_true] <;> try omega)
    all_goals rfl
  intro i hi
  have hl := putF_len (xs := xs) (off := off) (v := v) i
  have w1 : IntKind.i64.wrap ((off : Int) + (i : Int)) = (off : Int) + (i : Int) := i64_in _ (by omega)
  have w3 : ((off : Int) + (i : Int)).toNat = off + i := by omega
  have w2 : IntKind.i64.wrap (8 * (i : Int)) = 8 * (i : Int) := i64_in _ (by omega)
  simp only [VCp, headSt, dsts, opDsts, resetS, putsS, VC_skip, VC_region, VC_seq, VC_cond, VC_block, VC_exit, aops_nil, aops_cons, put_some, put_none, aop, qop, isQuiet, ASt.eval, ASt.ev, AV.strip, AV.need, AV.ac, AV.cells, AV.isTup, qbin, binInt, qindexAddr, qconvert, splice, ned, astore, ASt.setObj, ASt.obj, frzRefs, dvs, AC.dv, leD, leD1, isScalar, avOf, acOf, eInt, eList, List.getD_cons_succ, List.getD_cons_zero, List.set_cons_succ, List.set_cons_zero, List.cons_append, List.nil_append, List.append_nil, List.length_cons, List.length_nil, List.drop_succ_cons, List.drop_nil, List.take_zero, DV.int.injEq, exists_eq_left', decide_eq_true_eq, decide_eq_false_iff_not, Int.not_lt, true_and, and_true, and_self, not_false_eq_true, Bool.and_true, if_true, Nat.zero_add, Nat.le_refl, eq_self, Nat.succ_ne_self, tab_3, tab_5, tab_22, w1, w2, w3, hl]
  refine ⟨fun h => ?_, fun h => ?_⟩
  · refine ⟨by omega, ⟨by omega, by omega⟩, by omega, i + 1, by omega, by omega, ?_⟩
    (simp only [LessC, lessS, lessO, belowS, belowO, AV.below, AObj.below, AC.below, List.length_cons, List.length_nil, Nat.reduceLT, Int.cast_ofNat_Int, Int.natCast_add, AV.c.injEq, AC.int.injEq, AObj.row.injEq, heq_eq_eq, true_and, and_true, and_self, reduceCtorEq, Bool.and_true, Nat.zero_add, Nat.le_refl, eq_self, decide_true, or_true, or_false, false_or] <;> try omega)
    all_goals first | exact ⟨rfl, i64_in _ (by omega)⟩ | exact ⟨i64_in _ (by omega), rfl⟩
  · have hin : i = n := by omega
    subst hin
    refine RetAt.of [0] rfl ?_ rfl (by decide) (by simp) ?_ <;> simp only [resOf, tupOf, keepObjs, keepObjs, XObj.amap, AV.map, AObj.map, findIx, AC.ren, List.getD_cons_zero, List.map_cons, List.map_nil, and_self, eq_self]
set_option maxHeartbeats 8000000 in
theorem putX_spec (xs : List Int) (off n : Nat) (v : Int) (h1 : off + n ≤ xs.length) (h2 : xs.length ≤ 1048576) (h3 : n ≤ 8) : ACall Tryd.prog 25 [.c (.sl 0), .c (.int .i64 off), .c (.int .i64 n), .c (.int .i64 v)] [rowB xs] (fun r os => r = .tup [] ∧ os = [rowB (putF xs off v n)]) := by
  (refine ACall.of_body (nt := 24) (rs := []) tabOK Tryd.func25 rfl rfl rfl rfl ?_; simp only [startSt, List.length_cons, List.length_nil, Nat.reduceAdd, Nat.reduceSub, List.replicate_succ, List.replicate_zero, List.cons_append, List.nil_append])
  simp only [VCp, VC_region, VC_seq, VC_block, VC_loop, aops_nil, aops_cons, put_some, qop, isQuiet, ASt.eval, AV.need, avOf, acOf, List.getD_cons_succ, List.getD_cons_zero, List.set_cons_succ, List.set_cons_zero, true_and]
  refine LoopAt.inv (ι := Nat) (T := tab) (fun i => [(10, .c (.int .i64 i))]) (fun i => [rowB (putF xs off v i)]) (fun i => i ≤ n) (fun i => n - i) tabOK 0 (Nat.zero_le _) ?_ ?_
  · (simp only [LessC, headSt, dsts, opDsts, resetS, putsS, lessS, lessO, belowS, belowO, AV.below, AObj.below, AC.below, List.set_cons_succ, List.set_cons_zero, List.cons_append, List.nil_append, List.append_nil, List.length_cons, List.length_nil, Nat.reduceLT, Int.cast_ofNat_Int, AV.c.injEq, AObj.row.injEq, heq_eq_eq, true_and, and_true, and_self, reduceCtorEq, Bool.and_true, Nat.zero_add, Nat.le_refl, eq_self, decide_true, or_true] <;> try omega)
    all_goals rfl
  intro i hi
  have hl := putF_len (xs := xs) (off := off) (v := v) i
  have w1 : IntKind.i64.wrap ((off : Int) + (i : Int)) = (off : Int) + (i : Int) := i64_in _ (by omega)
  have w3 : ((off : Int) + (i : Int)).toNat = off + i := by omega
  have w2 : IntKind.i64.wrap (8 * (i : Int)) = 8 * (i : Int) := i64_in _ (by omega)
  simp only [VCp, headSt, dsts, opDsts, resetS, putsS, VC_skip, VC_region, VC_seq, VC_cond, VC_block, VC_exit, aops_nil, aops_cons, put_some, put_none, aop, qop, isQuiet, ASt.eval, ASt.ev, AV.strip, AV.need, AV.ac, AV.cells, AV.isTup, qbin, binInt, qindexAddr, qconvert, splice, ned, astore, ASt.setObj, ASt.obj, frzRefs, dvs, AC.dv, leD, leD1, isScalar, avOf, acOf, eInt, eList, List.getD_cons_succ, List.getD_cons_zero, List.set_cons_succ, List.set_cons_zero, List.cons_append, List.nil_append, List.append_nil, List.length_cons, List.length_nil, List.drop_succ_cons, List.drop_nil, List.take_zero, DV.int.injEq, exists_eq_left', decide_eq_true_eq, decide_eq_false_iff_not, Int.not_lt, true_and, and_true, and_self, not_false_eq_true, Bool.and_true, if_true, Nat.zero_add, Nat.le_refl, eq_self, Nat.succ_ne_self, tab_3, tab_5, tab_22, w1, w2, w3, hl]
  refine ⟨fun h => ?_, fun h => ?_⟩
  · refine ⟨by omega, ⟨by omega, by omega⟩, by omega, i + 1, by omega, by omega, ?_⟩
    (simp only [LessC, lessS, lessO, belowS, belowO, AV.below, AObj.below, AC.below, List.length_cons, List.length_nil, Nat.reduceLT, Int.cast_ofNat_Int, Int.natCast_add, AV.c.injEq, AC.int.injEq, AObj.row.injEq, heq_eq_eq, true_and, and_true, and_self, reduceCtorEq, Bool.and_true, Nat.zero_add, Nat.le_refl, eq_self, decide_true, or_true, or_false, false_or] <;> try omega)
    all_goals first | exact ⟨rfl, i64_in _ (by omega)⟩ | exact ⟨i64_in _ (by omega), rfl⟩
  · have hin : i = n := by omega
    subst hin
    refine RetAt.of [0] rfl ?_ rfl (by decide) (by simp) ?_ <;> simp only [resOf, tupOf, keepObjs, keepObjs, XObj.amap, AV.map, AObj.map, findIx, AC.ren, List.getD_cons_zero, List.map_cons, List.map_nil, and_self, eq_self]
set_option maxHeartbeats 8000000 in
theorem crc_spec (xs : List Int) (h2 : xs.length ≤ 1048576) : ACall Tryd.prog 23 [.c (rB xs)] [] (fun r os => r = .c (.int .i64 (crcF xs)) ∧ os = []) := by
  (refine ACall.of_body (nt := 29) (rs := [.tmp 2]) tabOK Tryd.func23 rfl rfl rfl rfl ?_; simp only [startSt, List.length_cons, List.length_nil, Nat.reduceAdd, Nat.reduceSub, List.replicate_succ, List.replicate_zero, List.cons_append, List.nil_append])
  simp only [VCp, VC_region, VC_seq, VC_block, VC_loop, aops_nil, aops_cons, put_some, qop, isQuiet, ASt.eval, AV.need, AV.ac, qlen, avOf, acOf, eInt, eList, List.getD_cons_succ, List.getD_cons_zero, List.set_cons_succ, List.set_cons_zero, true_and, and_self, tab_22]
  refine LoopAt.inv (ι := Nat) (T := tab) (fun i => [(8, .c (.int .i64 i)), (3, .c (.int .u32 (crcN (xs.take i))))]) (fun i => []) (fun i => i ≤ xs.length) (fun i => xs.length - i) tabOK 0 (Nat.zero_le _) ?_ ?_
  · (simp only [LessC, headSt, dsts, opDsts, resetS, putsS, lessS, lessO, belowS, belowO, AV.below, AC.below, List.set_cons_succ, List.set_cons_zero, List.cons_append, List.nil_append, List.append_nil, List.length_nil, List.take_zero, Int.cast_ofNat_Int, AV.c.injEq, AC.int.injEq, true_and, and_true, and_self, reduceCtorEq, Bool.and_true, Nat.le_refl, eq_self, or_true, false_or] <;> try omega)
    all_goals rfl
  intro i hi
  simp only [VCp, headSt, dsts, opDsts, resetS, putsS, VC_skip, VC_region, VC_seq, VC_cond, VC_block, VC_loop, VC_exit, VC_ret, aops_nil, aops_cons, put_some, qop, isQuiet, ASt.eval, AV.need, AV.ac, qbin, binInt, qun, qindexAddr, qload, qconvert, DV.ac, ofCells, TI.isAgg, isScalar, avOf, acOf, eInt, eList, List.getD_cons_succ, List.getD_cons_zero, List.set_cons_succ, List.set_cons_zero, List.map_cons, List.map_nil, List.cons_append, List.nil_append, List.append_nil, List.length_cons, List.length_nil, List.take_succ_cons, List.take_nil, List.headD_cons, Int.reduceNeg, Int.toNat_natCast, decide_eq_true_eq, decide_eq_false_iff_not, Int.not_lt, true_and, and_self, not_false_eq_true, Bool.and_true, if_true, Nat.zero_add, Nat.le_refl, eq_self, Nat.succ_ne_self, tab_3, tab_5, tab_22, tab_68]
  refine ⟨fun h => ?_, fun h => ?_⟩
  · refine ⟨⟨by omega, by omega⟩, ?_⟩
    have hnx := crc_next (xs := xs) (i := i) (by omega)
    generalize crcN (xs.take i) = c at *
    refine LoopAt.inv (ι := Nat) (T := tab) (fun k => [(16, .c (.int .i64 k)), (3, .c (.int .u32 (crcI (bits .xor .u32 c (IntKind.u32.wrap (xs.getD i 0))) k)))]) (fun k => []) (fun k => k ≤ 8) (fun k => 8 - k) tabOK 0 (Nat.zero_le _) ?_ ?_
    · (simp only [LessC, headSt, dsts, opDsts, resetS, putsS, lessS, lessO, belowS, belowO, AV.below, AC.below, List.set_cons_succ, List.set_cons_zero, List.cons_append, List.nil_append, List.append_nil, List.length_nil, Int.cast_ofNat_Int, AV.c.injEq, AC.int.injEq, true_and, and_true, and_self, reduceCtorEq, Bool.and_true, Nat.le_refl, eq_self, or_true, false_or] <;> try omega)
      all_goals rfl
    intro k hk
    simp only [VCp, headSt, dsts, opDsts, resetS, putsS, VC_skip, VC_region, VC_seq, VC_cond, VC_block, VC_exit, VC_ret, aops_nil, aops_cons, put_some, qop, isQuiet, ASt.eval, AV.need, AV.ac, qbin, binInt, qun, qconvert, isScalar, avOf, acOf, eInt, List.getD_cons_succ, List.getD_cons_zero, List.set_cons_succ, List.set_cons_zero, List.cons_append, List.nil_append, List.append_nil, Int.reduceLE, Int.reduceNeg, decide_eq_true_eq, decide_eq_false_iff_not, Int.not_lt, true_and, and_self, reduceCtorEq, Bool.and_true, if_true, if_false, eq_self, Nat.succ_ne_self, tab_3, tab_68]
    refine ⟨fun h => ?_, fun h => ?_⟩
    · refine ⟨k + 1, by omega, by omega, ?_⟩
      (simp only [LessC, lessS, lessO, belowS, belowO, AV.below, AC.below, List.length_nil, Int.cast_ofNat_Int, Int.natCast_add, AV.c.injEq, AC.int.injEq, true_and, and_true, and_self, reduceCtorEq, Bool.and_true, Nat.le_refl, eq_self, or_true, or_false, false_or] <;> try omega)
      all_goals first | exact ⟨rfl, i64_in _ (by omega)⟩ | exact ⟨i64_in _ (by omega), rfl⟩
    · have hk8 : k = 8 := by omega
      subst hk8
      refine ⟨i + 1, by omega, by omega, ?_⟩
      rw [hnx]
      (simp only [LessC, lessS, lessO, belowS, belowO, AV.below, AC.below, List.length_nil, Int.reduceLT, Int.cast_ofNat_Int, Int.natCast_add, AV.c.injEq, AC.int.injEq, true_and, and_true, and_self, reduceCtorEq, Bool.and_true, Nat.le_refl, eq_self, decide_false, or_true, or_false, false_or] <;> try omega)
      all_goals exact i64_in _ (by omega)
  · have hin : i = xs.length := by omega
    rw [hin, List.take_length]
    (refine RetAt.leaf ?_ ?_ <;> simp only [resOf, tupOf, ASt.eval, AV.strip, AV.need, AV.map, AC.ren, List.getD_cons_succ, List.getD_cons_zero, Int.reduceNeg, AV.c.injEq, AC.int.injEq, true_and, and_true, and_self, eq_self])
    have e : (if IntKind.u32.signed = true then (-1 : Int) else IntKind.u32.max) = 4294967295 := by decide
    rw [e]
    rfl
end Go.Vc.Sb
