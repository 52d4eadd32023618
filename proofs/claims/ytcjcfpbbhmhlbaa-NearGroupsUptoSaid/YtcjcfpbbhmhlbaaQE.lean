/- Most. -/
import Derived.Test.YtcjcfpbbhmhlbaaQD
set_option linter.unusedVariables false
set_option linter.unusedSimpArgs false
namespace Go.Vc.Ng
open Go.Proofs Go.IntWalk Go.Vc.Ne
set_option maxRecDepth 100000
noncomputable def cpr (text : List Int) (ds : List (List Int)) (i : Nat) : Int × Int := ((cmI text (ds.getD i []) : Nat), (allI text (ds.getD i []) : Nat))
theorem commonN_spec (a b : List Int) (hl : a.length ≤ 1048576) (hl2 : b.length ≤ 1048576) : ACall Try.prog 33 [.c (rB a), .c (rB b)] [] (fun r os =>
    r = .tup [(false, [.int .i64 (cmI a b : Nat)]), (false, [.int .i64 (allI a b : Nat)])] ∧ os = []) := commonQ_spec a b hl hl2
theorem commonR_spec (a b : List Int) (hl : a.length ≤ 1048576) (hl2 : b.length ≤ 1048576) : ACall Try.prog 19 [.c (rB a), .c (rB b)] [] (fun r os =>
    r = .tup [(false, [.int .i64 (cmI a b : Nat)]), (false, [.int .i64 (allI a b : Nat)])] ∧ os = []) := refCommon_spec a b hl hl2
theorem cpr_bounds {text : List Int} {ds : List (List Int)} (hl : text.length ≤ 1048576) (hg : ∀ i, (ds.getD i []).length ≤ 1048576) (i : Nat) : 0 ≤ (cpr text ds i).1 ∧ (cpr text ds i).1 ≤ 2097154 ∧ 0 ≤ (cpr text ds i).2 ∧ (cpr text ds i).2 ≤ 2097154 := by
  have h1 := cmI_le (a := text) (b := ds.getD i []) hl
  have h2 := allI_le (a := text) (b := ds.getD i []) hl (hg i)
  unfold cpr
  dsimp only
  omega
set_option maxHeartbeats 8000000 in
theorem most_spec (text : List Int) (ds : List (List Int)) (ht : text.length ≤ 1048576) (hl : ds.length ≤ 1048576) (hb : ∀ d ∈ ds, d.length ≤ 1048576) : ACall Try.prog 20 [.c (rB text), .c (rBB ds)] [] (fun r os => r = .c (.int .i64 (mst (cpr text ds) ds.length).1) ∧ os = []) := by
  have hg := getD_len hb
  (refine ACall.of_body (nt := 43) (rs := [.tmp 4]) tabOK Try.func20 rfl rfl rfl rfl ?_; simp only [startSt, List.length_cons, List.length_nil, Nat.reduceAdd, Nat.reduceSub, List.replicate_succ, List.replicate_zero, List.cons_append, List.nil_append])
  unfold rB encU8
  simp only [VCp, VC_region, VC_seq, VC_block, VC_loop, aops_nil, aops_cons, put_some, qop, isQuiet, ASt.eval, AV.need, AV.ac, qlen, avOf, acOf, eInt, eList, List.getD_cons_succ, List.getD_cons_zero, List.set_cons_succ, List.set_cons_zero, Int.reduceNeg, true_and, and_self, tab_23]
  refine LoopAt.inv (ι := Nat) (T := tab) (fun i => [(14, .c (.int .i64 i)), (5, .c (.int .i64 (mst (cpr text ds) i).1)), (6, .c (.int .i64 (mst (cpr text ds) i).2.1)), (7, .c (.int .i64 (mst (cpr text ds) i).2.2))]) (fun i => []) (fun i => i ≤ ds.length) (fun i => ds.length - i) tabOK 0 (Nat.zero_le _) ?_ ?_
  · (simp only [LessC, headSt, dsts, opDsts, resetS, putsS, lessS, lessO, belowS, belowO, AV.below, AC.below, List.set_cons_succ, List.set_cons_zero, List.cons_append, List.nil_append, List.append_nil, List.length_nil, Int.reduceNeg, Int.cast_ofNat_Int, AV.c.injEq, AC.int.injEq, true_and, and_true, and_self, reduceCtorEq, Bool.and_true, Nat.le_refl, eq_self, or_true, false_or] <;> try omega)
    trivial
  intro i hi
  have hsb := mst_bounds (c := cpr text ds) (B := 2097154) (by omega) (cpr_bounds ht hg) i
  have hnx : mst (cpr text ds) (i + 1) = mstep i (mst (cpr text ds) i) (cpr text ds i) := rfl
  have hcb := cpr_bounds ht hg i
  have hc1 : (cpr text ds i).1 = ((cmI text (ds.getD i []) : Nat) : Int) := rfl
  have hc2 : (cpr text ds i).2 = ((allI text (ds.getD i []) : Nat) : Int) := rfl
  generalize hcd : cpr text ds i = c at *
  generalize hsd : mst (cpr text ds) i = s at *
  obtain ⟨best, p, q⟩ := s
  obtain ⟨n, al⟩ := c
  simp only at hsb hcb hc1 hc2
  simp only [VCp, headSt, dsts, opDsts, resetS, putsS, VC_skip, VC_region, VC_seq, VC_cond, VC_block, VC_exit, VC_ret, aops_nil, aops_cons, put_some, aop, qop, isQuiet, ASt.eval, ASt.ev, AV.strip, AV.need, AV.ac, AV.isTup, qbin, binInt, qindexAddr, qload, ned, DV.ac, ofCells, TI.isAgg, isScalar, eInt, eList, List.getD_cons_succ, List.getD_cons_zero, List.set_cons_succ, List.set_cons_zero, List.map_cons, List.map_nil, List.cons_append, List.nil_append, List.append_nil, List.length_cons, List.length_nil, List.take_succ_cons, List.take_nil, List.headD_cons, Int.reduceNeg, Int.toNat_natCast, decide_eq_true_eq, decide_eq_false_iff_not, Int.not_lt, true_and, and_self, not_false_eq_true, if_true, Nat.zero_add, Nat.le_refl, eq_self, Nat.succ_ne_self, tab_3, tab_22, tab_23]
  refine ⟨fun h => ?_, fun h => ?_⟩
  · refine ⟨⟨by omega, by omega⟩, ?_⟩
    refine CallAt.plain (commonN_spec text (ds.getD i []) ht (hg i)) rfl ?_
    rintro r os ⟨rfl, rfl⟩
    rw [← hc1, ← hc2]
    have wn : IntKind.i64.wrap ((i : Int) + 1) = ((i + 1 : Nat) : Int) := by rw [i64_in _ (by omega)]; omega
    have key : ∀ (n al : Int), 0 ≤ n → n ≤ 2097154 → 0 ≤ al → al ≤ 2097154 → IntKind.i64.wrap (n * q) = n * q ∧ IntKind.i64.wrap (p * al) = p * al := fun n al a1 a2 a3 a4 => by
      have m1 := mul_b (a := n) (A := 2097154) (b := q) (B := 2097154) (by omega) (by omega) (by omega) (by omega)
      have m2 := mul_b (a := p) (A := 2097154) (b := al) (B := 2097154) (by omega) (by omega) (by omega) (by omega)
      exact ⟨i64_in _ (by omega), i64_in _ (by omega)⟩
    have k1 := key n al (by omega) (by omega) (by omega) (by omega)
    have k2 := key 1 1 (by omega) (by omega) (by omega) (by omega)
    by_cases ha : al = 0
    · have za : (al = 0) = True := eq_true ha
      have hst : mstep i (best, p, q) (n, al) = if best < 0 ∨ p * 1 < 1 * q then ((i : Int), 1, 1) else (best, p, q) := by
        unfold mstep
        simp only [if_pos ha]
      rw [hst] at hnx
      simp only [VC_skip, VC_region, VC_seq, VC_cond, aops_nil, aops_cons, put_some, qop, isQuiet, ASt.eval, AV.need, AV.ac, onG, guardOf, qbin, binInt, qpick, qpick0, qextract, AV.map, isScalar, avOf, acOf, AC.ren, giveBack, afterCall, eInt, List.getD_cons_succ, List.getD_cons_zero, List.set_cons_succ, List.set_cons_zero, List.map_cons, List.map_nil, List.append_nil, List.length_cons, List.length_nil, List.headD_cons, List.getElem?_cons_succ, List.getElem?_cons_zero, Option.bind_some, implies_true, imp_self, beq_false, decide_eq_true_eq, decide_eq_false_iff_not, Bool.not_eq_true', Bool.cond_true_left, Bool.or_eq_true, Bool.or_eq_false_iff, Int.not_lt, true_and, and_true, and_self, forall_const, false_implies, Bool.true_and, Bool.true_eq_false, Nat.zero_add, eq_self, decide_true, tab_3, za, k2.1, k2.2]
      refine ⟨fun hc => ?_, fun hc => ?_⟩
      · rw [if_pos hc] at hnx
        refine ⟨i + 1, by omega, by omega, ?_⟩
        rw [hnx]
        (simp only [LessC, lessS, lessO, belowS, belowO, AV.below, AC.below, List.length_nil, Int.cast_ofNat_Int, Int.natCast_add, AV.c.injEq, AC.int.injEq, true_and, and_true, and_self, reduceCtorEq, Bool.and_true, Nat.le_refl, eq_self, or_true, or_false, false_or] <;> try omega)
        all_goals exact i64_in _ (by omega)
      · rw [if_neg (by omega)] at hnx
        refine ⟨i + 1, by omega, by omega, ?_⟩
        rw [hnx]
        (simp only [LessC, lessS, lessO, belowS, belowO, AV.below, AC.below, List.length_nil, Int.cast_ofNat_Int, Int.natCast_add, AV.c.injEq, AC.int.injEq, true_and, and_true, and_self, reduceCtorEq, Bool.and_true, Nat.le_refl, eq_self, or_true, or_false, false_or] <;> try omega)
        all_goals exact i64_in _ (by omega)
    · have za : (al = 0) = False := eq_false ha
      have hst : mstep i (best, p, q) (n, al) = if best < 0 ∨ p * al < n * q then ((i : Int), n, al) else (best, p, q) := by
        unfold mstep
        simp only [if_neg ha]
      rw [hst] at hnx
      simp only [VC_skip, VC_region, VC_seq, VC_cond, aops_nil, aops_cons, put_some, qop, isQuiet, ASt.eval, AV.need, AV.ac, onG, guardOf, qbin, binInt, qpick, qpick0, qextract, AV.map, isScalar, avOf, acOf, AC.ren, giveBack, afterCall, eInt, List.getD_cons_succ, List.getD_cons_zero, List.set_cons_succ, List.set_cons_zero, List.map_cons, List.map_nil, List.append_nil, List.length_cons, List.length_nil, List.headD_cons, List.getElem?_cons_succ, List.getElem?_cons_zero, Option.bind_some, implies_true, imp_self, beq_false, decide_eq_true_eq, decide_eq_false_iff_not, Bool.not_eq_true', Bool.cond_true_left, Bool.or_eq_true, Bool.or_eq_false_iff, Int.not_lt, true_and, and_self, forall_const, false_implies, Bool.true_and, Bool.false_eq_true, Nat.zero_add, eq_self, decide_false, tab_3, za, k1.1, k1.2]
      refine ⟨fun hc => ?_, fun hc => ?_⟩
      · rw [if_pos hc] at hnx
        refine ⟨i + 1, by omega, by omega, ?_⟩
        rw [hnx]
        (simp only [LessC, lessS, lessO, belowS, belowO, AV.below, AC.below, List.length_nil, Int.cast_ofNat_Int, Int.natCast_add, AV.c.injEq, AC.int.injEq, true_and, and_true, and_self, reduceCtorEq, Bool.and_true, Nat.le_refl, eq_self, or_true, or_false, false_or] <;> try omega)
        all_goals exact i64_in _ (by omega)
      · rw [if_neg (by omega)] at hnx
        refine ⟨i + 1, by omega, by omega, ?_⟩
        rw [hnx]
        (simp only [LessC, lessS, lessO, belowS, belowO, AV.below, AC.below, List.length_nil, Int.cast_ofNat_Int, Int.natCast_add, AV.c.injEq, AC.int.injEq, true_and, and_true, and_self, reduceCtorEq, Bool.and_true, Nat.le_refl, eq_self, or_true, or_false, false_or] <;> try omega)
        all_goals exact i64_in _ (by omega)
  · have hin : i = ds.length := by omega
    subst hin
    (refine RetAt.leaf ?_ ?_ <;> simp only [resOf, tupOf, ASt.eval, AV.strip, AV.need, AV.map, AC.ren, List.getD_cons_succ, List.getD_cons_zero, AV.c.injEq, AC.int.injEq, true_and, and_true, and_self, eq_self])
    rw [hsd]
end Go.Vc.Ng
