/- What a profile holds; how far it is from bytes. -/
import Derived.Test.YtcjcfpbbhmhlbaaRD
import Derived.Test.YtcjcfpbbhmhlbaaVH
set_option linter.unusedVariables false
set_option linter.unusedSimpArgs false
namespace Go.Vc.Sn
open Go.Proofs Go.IntWalk Go.Vc
set_option maxRecDepth 100000
/-- the sum of the first counts, where they are counts -/
def accT (cs : List Int) : Nat → Option Int
  | 0 => some 0
  | i + 1 => match accT cs i with
    | none => none
    | some n => if cs.getD i 0 < 0 ∨ 65535 - n < cs.getD i 0 then none else some (n + cs.getD i 0)
theorem accT_in {cs : List Int} : ∀ {i : Nat} {n : Int}, accT cs i = some n → 0 ≤ n ∧ n ≤ 65535 ∧ ∀ j, j < i → 0 ≤ cs.getD j 0 ∧ cs.getD j 0 ≤ 65535
  | 0, n, h => by
    simp [accT] at h
    exact ⟨by omega, by omega, fun j hj => by omega⟩
  | i + 1, n, h => by
    unfold accT at h
    cases e : accT cs i with
    | none => rw [e] at h; cases h
    | some m =>
      rw [e] at h
      simp only at h
      obtain ⟨h1, h2, h3⟩ := accT_in e
      split at h
      · cases h
      · rename_i hc
        have h4 := Option.some.inj h
        refine ⟨by omega, by omega, fun j hj => ?_⟩
        by_cases ej : j = i
        · subst ej; omega
        · exact h3 j (by omega)
theorem accT_none {cs : List Int} {i : Nat} (h : accT cs i = none) : ∀ k, accT cs (i + k) = none
  | 0 => h
  | k + 1 => by
    have := accT_none h k
    show accT cs (i + k + 1) = none
    unfold accT
    rw [this]
/-- the sum of a profile's counts, and what is wrong with it -/
def chk (cs : List Int) : Int × Int :=
  if cs.length ≠ 256 then (0, 3) else match accT cs 256 with
    | none => (0, 4)
    | some n => if n = 0 then (0, 15) else (n, 0)
abbrev prof (nm : ByteArray) (cs : List Int) : AV := .agg [.str nm, .rd 1 Int 0 (fun n => [.int .i64 n]) cs]
set_option maxHeartbeats 8000000 in
theorem check_spec (nm : ByteArray) (cs : List Int) (hl : cs.length ≤ 140737488355328) : ACall Try.prog 23 [prof nm cs] [] (fun r os => r = .tup [(false, [.int .i64 (chk cs).1]), (false, [.int .i64 (chk cs).2])] ∧ os = []) := by
  (refine ACall.of_body (nt := 33) (rs := [.tmp 2, .tmp 3]) tabOK Try.func23 rfl rfl rfl rfl ?_; simp only [startSt, List.length_cons, List.length_nil, Nat.reduceAdd, Nat.reduceSub, List.replicate_succ, List.replicate_zero, List.cons_append, List.nil_append])
  simp only [VCp, VC_skip, VC_region, VC_seq, VC_cond, VC_block, VC_loop, VC_ret, aops_nil, aops_cons, put_some, aop, qop, isQuiet, ASt.eval, AV.need, AV.ac, AV.cells, AV.isTup, qbin, binInt, qlen, qfieldAddr, qload, ned, AC.fits, newObj, ASt.obj, ofCells, TI.isAgg, isScalar, avOf, acOf, eInt, eStr, eList, ePair, List.getD_cons_succ, List.getD_cons_zero, List.set_cons_succ, List.set_cons_zero, List.cons_append, List.nil_append, List.length_cons, List.length_nil, List.drop_succ_cons, List.drop_zero, List.take_succ_cons, List.take_nil, List.headD_cons, List.all_cons, List.all_nil, List.getElem?_cons_succ, List.getElem?_cons_zero, decide_eq_false_iff_not, Bool.not_eq_true', true_and, and_self, not_false_eq_true, Bool.and_true, Nat.zero_add, Nat.reduceAdd, Nat.le_refl, eq_self, Nat.succ_ne_self, tab_3, tab_25, tab_27]
  refine ⟨fun h6 => ?_, fun h6 => ?_⟩
  · (refine RetAt.leaf ?_ ?_ <;> simp only [resOf, tupOf, compOf, ASt.eval, AV.strip, AV.need, AV.map, findIx, AC.ren, List.getD_cons_succ, List.getD_cons_zero, List.map_cons, List.map_nil, and_true, and_self, eq_self])
    unfold chk
    rw [if_pos (by omega)]
  · have h6' : cs.length = 256 := by
      have h := h6
      simp at h
      omega
    refine LoopAt.inv (ι := Nat × Int) (T := tab) (fun s => [(14, .c (.int .i64 s.1)), (4, .c (.int .i64 s.2))]) (fun s => [.cells 27 [.str nm, .rd 1 Int 0 (fun n => [.int .i64 n]) cs]]) (fun s => s.1 ≤ 256 ∧ accT cs s.1 = some s.2) (fun s => 256 - s.1) tabOK (0, 0) ⟨by simp, rfl⟩ ?_ ?_
    · (simp only [LessC, headSt, dsts, opDsts, resetS, putsS, lessS, lessO, belowS, belowO, AV.below, AObj.below, AC.below, List.set_cons_succ, List.set_cons_zero, List.cons_append, List.nil_append, List.append_nil, List.length_cons, List.length_nil, List.all_cons, List.all_nil, Nat.reduceLT, Int.cast_ofNat_Int, AV.c.injEq, and_self, reduceCtorEq, Bool.and_true, Nat.zero_add, Nat.reduceLeDiff, eq_self, decide_true, or_true, or_false] <;> try omega)
    rintro ⟨i, n⟩ ⟨hi, ha⟩
    simp only at hi ha
    obtain ⟨h1, h2, h3⟩ := accT_in ha
    have hnx : accT cs (i + 1) = if cs.getD i 0 < 0 ∨ 65535 - n < cs.getD i 0 then none else some (n + cs.getD i 0) := by
      conv => lhs; unfold accT
      rw [ha]
    have w1 : IntKind.i64.wrap (65535 - n) = 65535 - n := i64_in _ (by omega)
    simp only [VCp, headSt, dsts, opDsts, resetS, putsS, VC_skip, VC_region, VC_seq, VC_cond, VC_block, VC_exit, VC_ret, aops_nil, aops_cons, put_some, qop, isQuiet, ASt.eval, AV.need, AV.ac, onG, guardOf, qbin, binInt, qpick, qpick0, qindexAddr, qload, DV.ac, ofCells, TI.isAgg, isScalar, avOf, acOf, eInt, eList, List.getD_cons_succ, List.getD_cons_zero, List.set_cons_succ, List.set_cons_zero, List.map_cons, List.map_nil, List.cons_append, List.nil_append, List.append_nil, List.length_cons, List.length_nil, List.take_succ_cons, List.take_nil, List.headD_cons, List.getElem?_cons_succ, List.getElem?_cons_zero, Option.bind_some, Int.toNat_natCast, implies_true, imp_self, beq_false, decide_eq_true_eq, decide_eq_false_iff_not, Bool.not_eq_true', Bool.cond_true_left, Bool.or_eq_true, Bool.or_eq_false_iff, Int.not_lt, true_and, and_self, not_false_eq_true, Bool.true_and, if_true, Nat.zero_add, Nat.le_refl, eq_self, Nat.succ_ne_self, tab_3, tab_25, w1]
    refine ⟨fun hlt => ?_, fun hge => ?_⟩
    · generalize cs.getD i 0 = c at *
      refine ⟨⟨by omega, by omega⟩, ?_⟩
      refine ⟨fun hbad => ?_, fun hok => ?_⟩
      · rw [if_pos hbad] at hnx
        have hno := accT_none hnx (255 - i)
        rw [show i + 1 + (255 - i) = 256 by omega] at hno
        (refine RetAt.leaf ?_ ?_ <;> simp only [resOf, tupOf, compOf, ASt.eval, AV.strip, AV.need, AV.map, findIx, AC.ren, List.getD_cons_succ, List.getD_cons_zero, List.map_cons, List.map_nil, and_true, and_self, eq_self])
        unfold chk
        rw [if_neg (by omega), hno]
      · rw [if_neg (by omega)] at hnx
        refine ⟨(i + 1, n + c), ⟨by simp only []; omega, hnx⟩, by simp only []; omega, ?_⟩
        (simp only [LessC, lessS, lessO, belowS, belowO, AV.below, AObj.below, AC.below, List.length_cons, List.length_nil, List.all_cons, List.all_nil, Nat.reduceLT, Int.cast_ofNat_Int, Int.natCast_add, AV.c.injEq, AC.int.injEq, true_and, and_true, and_self, reduceCtorEq, Bool.and_true, Nat.zero_add, Nat.reduceLeDiff, eq_self, decide_true, or_true, or_false, false_or] <;> try omega)
        all_goals first | exact ⟨i64_in _ (by omega), i64_in _ (by omega)⟩ | exact i64_in _ (by omega)
    · have : i = 256 := by omega
      subst this
      refine ⟨fun hz => ?_, fun hz => ?_⟩
      · (refine RetAt.leaf ?_ ?_ <;> simp only [resOf, tupOf, compOf, ASt.eval, AV.strip, AV.need, AV.map, findIx, AC.ren, List.getD_cons_succ, List.getD_cons_zero, List.map_cons, List.map_nil, Int.cast_ofNat_Int, and_true, and_self, eq_self])
        unfold chk
        rw [if_neg (by omega), ha]
        simp only [if_pos hz]
      · (refine RetAt.leaf ?_ ?_ <;> simp only [resOf, tupOf, compOf, ASt.eval, AV.strip, AV.need, AV.map, findIx, AC.ren, List.getD_cons_succ, List.getD_cons_zero, List.map_cons, List.map_nil, Int.cast_ofNat_Int, and_true, and_self, eq_self])
        unfold chk
        rw [if_neg (by omega), ha]
        simp only [if_neg hz]
theorem chk_ok {cs : List Int} (h : (chk cs).2 = 0) : cs.length = 256 ∧ accT cs 256 = some (chk cs).1 ∧ 0 < (chk cs).1 ∧ (chk cs).1 ≤ 65535 ∧ ∀ j, j < 256 → 0 ≤ cs.getD j 0 ∧ cs.getD j 0 ≤ 65535 := by
  unfold chk at h ⊢
  split at h
  · simp at h
  · rename_i hl
    rw [if_neg hl]
    cases e : accT cs 256 with
    | none => rw [e] at h; simp at h
    | some n =>
      rw [e] at h
      simp only at h ⊢
      obtain ⟨h1, h2, h3⟩ := accT_in e
      split at h
      · simp at h
      · rename_i hn
        rw [if_neg hn]
        exact ⟨by omega, rfl, by show 0 < n; omega, h2, h3⟩
theorem chk_bad {cs : List Int} (h : ¬ (chk cs).2 = 0) : (chk cs).1 = 0 := by
  unfold chk at h ⊢
  split
  · rfl
  · rename_i hl
    rw [if_neg hl] at h
    cases e : accT cs 256 with
    | none => rfl
    | some n =>
      rw [e] at h
      simp only at h ⊢
      split
      · rfl
      · rename_i hn
        rw [if_neg hn] at h
        simp at h
/-- a byte's part of a distance -/
def dterm (b cs : List Int) (m : Int) (c : Nat) : Int := max ((counts b).getD c 0 * m - cs.getD c 0 * (b.length : Int)) (-((counts b).getD c 0 * m - cs.getD c 0 * (b.length : Int)))
def dsum (b cs : List Int) (m : Int) : Nat → Int
  | 0 => 0
  | i + 1 => dsum b cs m i + dterm b cs m i
theorem cnt_in (b : List Int) {c : Nat} (hc : c < 256) : 0 ≤ (counts b).getD c 0 ∧ (counts b).getD c 0 ≤ b.length := by
  rw [counts_get _ _ hc]
  have := List.count_le_length (a := (c : Int)) (l := b)
  omega
theorem dterm_parts {b cs : List Int} {m : Int} {c : Nat} (hc : c < 256) (hb : b.length ≤ 65535) (hm : 0 ≤ m ∧ m ≤ 65535) (hx : 0 ≤ cs.getD c 0 ∧ cs.getD c 0 ≤ 65535) :
    (0 ≤ (counts b).getD c 0 * m ∧ (counts b).getD c 0 * m ≤ 4294836225) ∧ 0 ≤ cs.getD c 0 * (b.length : Int) ∧ cs.getD c 0 * (b.length : Int) ≤ 4294836225 := by
  have h1 := cnt_in b hc
  have h2 := mul_lt (A := 65535) (B := 65535) h1.1 (by omega) hm.1 hm.2
  have h3 := mul_lt (A := 65535) (B := 65535) hx.1 hx.2 (show (0 : Int) ≤ b.length by omega) (by omega)
  omega
theorem dsum_in {b cs : List Int} {m : Int} (hb : b.length ≤ 65535) (hm : 0 ≤ m ∧ m ≤ 65535) (hx : ∀ j, j < 256 → 0 ≤ cs.getD j 0 ∧ cs.getD j 0 ≤ 65535) : ∀ i, i ≤ 256 → 0 ≤ dsum b cs m i ∧ dsum b cs m i ≤ 4294836225 * (i : Int)
  | 0, _ => by simp [dsum]
  | i + 1, hi => by
    have h1 := dsum_in hb hm hx i (by omega)
    have h2 := dterm_parts (show i < 256 by omega) hb hm (hx i (by omega))
    have e : dsum b cs m (i + 1) = dsum b cs m i + dterm b cs m i := rfl
    rw [e]
    unfold dterm
    omega
/-- a distance, as a fraction, and what is wrong -/
def distF (b cs : List Int) : Int × Int × Int :=
  if ¬ (chk cs).2 = 0 then (0, 0, (chk cs).2) else if 65535 < b.length then (0, 0, 2) else if b.length = 0 then (0, 0, 15) else (dsum b cs (chk cs).1 256, b.length * (chk cs).1, 0)
abbrev dres (d : Int × Int × Int) : AV := .tup [(false, [.int .i64 d.1]), (false, [.int .i64 d.2.1]), (false, [.int .i64 d.2.2])]
set_option maxHeartbeats 8000000 in
theorem distance_spec (nm : ByteArray) (b cs : List Int) (h8 : U8s b) (hb : b.length ≤ 1048576) (hl : cs.length ≤ 140737488355328) : ACall Try.prog 6 [.c (.rd 1 Int 0 encU8 b), prof nm cs] [] (fun r os => r = dres (distF b cs) ∧ os = []) := by
  (refine ACall.of_body (nt := 58) (rs := [.tmp 4, .tmp 5, .tmp 6]) tabOK Try.func6 rfl rfl rfl rfl ?_; simp only [startSt, List.length_cons, List.length_nil, Nat.reduceAdd, Nat.reduceSub, List.replicate_succ, List.replicate_zero, List.cons_append, List.nil_append])
  simp only [VCp, VC_region, VC_seq, aops_nil, aops_cons, put_some, aop, qop, isQuiet, ASt.eval, ASt.ev, AV.strip, AV.need, AV.ac, AV.cells, AV.isTup, qload, ned, AC.fits, newObj, ASt.obj, ofCells, TI.isAgg, avOf, acOf, eInt, eStr, eList, ePair, List.getD_cons_succ, List.getD_cons_zero, List.set_cons_succ, List.set_cons_zero, List.map_cons, List.map_nil, List.cons_append, List.nil_append, List.length_cons, List.length_nil, List.drop_zero, List.take_succ_cons, List.take_nil, List.all_cons, List.all_nil, true_and, and_self, reduceCtorEq, not_false_eq_true, Bool.and_true, Nat.zero_add, Nat.reduceAdd, Nat.le_refl, eq_self, tab_27]
  refine CallAt.plain (check_spec nm cs hl) rfl ?_
  rintro r os ⟨rfl, rfl⟩
  simp only [VC_skip, VC_region, VC_seq, VC_cond, VC_ret, aops_nil, aops_cons, put_some, aop, qop, isQuiet, ASt.eval, ASt.ev, AV.strip, AV.need, AV.ac, AV.isTup, qbin, binInt, qlen, qextract, ned, AV.map, isScalar, avOf, acOf, AC.ren, giveBack, afterCall, eInt, eList, List.getD_cons_succ, List.getD_cons_zero, List.set_cons_succ, List.set_cons_zero, List.map_cons, List.map_nil, List.append_nil, List.length_cons, List.length_nil, List.headD_cons, List.getElem?_cons_succ, List.getElem?_cons_zero, decide_eq_true_eq, decide_eq_false_iff_not, Bool.not_eq_true', Int.not_lt, true_and, and_self, Nat.zero_add, eq_self, tab_3, tab_22, tab_28]
  refine ⟨fun he => ?_, fun he => ?_⟩
  · (refine RetAt.leaf ?_ ?_ <;> simp only [resOf, tupOf, compOf, ASt.eval, AV.strip, AV.need, AV.map, findIx, AC.ren, List.getD_cons_succ, List.getD_cons_zero, List.map_cons, List.map_nil, and_true, and_self, eq_self])
    unfold distF
    rw [if_pos (by simpa using he)]
  · have he' : (chk cs).2 = 0 := by simpa using he
    obtain ⟨k1, k2, k3, k4, k5⟩ := chk_ok he'
    have hd : ∀ x, x = (if 65535 < b.length then (0, 0, 2) else if b.length = 0 then (0, 0, 15) else (dsum b cs (chk cs).1 256, b.length * (chk cs).1, 0) : Int × Int × Int) → x = distF b cs := fun x hx => by
      unfold distF
      rw [if_neg (by simpa using he')]
      exact hx
    generalize (chk cs).1 = m at *
    generalize (chk cs).2 = e at *
    refine ⟨fun h1 => ?_, fun h1 => ⟨fun h2 => ?_, fun h2 => ?_⟩⟩
    · (refine RetAt.leaf ?_ ?_ <;> simp only [resOf, tupOf, compOf, ASt.eval, AV.strip, AV.need, AV.map, findIx, AC.ren, List.getD_cons_succ, List.getD_cons_zero, List.map_cons, List.map_nil, and_true, and_self, eq_self])
      rw [← hd _ rfl, if_pos (by omega)]
    · (refine RetAt.leaf ?_ ?_ <;> simp only [resOf, tupOf, compOf, ASt.eval, AV.strip, AV.need, AV.map, findIx, AC.ren, List.getD_cons_succ, List.getD_cons_zero, List.map_cons, List.map_nil, and_true, and_self, eq_self])
      rw [← hd _ rfl, if_neg (by omega), if_pos (by omega)]
    · have hb' : b.length ≤ 65535 := by omega
      refine CallAt.plain (counts_spec b h8 (by omega)) rfl ?_
      rintro r os ⟨rfl, rfl⟩
      simp only [VC_block, VC_loop, aops_nil, aops_cons, put_some, qop, isQuiet, ASt.eval, AV.need, AV.ac, qlen, ASt.obj, AV.map, AObj.map, avOf, acOf, AC.ren, backIx, giveBack, afterCall, eInt, eList, List.getD_cons_succ, List.getD_cons_zero, List.set_cons_succ, List.set_cons_zero, List.map_cons, List.map_nil, List.cons_append, List.nil_append, List.length_cons, List.length_nil, List.getElem?_nil, Int.cast_ofNat_Int, true_and, and_self, Nat.add_zero, Nat.zero_add, Nat.reduceSub, tab_25, counts_len]
      refine LoopAt.inv (ι := Nat) (T := tab) (fun i => [(31, .c (.int .i64 i)), (10, .c (.int .i64 (dsum b cs m i)))]) (fun i => [.cells 27 [.str nm, .rd 1 Int 0 (fun n => [.int .i64 n]) cs], .row 3 1 Int 0 (eInt .i64).enc (counts b)]) (fun i => i ≤ 256) (fun i => 256 - i) tabOK 0 (Nat.zero_le _) ?_ ?_
      · (simp only [LessC, headSt, dsts, opDsts, resetS, putsS, lessS, lessO, belowS, belowO, AV.below, AObj.below, AC.below, eInt, List.set_cons_succ, List.set_cons_zero, List.cons_append, List.nil_append, List.append_nil, List.length_cons, List.length_nil, List.all_cons, List.all_nil, Nat.reduceLT, Int.cast_ofNat_Int, AV.c.injEq, AC.int.injEq, true_and, and_true, and_self, reduceCtorEq, Bool.and_true, Nat.zero_add, Nat.reduceAdd, Nat.reduceLeDiff, eq_self, decide_true, or_true, false_or] <;> try omega)
        rfl
      intro i hi
      simp only [VCp, headSt, dsts, opDsts, resetS, putsS, VC_skip, VC_region, VC_seq, VC_cond, VC_block, VC_exit, VC_ret, aops_nil, aops_cons, put_some, qop, isQuiet, ASt.eval, AV.need, AV.ac, qbin, binInt, qun, qmax, qindexAddr, qfieldAddr, qload, ASt.obj, DV.ac, ofCells, TI.isAgg, isScalar, avOf, acOf, eInt, eStr, eList, ePair, List.getD_cons_succ, List.getD_cons_zero, List.set_cons_succ, List.set_cons_zero, List.map_cons, List.map_nil, List.cons_append, List.nil_append, List.append_nil, List.length_cons, List.length_nil, List.drop_succ_cons, List.drop_zero, List.take_succ_cons, List.take_nil, List.headD_cons, List.getElem?_cons_succ, List.getElem?_cons_zero, Int.cast_ofNat_Int, Int.toNat_natCast, decide_eq_true_eq, decide_eq_false_iff_not, Int.not_lt, true_and, and_true, and_self, not_false_eq_true, if_true, Nat.zero_add, Nat.reduceAdd, Nat.le_refl, eq_self, Nat.succ_ne_self, tab_3, tab_25, tab_27, counts_len]
      refine ⟨fun hlt => ?_, fun hge => ?_⟩
      · have hi' : i < 256 := by omega
        obtain ⟨⟨p1, p2⟩, p3, p4⟩ := dterm_parts (b := b) (m := m) hi' hb' (by omega) (k5 i hi')
        have hs := dsum_in hb' (show 0 ≤ m ∧ m ≤ 65535 by omega) k5 i hi
        have hn : dsum b cs m (i + 1) = dsum b cs m i + dterm b cs m i := rfl
        unfold dterm at hn
        generalize (counts b).getD i 0 * m = A at *
        generalize cs.getD i 0 * (b.length : Int) = B at *
        have wA : IntKind.i64.wrap A = A := i64_in _ (by omega)
        have wB : IntKind.i64.wrap B = B := i64_in _ (by omega)
        have wX : IntKind.i64.wrap (A - B) = A - B := i64_in _ (by omega)
        have wN : IntKind.i64.wrap (0 - (A - B)) = 0 - (A - B) := i64_in _ (by omega)
        simp only [wA, wB, wX, wN]
        refine ⟨⟨by omega, by omega⟩, hi', ⟨by omega, by omega⟩, i + 1, by omega, by omega, ?_⟩
        have wS : IntKind.i64.wrap (dsum b cs m i + if 0 - (A - B) > A - B then 0 - (A - B) else A - B) = dsum b cs m (i + 1) := by
          rw [i64_in _ (by split <;> omega), hn]
          split <;> omega
        (simp only [LessC, lessS, lessO, belowS, belowO, AV.below, AObj.below, AC.below, List.length_cons, List.length_nil, List.all_cons, List.all_nil, Nat.reduceLT, Int.cast_ofNat_Int, Int.natCast_add, AV.c.injEq, AC.int.injEq, true_and, and_true, and_self, reduceCtorEq, Bool.and_true, Nat.zero_add, Nat.reduceAdd, Nat.reduceLeDiff, eq_self, decide_true, or_true, or_false, false_or] <;> try omega)
        all_goals first | exact ⟨wS, i64_in _ (by omega)⟩ | exact wS | exact i64_in _ (by omega) | skip
      · have : i = 256 := by omega
        subst this
        have wM : IntKind.i64.wrap ((b.length : Int) * m) = (b.length : Int) * m := i64_in _ (by
          have := mul_lt (A := 65535) (B := 65535) (show (0 : Int) ≤ b.length by omega) (by omega) (show 0 ≤ m by omega) (by omega)
          omega)
        simp only [wM]
        (refine RetAt.leaf ?_ ?_ <;> simp only [resOf, tupOf, compOf, ASt.eval, AV.strip, AV.need, AV.map, findIx, AC.ren, List.getD_cons_succ, List.getD_cons_zero, List.map_cons, List.map_nil, Int.reduceLT, Int.cast_ofNat_Int, and_true, and_self, eq_self, decide_false])
        rw [← hd _ rfl, if_neg (by omega), if_neg (by omega)]
end Go.Vc.Sn
