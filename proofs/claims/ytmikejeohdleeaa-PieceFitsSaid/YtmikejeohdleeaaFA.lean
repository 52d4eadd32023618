/- Bytes compared; how well fragments fit. -/
import Derived.Test.YtmikejeohdleeaaPI
set_option linter.unusedVariables false
set_option linter.unusedSimpArgs false
namespace Go.Vc.Pc
open Go.Proofs Go.IntWalk
set_option maxRecDepth 100000
def U8s (xs : List Int) : Prop := ∀ x ∈ xs, 0 ≤ x ∧ x < 256
abbrev rB (xs : List Int) : AC := .rd 1 Int 0 encU8 xs
theorem u8_inj {a b : Int} (ha : 0 ≤ a ∧ a < 256) (hb : 0 ≤ b ∧ b < 256) (h : UInt8.ofNat a.toNat = UInt8.ofNat b.toNat) : a = b := by
  have := congrArg UInt8.toNat h
  simp only [UInt8.toNat_ofNat'] at this
  omega
theorem strOf_inj : ∀ {xs ys : List Int}, U8s xs → U8s ys → xs.map (fun n => UInt8.ofNat n.toNat) = ys.map (fun n => UInt8.ofNat n.toNat) → xs = ys
  | [], [], _, _, _ => rfl
  | [], y :: ys, _, _, h => by simp at h
  | x :: xs, [], _, _, h => by simp at h
  | x :: xs, y :: ys, h1, h2, h => by
    simp only [List.map_cons, List.cons.injEq] at h
    rw [u8_inj (h1 x (by simp)) (h2 y (by simp)) h.1, strOf_inj (fun z hz => h1 z (by simp [hz])) (fun z hz => h2 z (by simp [hz])) h.2]
theorem strOf_eq {xs ys : List Int} (h1 : U8s xs) (h2 : U8s ys) : ((strOf xs).toList == (strOf ys).toList) = decide (xs = ys) := by
  rw [Bool.eq_iff_iff, beq_iff_eq, decide_eq_true_iff]
  constructor
  · intro h
    have e : (strOf xs).data.toList = (strOf ys).data.toList := by
      rw [← ByteArray.toList_eq, ← ByteArray.toList_eq]
      exact h
    exact strOf_inj h1 h2 (by simpa [strOf] using e)
  · rintro rfl
    rfl
set_option maxHeartbeats 4000000 in
theorem same_spec (xs ys : List Int) (h1 : U8s xs) (h2 : U8s ys) : ACall Try.prog 78 [.c (rB xs), .c (rB ys)] [] (fun r os => r = .c (.bool (decide (xs = ys))) ∧ os = []) := by
  (refine ACall.of_body (nt := 10) (rs := [.tmp 4]) tabOK Try.func78 rfl rfl rfl rfl ?_; simp only [startSt, List.length_cons, List.length_nil, Nat.reduceAdd, Nat.reduceSub, List.replicate_succ, List.replicate_zero, List.cons_append, List.nil_append])
  unfold rB encU8
  simp only [VCp, VC_region, VC_seq, VC_ret, aops_nil, aops_cons, put_some, aop, qop, isQuiet, ASt.eval, AV.need, AV.ac, AV.isTup, qbin, binStr, ned, appSrc, aconv, isScalar, avOf, acOf, eInt, eStr, eList, List.getD_cons_succ, List.getD_cons_zero, List.set_cons_succ, List.set_cons_zero, ↓ex_rfl, cast_eq, heq_eq_eq, true_and, and_self, Bool.and_true, eq_self, tab_5, tab_9, tab_29, strOf_eq h1 h2]
  refine ⟨rfl, rfl, ?_⟩
  (refine RetAt.leaf ?_ ?_ <;> simp only [resOf, tupOf, ASt.eval, AV.strip, AV.need, AV.map, AC.ren, List.getD_cons_succ, List.getD_cons_zero, and_self, eq_self])
set_option maxHeartbeats 4000000 in
theorem bytesEqual_spec (xs ys : List Int) (h1 : U8s xs) (h2 : U8s ys) : ACall Try.prog 36 [.c (rB xs), .c (rB ys)] [] (fun r os => r = .c (.bool (decide (xs = ys))) ∧ os = []) := by
  (refine ACall.of_body (nt := 10) (rs := [.tmp 4]) tabOK Try.func36 rfl rfl rfl rfl ?_; simp only [startSt, List.length_cons, List.length_nil, Nat.reduceAdd, Nat.reduceSub, List.replicate_succ, List.replicate_zero, List.cons_append, List.nil_append])
  unfold rB encU8
  simp only [VCp, VC_region, VC_seq, VC_ret, aops_nil, aops_cons, put_some, aop, qop, isQuiet, ASt.eval, AV.need, AV.ac, AV.isTup, qbin, binStr, ned, appSrc, aconv, isScalar, avOf, acOf, eInt, eStr, eList, List.getD_cons_succ, List.getD_cons_zero, List.set_cons_succ, List.set_cons_zero, ↓ex_rfl, cast_eq, heq_eq_eq, true_and, and_self, Bool.and_true, eq_self, tab_5, tab_9, tab_29, strOf_eq h1 h2]
  refine ⟨rfl, rfl, ?_⟩
  (refine RetAt.leaf ?_ ?_ <;> simp only [resOf, tupOf, ASt.eval, AV.strip, AV.need, AV.map, AC.ren, List.getD_cons_succ, List.getD_cons_zero, and_self, eq_self])
set_option maxHeartbeats 4000000 in
theorem equalB_spec (xs ys : List Int) (hl : xs.length < 9223372036854775807) : ACall Try.prog 77 [.c (rB xs), .c (rB ys)] [] (fun r os => r = .c (.bool (decide (xs = ys))) ∧ os = []) := by
  (refine ACall.of_body (nt := 26) (rs := [.tmp 4]) tabOK Try.func77 rfl rfl rfl rfl ?_; simp only [startSt, List.length_cons, List.length_nil, Nat.reduceAdd, Nat.reduceSub, List.replicate_succ, List.replicate_zero, List.cons_append, List.nil_append])
  unfold rB encU8
  simp only [VCp, VC_skip, VC_region, VC_seq, VC_cond, VC_block, VC_loop, VC_ret, aops_nil, aops_cons, put_some, qop, isQuiet, ASt.eval, AV.need, AV.ac, qbin, binInt, qlen, isScalar, avOf, acOf, eInt, eList, List.getD_cons_succ, List.getD_cons_zero, List.set_cons_succ, List.set_cons_zero, decide_eq_false_iff_not, Bool.not_eq_true', true_and, and_self, eq_self, tab_3, tab_29]
  refine ⟨fun h => ?_, fun h => ?_⟩
  · (refine RetAt.leaf ?_ ?_ <;> simp only [resOf, tupOf, ASt.eval, AV.strip, AV.need, AV.map, AC.ren, List.getD_cons_succ, List.getD_cons_zero, AV.c.injEq, AC.bool.injEq, and_true, and_self, eq_self])
    have : ¬ xs = ys := fun e => by subst e; exact h rfl
    simp [this]
  have hlen : xs.length = ys.length := by have := nd h; omega
  refine LoopAt.inv (ι := Nat) (T := tab) (fun i => [(13, .c (.int .i64 i))]) (fun i => []) (fun i => i ≤ xs.length ∧ xs.take i = ys.take i) (fun i => xs.length - i) tabOK 0 ⟨Nat.zero_le _, rfl⟩ ?_ ?_
  · (simp only [LessC, headSt, dsts, opDsts, resetS, putsS, lessS, lessO, belowS, belowO, AV.below, AC.below, List.set_cons_succ, List.set_cons_zero, List.cons_append, List.nil_append, List.append_nil, List.length_nil, Int.cast_ofNat_Int, AV.c.injEq, and_self, reduceCtorEq, Bool.and_true, Nat.le_refl, eq_self, or_true, or_false] <;> try omega)
  · rintro i ⟨hi, he⟩
    simp only [VCp, headSt, dsts, opDsts, resetS, putsS, VC_skip, VC_region, VC_draw, VC_seq, VC_cond, VC_block, VC_exit, VC_ret, aops_nil, aops_cons, put_some, qop, isQuiet, ASt.eval, AV.need, AV.ac, qbin, binInt, isScalar, avOf, acOf, eInt, List.getD_cons_succ, List.getD_cons_zero, List.set_cons_succ, List.set_cons_zero, List.cons_append, List.nil_append, List.append_nil, decide_eq_true_eq, decide_eq_false_iff_not, Int.not_lt, true_and, and_self, if_true, eq_self, tab_3]
    refine ⟨fun h => ?_, fun h => ?_⟩
    · have hi' : i < xs.length := by omega
      refine DrawAt.plan tabOK mixed (.take 0 true (.take 1 true (.take 2 true (.take 3 true (.take 4 true (.take 5 true (.take 6 true (.take 7 true (.take 8 true .done))))))))) (by decide +kernel) ?_
      simp only [avc_done, avc_take, qstep, ownLoad, VC_skip, VC_region, VC_seq, VC_cond, VC_ret, aops_nil, aops_cons, put_some, qop, isQuiet, ASt.eval, AV.need, AV.ac, qbin, binInt, qindexAddr, qload, DV.ac, ofCells, TI.isAgg, isScalar, avOf, acOf, eInt, eList, List.getD_cons_succ, List.getD_cons_zero, List.set_cons_succ, List.set_cons_zero, List.map_cons, List.map_nil, List.length_cons, List.length_nil, List.take_succ_cons, List.take_nil, List.headD_cons, List.getElem?_cons_succ, List.getElem?_cons_zero, Int.toNat_natCast, decide_eq_false_iff_not, Bool.not_eq_true', true_and, and_self, not_false_eq_true, Nat.zero_add, Nat.le_refl, eq_self, Nat.succ_ne_self, or_true, tab_3, tab_5, tab_29]
      refine ⟨⟨by omega, by omega⟩, ⟨by omega, by omega⟩, fun hd => ?_, fun hd => ⟨i + 1, ⟨by omega, ?_⟩, by omega, ?_⟩⟩
      · (refine RetAt.leaf ?_ ?_ <;> simp only [resOf, tupOf, ASt.eval, AV.strip, AV.need, AV.map, AC.ren, List.getD_cons_succ, List.getD_cons_zero, AV.c.injEq, AC.bool.injEq, and_true, and_self, eq_self])
        have : ¬ xs = ys := fun e => by subst e; exact hd rfl
        simp [this]
      · have hd' : xs.getD i 0 = ys.getD i 0 := nd hd
        rw [take_next xs i 0 hi', take_next ys i 0 (by omega), he, hd']
      · (simp only [LessC, lessS, lessO, belowS, belowO, AV.below, AC.below, List.length_nil, Int.cast_ofNat_Int, Int.natCast_add, AV.c.injEq, AC.int.injEq, true_and, and_true, and_self, reduceCtorEq, Bool.and_true, Nat.le_refl, eq_self, or_true, or_false, false_or] <;> try omega)
        exact i64_in _ (by omega)
    · have : i = xs.length := by omega
      subst this
      rw [List.take_length, hlen, List.take_length] at he
      (refine RetAt.leaf ?_ ?_ <;> simp only [resOf, tupOf, ASt.eval, AV.strip, AV.need, AV.map, AC.ren, List.getD_cons_succ, List.getD_cons_zero, AV.c.injEq, AC.bool.injEq, and_true, and_self, eq_self])
      simp [he]
/-! ### how well b fits behind a -/
def fits (a b : List Int) (n : Nat) : Bool := decide (a.drop (a.length - n) = b.take n)
def fitTo (a b : List Int) : Nat → Int
  | 0 => 0
  | k + 1 => if fits a b (k + 1) = true then ((k + 1 : Nat) : Int) else fitTo a b k
def minL (a b : List Int) (most : Int) : Nat := (min (min most a.length) b.length).toNat
theorem minL_le {a b : List Int} {most : Int} : minL a b most ≤ a.length ∧ minL a b most ≤ b.length := by unfold minL; omega
def fitF (a b : List Int) (most : Int) : Int := fitTo a b (minL a b most)
theorem fitTo_le (a b : List Int) : ∀ k, 0 ≤ fitTo a b k ∧ fitTo a b k ≤ k
  | 0 => by simp [fitTo]
  | k + 1 => by
    have := fitTo_le a b k
    unfold fitTo
    split <;> omega
set_option maxHeartbeats 4000000 in
theorem fit_spec (a b : List Int) (most : Int) (h1 : a.length < 9223372036854775807) (h2 : b.length < 9223372036854775807) :
    ACall Try.prog 32 [.c (rB a), .c (rB b), .c (.int .i64 most)] [] (fun r os => r = .c (.int .i64 (fitF a b most)) ∧ os = []) := by
  (refine ACall.of_body (nt := 30) (rs := [.tmp 6]) tabOK Try.func32 rfl rfl rfl rfl ?_; simp only [startSt, List.length_cons, List.length_nil, Nat.reduceAdd, Nat.reduceSub, List.replicate_succ, List.replicate_zero, List.cons_append, List.nil_append])
  unfold rB encU8
  simp only [VCp, VC_region, VC_seq, VC_block, VC_loop, aops_nil, aops_cons, put_some, qop, isQuiet, ASt.eval, AV.need, AV.ac, qmax, qmin, qlen, avOf, acOf, eInt, eList, List.getD_cons_succ, List.getD_cons_zero, List.set_cons_succ, List.set_cons_zero, true_and, and_self, eq_self, tab_29]
  have hK : (if (if (b.length : Int) < if (a.length : Int) < most then (a.length : Int) else most then (b.length : Int) else if (a.length : Int) < most then (a.length : Int) else most) > 0 then (if (b.length : Int) < if (a.length : Int) < most then (a.length : Int) else most then (b.length : Int) else if (a.length : Int) < most then (a.length : Int) else most) else 0) = (minL a b most : Int) := by
    unfold minL
    repeat' split
    all_goals omega
  have hKl := minL_le (a := a) (b := b) (most := most)
  have hfF : fitF a b most = fitTo a b (minL a b most) := rfl
  generalize minL a b most = K at *
  refine LoopAt.inv (ι := Nat) (T := tab) (fun n => [(7, .c (.int .i64 n))]) (fun n => []) (fun n => n ≤ K ∧ fitTo a b n = fitTo a b K) (fun n => n) tabOK K ⟨Nat.le_refl _, rfl⟩ ?_ ?_
  · (simp only [LessC, headSt, dsts, opDsts, resetS, putsS, lessS, lessO, belowS, belowO, AV.below, AC.below, List.set_cons_succ, List.set_cons_zero, List.cons_append, List.nil_append, List.append_nil, List.length_nil, AV.c.injEq, AC.int.injEq, true_and, and_true, and_self, reduceCtorEq, Bool.and_true, Nat.le_refl, eq_self, or_true, or_false, false_or] <;> try omega)
  · rintro n ⟨hn, he⟩
    simp only [VCp, headSt, dsts, opDsts, resetS, putsS, VC_skip, VC_region, VC_draw, VC_seq, VC_cond, VC_block, VC_exit, VC_ret, aops_nil, aops_cons, put_some, qop, isQuiet, ASt.eval, AV.need, AV.ac, qbin, binInt, isScalar, avOf, acOf, eInt, List.getD_cons_succ, List.getD_cons_zero, List.set_cons_succ, List.set_cons_zero, List.cons_append, List.nil_append, List.append_nil, decide_eq_true_eq, decide_eq_false_iff_not, Int.not_lt, true_and, and_self, if_true, eq_self, tab_3]
    refine ⟨fun h => ?_, fun h => ?_⟩
    · obtain ⟨m, rfl⟩ : ∃ m, n = m + 1 := ⟨n - 1, by omega⟩
      have w1 : IntKind.i64.wrap ((a.length : Int) - ((m + 1 : Nat) : Int)) = ((a.length - (m + 1) : Nat) : Int) := by rw [i64_in _ (by omega)]; omega
      have w2 : IntKind.i64.wrap (((m + 1 : Nat) : Int) - 1) = (m : Int) := by rw [i64_in _ (by omega)]; omega
      have hst : fitTo a b (m + 1) = if fits a b (m + 1) = true then ((m + 1 : Nat) : Int) else fitTo a b m := rfl
      generalize hmm : m + 1 = n at *
      refine DrawAt.plan tabOK mixed (.take 0 false (.take 1 false (.take 2 false (.take 3 false (.take 4 false (.take 5 true (.take 6 false (.take 7 false (.take 8 true (.alt 9 .done .stop)))))))))) (by decide +kernel) ?_
      simp only [avc_stop, avc_take, avc_alt, qstep, lstep, ownLoad, put_n0, put_some, aop, qop, isQuiet, ASt.eval, ASt.ev, AV.strip, AV.need, AV.ac, AV.isTup, qbin, binInt, qlen, qslice, cutLo, cutHi, needAll, ned, isScalar, avOf, acOf, eInt, eList, List.getD_cons_succ, List.getD_cons_zero, List.set_cons_succ, List.set_cons_zero, List.map_cons, List.map_nil, List.drop_zero, List.getElem?_cons_succ, List.getElem?_cons_zero, Option.map_some, Option.map_none, Option.toList_some, Option.toList_none, Int.reduceLE, Int.toNat_natCast, Int.reduceToNat, true_and, and_true, and_self, Bool.false_eq_true, eq_self, or_true, tab_3, tab_5, tab_29, w1, Int.toNat_natCast, Nat.sub_zero]
      refine ⟨by omega, by omega, ?_⟩
      have hT : (a.drop (a.length - n)).take (a.length - (a.length - n)) = a.drop (a.length - n) := List.take_of_length_le (by simp)
      rw [hT]
      refine CallAt.plain (equalB_spec (a.drop (a.length - n)) (b.take n) (by simp; omega)) rfl ?_
      rintro r os ⟨rfl, rfl⟩
      simp only [avc_done, VC_skip, VC_region, VC_seq, VC_cond, VC_ret, aops_nil, aops_cons, put_some, qop, isQuiet, ASt.eval, AV.need, AV.ac, qbin, binInt, AV.map, isScalar, avOf, acOf, AC.ren, giveBack, afterCall, eInt, List.getD_cons_succ, List.getD_cons_zero, List.set_cons_succ, List.set_cons_zero, List.map_nil, List.append_nil, List.length_nil, decide_eq_true_eq, decide_eq_false_iff_not, true_and, and_self, eq_self, tab_3, w2]
      refine ⟨fun hf => ?_, fun hf => ⟨m, ⟨by omega, ?_⟩, by omega, ?_⟩⟩
      · (refine RetAt.leaf ?_ ?_ <;> simp only [resOf, tupOf, ASt.eval, AV.strip, AV.need, AV.map, AC.ren, List.getD_cons_succ, List.getD_cons_zero, AV.c.injEq, AC.int.injEq, true_and, and_true, and_self, eq_self])
        rw [hfF, ← he, hst, if_pos (by unfold fits; exact decide_eq_true hf)]
        all_goals trivial
      · rw [← he, hst, if_neg (by unfold fits; simpa using hf)]
      · (simp only [LessC, lessS, lessO, belowS, belowO, AV.below, AC.below, List.length_nil, AV.c.injEq, and_self, reduceCtorEq, Bool.and_true, Nat.le_refl, eq_self, or_true, or_false] <;> try omega)
    · have hn0 : n = 0 := by omega
      subst hn0
      (refine RetAt.leaf ?_ ?_ <;> simp only [resOf, tupOf, ASt.eval, AV.strip, AV.need, AV.map, AC.ren, List.getD_cons_succ, List.getD_cons_zero, Int.reduceLT, Int.cast_ofNat_Int, AV.c.injEq, AC.int.injEq, true_and, and_true, and_self, eq_self, decide_false])
      rw [hfF, ← he]
      rfl
set_option maxHeartbeats 4000000 in
theorem refFit_spec (a b : List Int) (most : Int) (h1 : a.length < 9223372036854775807) (h2 : b.length < 9223372036854775807) (u1 : U8s a) (u2 : U8s b) :
    ACall Try.prog 34 [.c (rB a), .c (rB b), .c (.int .i64 most)] [] (fun r os => r = .c (.int .i64 (fitF a b most)) ∧ os = []) := by
  (refine ACall.of_body (nt := 38) (rs := [.tmp 6]) tabOK Try.func34 rfl rfl rfl rfl ?_; simp only [startSt, List.length_cons, List.length_nil, Nat.reduceAdd, Nat.reduceSub, List.replicate_succ, List.replicate_zero, List.cons_append, List.nil_append])
  unfold rB encU8
  simp only [VCp, VC_region, VC_seq, VC_block, VC_loop, aops_nil, aops_cons, put_some, qop, isQuiet, ASt.eval, AV.need, avOf, acOf, List.set_cons_succ, List.set_cons_zero, true_and]
  have hKl := minL_le (a := a) (b := b) (most := most)
  have hKm : ∀ n : Nat, 0 < n → (n ≤ minL a b most ↔ ((n : Int) ≤ most ∧ n ≤ a.length ∧ n ≤ b.length)) := fun n hn => by unfold minL; omega
  have hfF : fitF a b most = fitTo a b (minL a b most) := rfl
  generalize minL a b most = K at *
  refine LoopAt.inv (ι := Nat) (T := tab) (fun n => [(8, .c (.int .i64 ((n + 1 : Nat) : Int))), (7, .c (.int .i64 (fitTo a b n)))]) (fun n => []) (fun n => n ≤ K) (fun n => K - n) tabOK 0 (Nat.zero_le _) ?_ ?_
  · (simp only [LessC, headSt, dsts, opDsts, resetS, putsS, lessS, lessO, belowS, belowO, AV.below, AC.below, List.set_cons_succ, List.set_cons_zero, List.cons_append, List.nil_append, List.append_nil, List.length_nil, Int.cast_ofNat_Int, AV.c.injEq, AC.int.injEq, true_and, and_true, and_self, reduceCtorEq, Bool.and_true, Nat.zero_add, Nat.le_refl, eq_self, or_true, false_or] <;> try omega)
    rfl
  · intro m hm
    have hq := hKm (m + 1) (by omega)
    have hst : fitTo a b (m + 1) = if fits a b (m + 1) = true then ((m + 1 : Nat) : Int) else fitTo a b m := rfl
    have w1 : IntKind.i64.wrap ((a.length : Int) - ((m : Int) + 1)) = (a.length : Int) - ((m : Int) + 1) := i64_in _ (by omega)
    simp only [VCp, headSt, dsts, opDsts, resetS, putsS, VC_skip, VC_region, VC_draw, VC_seq, VC_cond, VC_block, VC_exit, VC_ret, aops_nil, aops_cons, put_some, qop, isQuiet, ASt.eval, AV.need, AV.ac, onG, guardOf, qbin, binInt, qpick, qpick0, qlen, isScalar, avOf, acOf, eInt, eList, List.getD_cons_succ, List.getD_cons_zero, List.set_cons_succ, List.set_cons_zero, List.cons_append, List.nil_append, List.append_nil, List.getElem?_cons_succ, List.getElem?_cons_zero, Option.bind_some, Int.cast_ofNat_Int, Int.natCast_add, implies_true, imp_self, beq_true, decide_eq_true_eq, decide_eq_false_iff_not, Bool.cond_false_right, Bool.and_eq_true, Bool.and_eq_false_iff, Int.not_le, true_and, and_self, Bool.true_and, if_true, eq_self, tab_3, tab_29]
    refine ⟨fun h => ?_, fun h => ?_⟩
    · have w2 : IntKind.i64.wrap ((m : Int) + 1 + 1) = (m : Int) + 1 + 1 := i64_in _ (by omega)
      have t1 : ((a.length : Int) - ((m : Int) + 1)).toNat = a.length - (m + 1) := by omega
      have t2 : ((m : Int) + 1).toNat = m + 1 := by omega
      have hT : (a.drop (a.length - (m + 1))).take (a.length - (a.length - (m + 1))) = a.drop (a.length - (m + 1)) := List.take_of_length_le (by simp)
      refine DrawAt.plan tabOK mixed (.take 0 false (.take 1 false (.take 2 false (.take 3 false (.take 4 false (.take 5 true (.take 6 false (.take 7 false (.take 8 true (.alt 9 .done .stop)))))))))) (by decide +kernel) ?_
      simp only [avc_stop, avc_take, avc_alt, qstep, lstep, ownLoad, put_n0, put_some, aop, qop, isQuiet, ASt.eval, ASt.ev, AV.strip, AV.need, AV.ac, AV.isTup, qbin, binInt, qlen, qslice, cutLo, cutHi, needAll, ned, isScalar, avOf, acOf, eInt, eList, List.getD_cons_succ, List.getD_cons_zero, List.set_cons_succ, List.set_cons_zero, List.map_cons, List.map_nil, List.drop_zero, List.getElem?_cons_succ, List.getElem?_cons_zero, Option.map_some, Option.map_none, Option.toList_some, Option.toList_none, Int.reduceLE, Int.toNat_natCast, Int.reduceToNat, true_and, and_true, and_self, Bool.false_eq_true, eq_self, or_true, tab_3, tab_5, tab_29, w1, t1, t2, hT, Nat.sub_zero]
      refine ⟨by omega, by omega, ?_⟩
      refine CallAt.plain (same_spec (a.drop (a.length - (m + 1))) (b.take (m + 1)) (fun x hx => u1 x (List.mem_of_mem_drop hx)) (fun x hx => u2 x (List.mem_of_mem_take hx))) rfl ?_
      rintro r os ⟨rfl, rfl⟩
      simp only [avc_done, VC_skip, VC_region, VC_cond, aops_nil, aops_cons, put_some, qop, isQuiet, ASt.eval, AV.need, AV.ac, qbin, binInt, AV.map, isScalar, avOf, acOf, AC.ren, giveBack, afterCall, eInt, List.getD_cons_succ, List.getD_cons_zero, List.set_cons_succ, List.set_cons_zero, List.map_nil, List.append_nil, List.length_nil, decide_eq_true_eq, decide_eq_false_iff_not, true_and, and_self, eq_self, tab_3, w2]
      refine ⟨fun hf => ⟨m + 1, by omega, by omega, ?_⟩, fun hf => ⟨m + 1, by omega, by omega, ?_⟩⟩
      · rw [hst, if_pos (by unfold fits; exact decide_eq_true hf)]
        (simp only [LessC, lessS, lessO, belowS, belowO, AV.below, AC.below, List.length_nil, Int.cast_ofNat_Int, Int.natCast_add, AV.c.injEq, and_self, reduceCtorEq, Bool.and_true, Nat.le_refl, eq_self, or_true, or_false] <;> try omega)
      · rw [hst, if_neg (by unfold fits; simpa using hf)]
        (simp only [LessC, lessS, lessO, belowS, belowO, AV.below, AC.below, List.length_nil, Int.cast_ofNat_Int, Int.natCast_add, AV.c.injEq, and_self, reduceCtorEq, Bool.and_true, Nat.le_refl, eq_self, or_true, or_false] <;> try omega)
    · have : m = K := by omega
      subst this
      (refine RetAt.leaf ?_ ?_ <;> simp only [resOf, tupOf, ASt.eval, AV.strip, AV.need, AV.map, AC.ren, List.getD_cons_succ, List.getD_cons_zero, AV.c.injEq, AC.int.injEq, true_and, and_true, and_self, eq_self])
      rw [hfF]
      all_goals trivial
end Go.Vc.Pc
