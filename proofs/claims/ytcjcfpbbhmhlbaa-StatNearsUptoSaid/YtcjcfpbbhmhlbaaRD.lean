/- The comparison of two distances. -/
import Derived.Test.YtcjcfpbbhmhlbaaVA
import Derived.Test.YtcjcfpbbhmhlbaaRB
set_option linter.unusedVariables false
namespace Go.Vc.Sn
open Go.Proofs Go.IntWalk Go.Vc
theorem and32 (x : Int) (h0 : 0 ≤ x) (h1 : x < 18446744073709551616) : bits .and .u64 x 4294967295 = x % 4294967296 :=
  bits_mask .u64 64 (by decide) (fun n h0 h1 => u64_in n (by omega)) 32 (by decide) x h0 (by omega)
/-- what the four products of halves yield -/
def mulHi (x y : Int) : Int := x * y / 18446744073709551616
def mulLo (x y : Int) : Int := x * y % 18446744073709551616
theorem mul_lt {a b A B : Int} (h0 : 0 ≤ a) (h1 : a ≤ A) (h2 : 0 ≤ b) (h3 : b ≤ B) : 0 ≤ a * b ∧ a * b ≤ A * B :=
  ⟨Int.mul_nonneg h0 h2, Int.mul_le_mul h1 h3 h2 (by omega)⟩
theorem halves_mul (x y : Int) : x * y = x / 4294967296 * (y / 4294967296) * 18446744073709551616 + (x / 4294967296 * (y % 4294967296) + x % 4294967296 * (y / 4294967296)) * 4294967296 + x % 4294967296 * (y % 4294967296) := by
  have ex : x = 4294967296 * (x / 4294967296) + x % 4294967296 := by omega
  have ey : y = 4294967296 * (y / 4294967296) + y % 4294967296 := by omega
  generalize x / 4294967296 = x1 at *
  generalize x % 4294967296 = x0 at *
  generalize y / 4294967296 = y1 at *
  generalize y % 4294967296 = y0 at *
  subst ex ey
  have e : 4294967296 * x1 * (4294967296 * y1) = 4294967296 * 4294967296 * (x1 * y1) := by
    rw [Int.mul_assoc, Int.mul_left_comm x1, ← Int.mul_assoc]
  rw [Int.add_mul, Int.mul_add, Int.mul_add, e, Int.mul_assoc 4294967296 x1 y0, Int.mul_left_comm x0 4294967296 y1]
  omega
theorem mul_parts {x y : Int} (hx : 0 ≤ x ∧ x < 18446744073709551616) (hy : 0 ≤ y ∧ y < 18446744073709551616) :
    (0 ≤ x % 4294967296 * (y % 4294967296) ∧ x % 4294967296 * (y % 4294967296) ≤ 18446744065119617025) ∧ (0 ≤ x / 4294967296 * (y % 4294967296) ∧ x / 4294967296 * (y % 4294967296) ≤ 18446744065119617025) ∧
    (0 ≤ x % 4294967296 * (y / 4294967296) ∧ x % 4294967296 * (y / 4294967296) ≤ 18446744065119617025) ∧ (0 ≤ x / 4294967296 * (y / 4294967296) ∧ x / 4294967296 * (y / 4294967296) ≤ 18446744065119617025) := by
  have b1 : 0 ≤ x % 4294967296 ∧ x % 4294967296 ≤ 4294967295 := by omega
  have b2 : 0 ≤ x / 4294967296 ∧ x / 4294967296 ≤ 4294967295 := by omega
  have b3 : 0 ≤ y % 4294967296 ∧ y % 4294967296 ≤ 4294967295 := by omega
  have b4 : 0 ≤ y / 4294967296 ∧ y / 4294967296 ≤ 4294967295 := by omega
  exact ⟨mul_lt b1.1 b1.2 b3.1 b3.2, mul_lt b2.1 b2.2 b3.1 b3.2, mul_lt b1.1 b1.2 b4.1 b4.2, mul_lt b2.1 b2.2 b4.1 b4.2⟩
/-- a product's order is that of its two halves -/
theorem hilo_lt {p q : Int} (h : p / 18446744073709551616 < q / 18446744073709551616 ∨ (p / 18446744073709551616 = q / 18446744073709551616 ∧ p % 18446744073709551616 < q % 18446744073709551616)) : p < q := by omega
def sgn (a b : Int) : Int := if a < b then -1 else if b < a then 1 else 0
theorem sgn_hilo (p q : Int) : (if sgn (p / 18446744073709551616) (q / 18446744073709551616) = 0 then sgn (p % 18446744073709551616) (q % 18446744073709551616) else sgn (p / 18446744073709551616) (q / 18446744073709551616)) = sgn p q := by
  unfold sgn
  split <;> (repeat' split) <;> omega
/-- fractions with different whole parts -/
theorem fr_lt {a0 a1 b0 b1 : Int} (ha : 0 < a1) (hb : 0 < b1) (h : a0 / a1 < b0 / b1) : a0 * b1 < b0 * a1 := by
  have h1 : a0 < (a0 / a1 + 1) * a1 := Int.lt_ediv_add_one_mul_self a0 ha
  have h2 : b0 / b1 * b1 ≤ b0 := Int.ediv_mul_le b0 (by omega)
  have h3 : (a0 / a1 + 1) * a1 ≤ b0 / b1 * a1 := Int.mul_le_mul_of_nonneg_right (by omega) (by omega)
  have h4 : a0 * b1 < b0 / b1 * a1 * b1 := Int.mul_lt_mul_of_pos_right (by omega) hb
  have h5 : b0 / b1 * b1 * a1 ≤ b0 * a1 := Int.mul_le_mul_of_nonneg_right h2 (by omega)
  have h6 : b0 / b1 * a1 * b1 = b0 / b1 * b1 * a1 := Int.mul_right_comm ..
  omega
/-- fractions with the same whole part -/
theorem fr_same {a0 a1 b0 b1 x : Int} : a0 * b1 - b0 * a1 = (a0 - x * a1) * b1 - (b0 - x * b1) * a1 := by
  rw [Int.sub_mul, Int.sub_mul, Int.mul_right_comm x a1 b1]
  omega
end Go.Vc.Sn
set_option linter.unusedVariables false
set_option linter.unusedSimpArgs false
namespace Go.Vc.Sn
open Go.Proofs Go.IntWalk Go.Vc
set_option maxRecDepth 100000
set_option maxHeartbeats 4000000 in
theorem mul64_spec (x y : Int) (hx : 0 ≤ x ∧ x < 18446744073709551616) (hy : 0 ≤ y ∧ y < 18446744073709551616) :
    ACall Try.prog 42 [.c (.int .u64 x), .c (.int .u64 y)] [] (fun r os => r = .tup [(false, [.int .u64 (mulHi x y)]), (false, [.int .u64 (mulLo x y)])] ∧ os = []) := by
  obtain ⟨⟨a1, a2⟩, ⟨b1, b2⟩, ⟨c1, c2⟩, d1, d2⟩ := mul_parts hx hy
  have hm := halves_mul x y
  have x1 : 0 ≤ x / 4294967296 ∧ x / 4294967296 ≤ 4294967295 := by omega
  have y1 : 0 ≤ y / 4294967296 ∧ y / 4294967296 ≤ 4294967295 := by omega
  (refine ACall.of_body (nt := 51) (rs := [.tmp 4, .tmp 5]) tabOK Try.func42 rfl rfl rfl rfl ?_; simp only [startSt, List.length_cons, List.length_nil, Nat.reduceAdd, Nat.reduceSub, List.replicate_succ, List.replicate_zero, List.cons_append, List.nil_append])
  simp only [VCp, VC_region, VC_seq, VC_ret, aops_nil, aops_cons, put_some, qop, isQuiet, ASt.eval, AV.need, AV.ac, qbin, binInt, isScalar, avOf, acOf, eInt, List.getD_cons_succ, List.getD_cons_zero, List.set_cons_succ, List.set_cons_zero, Int.reduceLE, true_and, and_self, eq_self, tab_80, and32 x hx.1 hx.2, and32 y hy.1 hy.2, shr32]
  generalize hA : x % 4294967296 * (y % 4294967296) = A at *
  generalize hB : x / 4294967296 * (y % 4294967296) = B at *
  generalize hC : x % 4294967296 * (y / 4294967296) = C at *
  generalize hD : x / 4294967296 * (y / 4294967296) = D at *
  simp (disch := omega) only [u64_in, and32]
  (refine RetAt.leaf ?_ ?_ <;> simp only [resOf, tupOf, compOf, ASt.eval, AV.strip, AV.need, AV.map, findIx, AC.ren, List.getD_cons_succ, List.getD_cons_zero, List.map_cons, List.map_nil, and_true, and_self, eq_self])
  have hlo : IntKind.u64.wrap (x * y) = mulLo x y := by
    unfold mulLo
    simp [IntKind.wrap, IntKind.bits, IntKind.signed]
  have hhi : D + (B + A / 4294967296) / 4294967296 + ((B + A / 4294967296) % 4294967296 + C) / 4294967296 = mulHi x y := by
    unfold mulHi
    rw [hm]
    omega
  rw [hlo, hhi]
set_option maxHeartbeats 4000000 in
theorem isNaNu_spec (a : Int) : ACall Try.prog 55 [.c (.int .u64 a)] [] (fun r os => r = .c (.bool false) ∧ os = []) := by
  (refine ACall.of_body (nt := 6) (rs := [.tmp 2]) tabOK Try.func55 rfl rfl rfl rfl ?_; simp only [startSt, List.length_cons, List.length_nil, Nat.reduceAdd, Nat.reduceSub, List.replicate_succ, List.replicate_zero, List.cons_append, List.nil_append])
  simp only [VCp, VC_region, VC_seq, VC_ret, aops_nil, aops_cons, put_some, qop, isQuiet, ASt.eval, AV.need, AV.ac, qbin, binInt, isScalar, avOf, acOf, eInt, List.getD_cons_succ, List.getD_cons_zero, List.set_cons_succ, List.set_cons_zero, true_and, and_self, Bool.not_true, eq_self, decide_true, tab_80]
  (refine RetAt.leaf ?_ ?_ <;> simp only [resOf, tupOf, ASt.eval, AV.strip, AV.need, AV.map, AC.ren, List.getD_cons_succ, List.getD_cons_zero, and_self, eq_self])
set_option maxHeartbeats 4000000 in
theorem cmpU_spec (a b : Int) : ACall Try.prog 44 [.c (.int .u64 a), .c (.int .u64 b)] [] (fun r os => r = .c (.int .i64 (sgn a b)) ∧ os = []) := by
  (refine ACall.of_body (nt := 20) (rs := [.tmp 4]) tabOK Try.func44 rfl rfl rfl rfl ?_; simp only [startSt, List.length_cons, List.length_nil, Nat.reduceAdd, Nat.reduceSub, List.replicate_succ, List.replicate_zero, List.cons_append, List.nil_append])
  simp only [VCp, VC_region, VC_seq, aops_nil, aops_cons, put_some, aop, qop, isQuiet, ASt.eval, ASt.ev, AV.strip, AV.need, AV.isTup, ned, avOf, acOf, List.getD_cons_succ, List.getD_cons_zero, List.set_cons_succ, List.set_cons_zero, List.map_cons, List.map_nil, Int.reduceNeg, true_and, and_self, eq_self]
  refine CallAt.plain (isNaNu_spec a) rfl ?_
  rintro r os ⟨rfl, rfl⟩
  simp only [VC_region, VC_seq, aops_nil, aops_cons, put_some, aop, qop, isQuiet, ASt.eval, ASt.ev, AV.strip, AV.need, AV.isTup, ned, AV.map, AC.ren, giveBack, afterCall, List.getD_cons_succ, List.getD_cons_zero, List.set_cons_succ, List.set_cons_zero, List.map_cons, List.map_nil, List.append_nil, List.length_nil, Int.reduceNeg, true_and, and_self, eq_self]
  refine CallAt.plain (isNaNu_spec b) rfl ?_
  rintro r os ⟨rfl, rfl⟩
  simp only [VC_skip, VC_region, VC_seq, VC_cond, VC_ret, aops_nil, aops_cons, put_some, qop, isQuiet, ASt.eval, AV.need, AV.ac, qbin, binInt, AV.map, isScalar, avOf, acOf, AC.ren, giveBack, afterCall, eInt, List.getD_cons_succ, List.getD_cons_zero, List.set_cons_succ, List.set_cons_zero, List.map_nil, List.append_nil, List.length_nil, Int.reduceNeg, decide_eq_true_eq, decide_eq_false_iff_not, Int.not_lt, true_and, and_self, forall_const, false_implies, Bool.false_eq_true, eq_self, tab_80]
  unfold sgn
  refine ⟨fun h => ?_, fun h => ⟨fun h' => ?_, fun h' => ?_⟩⟩
  · (refine RetAt.leaf ?_ ?_ <;> simp only [resOf, tupOf, ASt.eval, AV.strip, AV.need, AV.map, AC.ren, List.getD_cons_succ, List.getD_cons_zero, Int.reduceNeg, AV.c.injEq, AC.int.injEq, true_and, and_true, and_self, eq_self])
    rw [if_pos (by omega)]
  · (refine RetAt.leaf ?_ ?_ <;> simp only [resOf, tupOf, ASt.eval, AV.strip, AV.need, AV.map, AC.ren, List.getD_cons_succ, List.getD_cons_zero, Int.reduceNeg, AV.c.injEq, AC.int.injEq, true_and, and_true, and_self, eq_self])
    rw [if_neg (by omega), if_pos (by omega)]
  · (refine RetAt.leaf ?_ ?_ <;> simp only [resOf, tupOf, ASt.eval, AV.strip, AV.need, AV.map, AC.ren, List.getD_cons_succ, List.getD_cons_zero, Int.reduceNeg, AV.c.injEq, AC.int.injEq, true_and, and_true, and_self, eq_self])
    rw [if_neg (by omega), if_neg (by omega)]
set_option maxHeartbeats 4000000 in
theorem isNaNi_spec (a : Int) : ACall Try.prog 48 [.c (.int .i64 a)] [] (fun r os => r = .c (.bool false) ∧ os = []) := by
  (refine ACall.of_body (nt := 6) (rs := [.tmp 2]) tabOK Try.func48 rfl rfl rfl rfl ?_; simp only [startSt, List.length_cons, List.length_nil, Nat.reduceAdd, Nat.reduceSub, List.replicate_succ, List.replicate_zero, List.cons_append, List.nil_append])
  simp only [VCp, VC_region, VC_seq, VC_ret, aops_nil, aops_cons, put_some, qop, isQuiet, ASt.eval, AV.need, AV.ac, qbin, binInt, isScalar, avOf, acOf, eInt, List.getD_cons_succ, List.getD_cons_zero, List.set_cons_succ, List.set_cons_zero, true_and, and_self, Bool.not_true, eq_self, decide_true, tab_3]
  (refine RetAt.leaf ?_ ?_ <;> simp only [resOf, tupOf, ASt.eval, AV.strip, AV.need, AV.map, AC.ren, List.getD_cons_succ, List.getD_cons_zero, and_self, eq_self])
set_option maxHeartbeats 4000000 in
theorem cmpI_spec (a b : Int) : ACall Try.prog 32 [.c (.int .i64 a), .c (.int .i64 b)] [] (fun r os => r = .c (.int .i64 (sgn a b)) ∧ os = []) := by
  (refine ACall.of_body (nt := 20) (rs := [.tmp 4]) tabOK Try.func32 rfl rfl rfl rfl ?_; simp only [startSt, List.length_cons, List.length_nil, Nat.reduceAdd, Nat.reduceSub, List.replicate_succ, List.replicate_zero, List.cons_append, List.nil_append])
  simp only [VCp, VC_region, VC_seq, aops_nil, aops_cons, put_some, aop, qop, isQuiet, ASt.eval, ASt.ev, AV.strip, AV.need, AV.isTup, ned, avOf, acOf, List.getD_cons_succ, List.getD_cons_zero, List.set_cons_succ, List.set_cons_zero, List.map_cons, List.map_nil, Int.reduceNeg, true_and, and_self, eq_self]
  refine CallAt.plain (isNaNi_spec a) rfl ?_
  rintro r os ⟨rfl, rfl⟩
  simp only [VC_region, VC_seq, aops_nil, aops_cons, put_some, aop, qop, isQuiet, ASt.eval, ASt.ev, AV.strip, AV.need, AV.isTup, ned, AV.map, AC.ren, giveBack, afterCall, List.getD_cons_succ, List.getD_cons_zero, List.set_cons_succ, List.set_cons_zero, List.map_cons, List.map_nil, List.append_nil, List.length_nil, Int.reduceNeg, true_and, and_self, eq_self]
  refine CallAt.plain (isNaNi_spec b) rfl ?_
  rintro r os ⟨rfl, rfl⟩
  simp only [VC_skip, VC_region, VC_seq, VC_cond, VC_ret, aops_nil, aops_cons, put_some, qop, isQuiet, ASt.eval, AV.need, AV.ac, qbin, binInt, AV.map, isScalar, avOf, acOf, AC.ren, giveBack, afterCall, eInt, List.getD_cons_succ, List.getD_cons_zero, List.set_cons_succ, List.set_cons_zero, List.map_nil, List.append_nil, List.length_nil, Int.reduceNeg, decide_eq_true_eq, decide_eq_false_iff_not, Int.not_lt, true_and, and_self, forall_const, false_implies, Bool.false_eq_true, eq_self, tab_3]
  unfold sgn
  refine ⟨fun h => ?_, fun h => ⟨fun h' => ?_, fun h' => ?_⟩⟩
  · (refine RetAt.leaf ?_ ?_ <;> simp only [resOf, tupOf, ASt.eval, AV.strip, AV.need, AV.map, AC.ren, List.getD_cons_succ, List.getD_cons_zero, Int.reduceNeg, AV.c.injEq, AC.int.injEq, true_and, and_true, and_self, eq_self])
    rw [if_pos (by omega)]
  · (refine RetAt.leaf ?_ ?_ <;> simp only [resOf, tupOf, ASt.eval, AV.strip, AV.need, AV.map, AC.ren, List.getD_cons_succ, List.getD_cons_zero, Int.reduceNeg, AV.c.injEq, AC.int.injEq, true_and, and_true, and_self, eq_self])
    rw [if_neg (by omega), if_pos (by omega)]
  · (refine RetAt.leaf ?_ ?_ <;> simp only [resOf, tupOf, ASt.eval, AV.strip, AV.need, AV.map, AC.ren, List.getD_cons_succ, List.getD_cons_zero, Int.reduceNeg, AV.c.injEq, AC.int.injEq, true_and, and_true, and_self, eq_self])
    rw [if_neg (by omega), if_neg (by omega)]
set_option maxHeartbeats 4000000 in
theorem or_spec (a b : Int) : ACall Try.prog 43 [.c (.rd 1 Int 0 (fun n => [.int .i64 n]) [a, b])] [] (fun r os => r = .c (.int .i64 (if a = 0 then b else a)) ∧ os = []) := by
  (refine ACall.of_body (nt := 18) (rs := [.tmp 2]) tabOK Try.func43 rfl rfl rfl rfl ?_; simp only [startSt, List.length_cons, List.length_nil, Nat.reduceAdd, Nat.reduceSub, List.replicate_succ, List.replicate_zero, List.cons_append, List.nil_append])
  simp only [VCp, VC_region, VC_seq, VC_block, VC_loop, aops_nil, aops_cons, put_some, qop, isQuiet, ASt.eval, AV.need, AV.ac, qlen, avOf, acOf, eInt, eList, List.getD_cons_succ, List.getD_cons_zero, List.set_cons_succ, List.set_cons_zero, List.length_cons, List.length_nil, Int.cast_ofNat_Int, true_and, and_self, Nat.zero_add, Nat.reduceAdd, tab_25]
  refine LoopAt.inv (ι := Nat) (T := tab) (fun i => [(8, .c (.int .i64 i))]) (fun i => []) (fun i => i ≤ 2 ∧ ∀ j, j < i → [a, b].getD j 0 = 0) (fun i => 2 - i) tabOK 0 ⟨by omega, fun j hj => by omega⟩ ?_ ?_
  · (simp only [LessC, headSt, dsts, opDsts, resetS, putsS, lessS, lessO, belowS, belowO, AV.below, AC.below, List.set_cons_succ, List.set_cons_zero, List.cons_append, List.nil_append, List.append_nil, List.length_nil, Int.cast_ofNat_Int, AV.c.injEq, and_self, reduceCtorEq, Bool.and_true, Nat.le_refl, eq_self, or_true, or_false] <;> try omega)
  rintro i ⟨hi, hz⟩
  simp only [VCp, headSt, dsts, opDsts, resetS, putsS, VC_skip, VC_region, VC_seq, VC_cond, VC_block, VC_exit, VC_ret, aops_nil, aops_cons, put_some, qop, isQuiet, ASt.eval, AV.need, AV.ac, qbin, binInt, qindexAddr, qload, DV.ac, ofCells, TI.isAgg, isScalar, avOf, acOf, eInt, eList, List.getD_cons_succ, List.getD_cons_zero, List.set_cons_succ, List.set_cons_zero, List.map_cons, List.map_nil, List.cons_append, List.nil_append, List.append_nil, List.length_cons, List.length_nil, List.take_succ_cons, List.take_nil, List.headD_cons, Int.cast_ofNat_Int, Int.toNat_natCast, decide_eq_true_eq, decide_eq_false_iff_not, Bool.not_eq_true', Int.not_lt, true_and, and_self, not_false_eq_true, if_true, Nat.zero_add, Nat.reduceAdd, Nat.le_refl, eq_self, Nat.succ_ne_self, tab_3, tab_25]
  refine ⟨fun h => ?_, fun h => ?_⟩
  · refine ⟨⟨by omega, by omega⟩, fun hne => ?_, fun he => ?_⟩
    · (refine RetAt.leaf ?_ ?_ <;> simp only [resOf, tupOf, ASt.eval, AV.strip, AV.need, AV.map, AC.ren, List.getD_cons_succ, List.getD_cons_zero, AV.c.injEq, AC.int.injEq, true_and, and_true, and_self, eq_self])
      match i, hi with
      | 0, _ => rw [if_neg (by simpa using hne)]; rfl
      | 1, _ => rw [if_pos (by simpa using hz 0 (by omega))]; rfl
      | 2, _ => omega
    · refine ⟨i + 1, ⟨by omega, fun j hj => ?_⟩, by omega, ?_⟩
      · by_cases e : j = i
        · subst e; simpa using he
        · exact hz j (by omega)
      · (simp only [LessC, lessS, lessO, belowS, belowO, AV.below, AC.below, List.length_nil, Int.cast_ofNat_Int, Int.natCast_add, AV.c.injEq, AC.int.injEq, true_and, and_true, and_self, reduceCtorEq, Bool.and_true, Nat.le_refl, eq_self, or_true, or_false, false_or] <;> try omega)
        exact i64_in _ (by omega)
  · (refine RetAt.leaf ?_ ?_ <;> simp only [resOf, tupOf, ASt.eval, AV.strip, AV.need, AV.map, AC.ren, List.getD_cons_succ, List.getD_cons_zero, AV.c.injEq, AC.int.injEq, true_and, and_true, and_self, eq_self])
    have h0 := hz 0 (by omega)
    have h1 := hz 1 (by omega)
    simp at h0 h1
    rw [if_pos h0, h1]
/-- the order of two distances -/
def frac (x y : F3) : Int := sgn (x.2.1 * y.2.2) (y.2.1 * x.2.2)
set_option maxHeartbeats 4000000 in
theorem compare_spec (a b c d : Int) (ha : 0 ≤ a ∧ a < 9223372036854775808) (hb : 0 ≤ b ∧ b < 9223372036854775808) (hc : 0 ≤ c ∧ c < 9223372036854775808) (hd : 0 ≤ d ∧ d < 9223372036854775808) :
    ACall Try.prog 30 [.c (.int .i64 a), .c (.int .i64 b), .c (.int .i64 c), .c (.int .i64 d)] [] (fun r os => r = .c (.int .i64 (sgn (a * d) (c * b))) ∧ os = []) := by
  (refine ACall.of_body (nt := 37) (rs := [.tmp 8]) tabOK Try.func30 rfl rfl rfl rfl ?_; simp only [startSt, List.length_cons, List.length_nil, Nat.reduceAdd, Nat.reduceSub, List.replicate_succ, List.replicate_zero, List.cons_append, List.nil_append])
  simp only [VCp, VC_region, VC_seq, aops_nil, aops_cons, put_some, aop, qop, isQuiet, ASt.eval, ASt.ev, AV.strip, AV.need, AV.ac, AV.isTup, qconvert, ned, isScalar, avOf, acOf, eInt, List.getD_cons_succ, List.getD_cons_zero, List.set_cons_succ, List.set_cons_zero, List.map_cons, List.map_nil, true_and, and_self, Bool.and_true, eq_self, tab_3, tab_80]
  have u1 : IntKind.u64.wrap a = a := u64_in _ (by omega)
  have u2 : IntKind.u64.wrap b = b := u64_in _ (by omega)
  have u3 : IntKind.u64.wrap c = c := u64_in _ (by omega)
  have u4 : IntKind.u64.wrap d = d := u64_in _ (by omega)
  simp only [u1, u4]
  refine CallAt.plain (mul64_spec a d (by omega) (by omega)) rfl ?_
  rintro r os ⟨rfl, rfl⟩
  simp only [VC_region, VC_seq, aops_nil, aops_cons, put_some, aop, qop, isQuiet, ASt.eval, ASt.ev, AV.strip, AV.need, AV.ac, AV.isTup, qconvert, qextract, ned, AV.map, isScalar, AC.ren, giveBack, afterCall, eInt, List.getD_cons_succ, List.getD_cons_zero, List.set_cons_succ, List.set_cons_zero, List.map_cons, List.map_nil, List.append_nil, List.length_cons, List.length_nil, List.headD_cons, List.getElem?_cons_succ, List.getElem?_cons_zero, true_and, and_self, Bool.and_true, Nat.zero_add, eq_self, tab_3, tab_80, u2, u3]
  refine CallAt.plain (mul64_spec c b (by omega) (by omega)) rfl ?_
  rintro r os ⟨rfl, rfl⟩
  simp only [VC_region, VC_seq, aops_nil, aops_cons, put_some, aop, qop, isQuiet, ASt.eval, ASt.ev, AV.strip, AV.need, AV.isTup, qextract, ned, AV.map, AC.ren, giveBack, afterCall, List.getD_cons_succ, List.getD_cons_zero, List.set_cons_succ, List.set_cons_zero, List.map_cons, List.map_nil, List.append_nil, List.length_cons, List.length_nil, List.headD_cons, List.getElem?_cons_succ, List.getElem?_cons_zero, true_and, and_self, Nat.zero_add, eq_self]
  refine CallAt.plain (cmpU_spec _ _) rfl ?_
  rintro r os ⟨rfl, rfl⟩
  simp only [aops_cons, put_some, aop, qop, isQuiet, ASt.eval, ASt.ev, AV.strip, AV.need, AV.isTup, ned, AV.map, AC.ren, giveBack, afterCall, List.getD_cons_succ, List.getD_cons_zero, List.set_cons_succ, List.set_cons_zero, List.map_cons, List.map_nil, List.append_nil, List.length_nil, true_and, and_self, eq_self]
  refine CallAt.plain (cmpU_spec _ _) rfl ?_
  rintro r os ⟨rfl, rfl⟩
  simp only [ownPart, aops_cons, put_some, aop, isQuiet, ASt.eval, ASt.ev, AV.strip, AV.need, AV.cells, AV.isTup, needAll, ned, partsOf, fitAll, AC.fits, abuildSlice, elems, setPart, newObj, frzRefs, AV.map, dvs, AC.dv, leD, leD1, avOf, acOf, AC.ren, giveBack, afterCall, eInt, eList, List.getD_cons_succ, List.getD_cons_zero, List.set_cons_succ, List.set_cons_zero, List.map_cons, List.map_nil, List.replicate_succ, List.replicate_zero, List.cons_append, List.nil_append, List.append_nil, List.length_cons, List.length_nil, List.all_cons, List.all_nil, List.flatMap_cons, List.flatMap_nil, Nat.reduceLT, DV.int.injEq, exists_eq_left', true_and, and_true, and_self, not_false_eq_true, Bool.and_true, Nat.zero_add, Nat.reduceAdd, Nat.reduceMul, Nat.reduceLeDiff, eq_self, Nat.succ_ne_self, tab_3, tab_25]
  refine CallAt.freeze 0 ?_
  simp only [ASt.setObj, ASt.obj, ASt.map, ASt.freeze, AV.map, AObj.map, AC.frz, frzF, List.getD_cons_zero, List.set_cons_zero, List.map_cons, List.map_nil, cond_true, beq_self_eq_true]
  refine CallAt.plain (or_spec _ _) rfl ?_
  rintro r os ⟨rfl, rfl⟩
  simp only [VC_ret, aops_nil, aops_cons, put_some, qop, isQuiet, ASt.eval, AV.need, AV.map, AC.ren, giveBack, afterCall, List.getD_cons_succ, List.getD_cons_zero, List.set_cons_succ, List.set_cons_zero, List.map_nil, List.append_nil, List.length_cons, List.length_nil, true_and, Nat.zero_add]
  (refine RetAt.leaf ?_ ?_ <;> simp only [resOf, tupOf, ASt.eval, AV.strip, AV.need, AV.map, AC.ren, List.getD_cons_succ, List.getD_cons_zero, AV.c.injEq, AC.int.injEq, true_and, and_true, and_self, eq_self])
  exact sgn_hilo _ _
set_option maxHeartbeats 4000000 in
theorem far_spec (x y : F3) (hx : 0 ≤ x.2.1 ∧ x.2.1 < 9223372036854775808) (hx2 : 0 ≤ x.2.2 ∧ x.2.2 < 9223372036854775808) (hy : 0 ≤ y.2.1 ∧ y.2.1 < 9223372036854775808) (hy2 : 0 ≤ y.2.2 ∧ y.2.2 < 9223372036854775808) :
    ACall Try.prog 29 [.agg [.int .i64 x.1, .int .i64 x.2.1, .int .i64 x.2.2], .agg [.int .i64 y.1, .int .i64 y.2.1, .int .i64 y.2.2]] [] (fun r os => r = .c (.int .i64 (frac x y)) ∧ os = []) := by
  (refine ACall.of_body (nt := 14) (rs := [.tmp 4]) tabOK Try.func29 rfl rfl rfl rfl ?_; simp only [startSt, List.length_cons, List.length_nil, Nat.reduceAdd, Nat.reduceSub, List.replicate_succ, List.replicate_zero, List.cons_append, List.nil_append])
  simp only [VCp, VC_region, VC_seq, aops_nil, aops_cons, put_some, aop, qop, isQuiet, ASt.eval, ASt.ev, AV.strip, AV.need, AV.ac, AV.cells, AV.isTup, qfieldAddr, qload, ned, AC.fits, newObj, ASt.obj, ofCells, TI.isAgg, avOf, acOf, eInt, ePair, List.getD_cons_succ, List.getD_cons_zero, List.set_cons_succ, List.set_cons_zero, List.map_cons, List.map_nil, List.cons_append, List.nil_append, List.length_cons, List.length_nil, List.drop_succ_cons, List.drop_zero, List.take_succ_cons, List.take_zero, List.take_nil, List.headD_cons, List.all_cons, List.all_nil, List.getElem?_cons_succ, List.getElem?_cons_zero, true_and, and_self, not_false_eq_true, Bool.and_true, Nat.zero_add, Nat.reduceAdd, Nat.reduceLeDiff, Nat.le_refl, eq_self, Nat.succ_ne_self, tab_3, tab_64]
  refine CallAt.plain (compare_spec x.2.1 x.2.2 y.2.1 y.2.2 hx hx2 hy hy2) rfl ?_
  rintro r os ⟨rfl, rfl⟩
  simp only [VC_ret, aops_nil, aops_cons, put_some, qop, isQuiet, ASt.eval, AV.need, AV.map, AC.ren, giveBack, afterCall, List.getD_cons_succ, List.getD_cons_zero, List.set_cons_succ, List.set_cons_zero, List.map_nil, List.append_nil, List.length_cons, List.length_nil, true_and, Nat.zero_add, Nat.reduceAdd]
  (refine RetAt.leaf ?_ ?_ <;> simp only [resOf, tupOf, ASt.eval, AV.strip, AV.need, AV.map, AC.ren, List.getD_cons_succ, List.getD_cons_zero, AV.c.injEq, AC.int.injEq, true_and, and_true, and_self, eq_self])
  rfl
end Go.Vc.Sn
