/- A merge in place: both sides are longer than one. Printed by a program of this claim's author. -/
import Derived.Test.YtcjcfpbbhmhlbaaRG
set_option linter.unusedVariables false
set_option linter.unusedSimpArgs false
namespace Go.Vc.Sn
open Go.Proofs Go.IntWalk Go.Vc
set_option maxRecDepth 100000
/-- what a merge in place does -/
def Merged (R : F3 → F3 → Prop) (p l r q : List F3) (rr : AV) (os : List AObj) : Prop := rr = .tup [] ∧ ∃ s : List F3, os = [rowF (p ++ (s ++ q))] ∧ s.Perm (l ++ r) ∧ Srt R s
def MergeAt (R : F3 → F3 → Prop) (N : Nat) : Prop := ∀ (p l r q : List F3) (a m b : Nat), l.length + r.length < N → p.length + l.length + r.length + q.length ≤ 140737488355328 → a = p.length → m = p.length + l.length → b = p.length + l.length + r.length →
  0 < l.length → 0 < r.length → (∀ x ∈ l, Gd x) → (∀ x ∈ r, Gd x) → Srt R l → Srt R r → Cross R cF l r →
  ACall Try.prog 54 [.c (.sl 0), .c (.int .i64 a), .c (.int .i64 m), .c (.int .i64 b), .c (.fn 29 [])] [rowF (p ++ (l ++ (r ++ q)))] (Merged R p l r q)
theorem wadd {a b c : Nat} (h : c = a + b) (hc : c ≤ 1125899906842624) : IntKind.i64.wrap ((a : Int) + (b : Int)) = (c : Int) := by rw [i64_in _ (by omega)]; omega
theorem wsub {a b c : Nat} (h : a = b + c) (ha : a ≤ 1125899906842624) : IntKind.i64.wrap ((a : Int) - (b : Int)) = (c : Int) := by rw [i64_in _ (by omega)]; omega
theorem wsub1 {a c : Nat} (h : a = c + 1) (ha : a ≤ 1125899906842624) : IntKind.i64.wrap ((a : Int) - 1) = (c : Int) := by rw [i64_in _ (by omega)]; omega
theorem wmid {a b c : Nat} (h : c = (a + b) / 2) (ha : a + b ≤ 1125899906842624) : IntKind.i64.wrap ((a : Int) + (b : Int)) = (a : Int) + (b : Int) ∧ IntKind.u64.wrap ((a : Int) + (b : Int)) = (a : Int) + (b : Int) ∧ IntKind.i64.wrap (((a : Int) + (b : Int)) / 2) = (c : Int) :=
  ⟨i64_in _ (by omega), u64_in _ (by omega), by rw [i64_in _ (by omega)]; omega⟩
theorem mid_in {P m b D : Nat} (hD : D = (P + b) / 2) (h1 : P + 1 < m) (h2 : m + 1 < b) : P < D ∧ D < b := by omega
theorem ar_a {P m b D Nn S0 T0 : Nat} (hD : D = (P + b) / 2) (h1 : P + 1 < m) (h2 : m + 1 < b) (hN : Nn = D + m) (hc : D < m) (hS : S0 = Nn - b) (hT : T0 = D) :
    S0 ≤ T0 ∧ P ≤ S0 ∧ T0 ≤ m ∧ T0 ≤ D ∧ Nn ≤ S0 + b ∧ (S0 = P ∨ S0 + b = Nn) ∧ (T0 = D ∨ T0 = m) ∧ Nn = b + S0 := ⟨by omega, by omega, by omega, by omega, by omega, .inr (by omega), .inl hT, by omega⟩
theorem ar_b {P m b D Nn S0 T0 : Nat} (hD : D = (P + b) / 2) (h1 : P + 1 < m) (h2 : m + 1 < b) (hN : Nn = D + m) (hc : m ≤ D) (hS : S0 = P) (hT : T0 = m) :
    S0 ≤ T0 ∧ P ≤ S0 ∧ T0 ≤ m ∧ T0 ≤ D ∧ Nn ≤ S0 + b ∧ (S0 = P ∨ S0 + b = Nn) ∧ (T0 = D ∨ T0 = m) ∧ True := ⟨by omega, by omega, by omega, by omega, by omega, .inl hS, .inr hT, trivial⟩
theorem half_in {S T H : Nat} (h : H = (S + T) / 2) (hst : S ≤ T) : H ≤ T ∧ S ≤ H ∧ (S < T → H < T) := by omega
theorem lp1 {P L Z m b D Nn Pp S0 T0 S T H K : Nat} (B1 : m = P + L) (B2 : b = m + Z) (hN : Nn = D + m) (hP : Pp = Nn - 1) (hm : 0 < m) (f2 : P ≤ S0) (f3 : T0 ≤ m) (f4 : T0 ≤ D) (f5 : Nn ≤ S0 + b) (g2 : S0 ≤ S) (g3 : T ≤ T0) (hh0 : S ≤ H) (hHT : H < T) (hK : K = Pp - H) :
    Pp = H + K ∧ H - P < L ∧ K - m < Z ∧ H = P + (H - P) ∧ K = m + (K - m) ∧ H + 1 - 1 - P = H - P ∧ Nn - (H + 1) - m = K - m ∧ Nn - 1 - H - m = K - m ∧ H < b ∧ K < b ∧ P ≤ H ∧ m ≤ K ∧ H ≤ T0 ∧ H + 1 ≤ T :=
  ⟨by omega, by omega, by omega, by omega, by omega, by omega, by omega, by omega, by omega, by omega, by omega, by omega, by omega, by omega⟩
theorem lp2 {P L Z m b D Nn S0 T0 S : Nat} (B1 : m = P + L) (B2 : b = m + Z) (hN : Nn = D + m) (f2 : P ≤ S0) (f3 : T0 ≤ m) (f4 : T0 ≤ D) (f5 : Nn ≤ S0 + b) (g2 : S0 ≤ S) (g3 : S ≤ T0) :
    (S = S0 → S0 = P → S - P = 0) ∧ (S = S0 → S0 + b = Nn → Z ≤ D - S) ∧ (S ≠ S0 → S - 1 - P < L ∧ Nn - S - m < Z ∧ S - 1 - P + 1 = S - P ∧ Nn - S - m = D - S) ∧
    (S = T0 → T0 = D → D - S = 0) ∧ (S = T0 → T0 = m → L ≤ S - P) ∧ (S ≠ T0 → Nn - 1 - S - m < Z ∧ S - P < L ∧ Nn - 1 - S - m + 1 = D - S) ∧ Nn = S + (Nn - S) ∧ Nn - S = D + m - S :=
  ⟨fun _ _ => by omega, fun _ _ => by omega, fun _ => ⟨by omega, by omega, by omega, by omega⟩, fun _ _ => by omega, fun _ _ => by omega, fun _ => ⟨by omega, by omega, by omega⟩, by omega, by omega⟩
theorem lp3 {P L Z m b D Nn S0 T0 S E : Nat} (B1 : m = P + L) (B2 : b = m + Z) (B4 : P < D) (B5 : D < b) (hN : Nn = D + m) (f2 : P ≤ S0) (f3 : T0 ≤ m) (f4 : T0 ≤ D) (f5 : Nn ≤ S0 + b) (g2 : S0 ≤ S) (g3 : S ≤ T0) (hE : E = D + m - S) :
    P ≤ S ∧ S ≤ m ∧ S ≤ D ∧ m ≤ E ∧ E ≤ b ∧ D ≤ E ∧ min (S - P) L = S - P ∧ L - (S - P) = m - S ∧ min (D - S) Z = D - S ∧ Z - (D - S) = b - E ∧ (¬ S < m → L ≤ S - P) ∧ (¬ E < b → Z ≤ D - S) ∧ (¬ S < D → D - S = 0) ∧ (¬ P < S → S - P = 0) :=
  ⟨by omega, by omega, by omega, by omega, by omega, by omega, by omega, by omega, by omega, by omega, fun _ => by omega, fun _ => by omega, fun _ => by omega, fun _ => by omega⟩
theorem mem_left {l : List F3} {k : Nat} {P : F3 → Prop} (h : ∀ x ∈ l, P x) : ∀ x ∈ l.take k, P x := fun x hx => h x (List.mem_of_mem_take hx)
theorem mem_right {l : List F3} {k : Nat} {P : F3 → Prop} (h : ∀ x ∈ l, P x) : ∀ x ∈ l.drop k, P x := fun x hx => h x (List.mem_of_mem_drop hx)
set_option maxHeartbeats 64000000 in
theorem sym3a_spec {R : F3 → F3 → Prop} (tr : ∀ {x y w : F3}, R x y → R y w → R x w) (p l r q : List F3) (m b D Nn Pp S0 T0 : Nat) (hl : p.length + l.length + r.length + q.length ≤ 140737488355328) (hm : m = p.length + l.length) (hb : b = p.length + l.length + r.length) (hl1 : 1 < l.length) (hr1 : 1 < r.length)
    (hD : D = (p.length + b) / 2) (hN : Nn = D + m) (hP : Pp = Nn - 1) (hcase : D < m) (hS0 : S0 = Nn - b) (hT0 : T0 = D)
    (hgl : ∀ x ∈ l, Gd x) (hgr : ∀ x ∈ r, Gd x) (hsl : Srt R l) (hsr : Srt R r) (hc : Cross R cF l r) (ih : MergeAt R (l.length + r.length)) :
    ACall Try.prog 54 [.c (.sl 0), .c (.int .i64 p.length), .c (.int .i64 m), .c (.int .i64 b), .c (.fn 29 [])] [rowF (p ++ (l ++ (r ++ q)))] (Merged R p l r q) := by
  have B1 : m = p.length + l.length := hm
  have B2 : b = m + r.length := by omega
  have B3 : b ≤ 140737488355328 := by omega
  obtain ⟨B4, B5⟩ := mid_in hD (by omega) (show m + 1 < b by omega)
  have B6 : Nn ≤ 281474976710656 := by omega
  obtain ⟨f1, f2, f3, f4, f5, f6, f7, f8⟩ := ar_a hD (by omega) (by omega) hN hcase hS0 hT0
  have ec :  ((D : Int) < (m : Int)) := by omega
  obtain ⟨wb1, wb2, wb3⟩ := wmid hD (by omega)
  clear hD hcase
  have w0 : IntKind.i64.wrap ((m : Int) - (p.length : Int)) = (l.length : Int) := wsub B1 (by omega)
  have w00 : IntKind.i64.wrap ((b : Int) - (m : Int)) = (r.length : Int) := wsub B2 (by omega)
  have e0 : ¬ ((l.length : Int) = 1) := by omega
  have e00 : ¬ ((r.length : Int) = 1) := by omega
  have wn : IntKind.i64.wrap ((D : Int) + (m : Int)) = (Nn : Int) := wadd hN (by omega)
  have wp : IntKind.i64.wrap ((Nn : Int) - 1) = (Pp : Int) := wsub1 (by omega) (by omega)
  have wS : IntKind.i64.wrap ((Nn : Int) - (b : Int)) = (S0 : Int) := wsub f8 (by omega)
  have hxl : (p ++ (l ++ (r ++ q))).length = p.length + l.length + r.length + q.length := by simp only [List.length_append]; omega
  (refine ACall.of_body (nt := 220) (rs := []) tabOK Try.func54 rfl rfl rfl rfl ?_; simp only [startSt, List.length_cons, List.length_nil, Nat.reduceAdd, Nat.reduceSub, List.replicate_succ, List.replicate_zero, List.cons_append, List.nil_append])
  simp only [VCp, VC_skip, VC_region, VC_seq, VC_cond, VC_block, VC_loop, aops_nil, aops_cons, put_some, qop, isQuiet, ASt.eval, AV.need, AV.ac, qbin, binInt, qconvert, isScalar, avOf, acOf, eInt, List.getD_cons_succ, List.getD_cons_zero, List.set_cons_succ, List.set_cons_zero, Int.reduceLE, true_and, and_true, and_self, forall_const, false_implies, Bool.and_true, Bool.false_eq_true, Bool.true_eq_false, eq_self, decide_true, decide_false, tab_3, tab_94, w0, w00, e0, e00, wb1, wb2, wb3, wn, wp, ec, shr1, wS]
  refine LoopAt.inv (ι := Nat × Nat) (T := tab) (fun s => [(20, .c (.int .i64 s.1)), (21, .c (.int .i64 s.2))]) (fun s => [rowF (p ++ (l ++ (r ++ q)))])
    (fun s => s.1 ≤ s.2 ∧ S0 ≤ s.1 ∧ s.2 ≤ T0 ∧ (s.1 = S0 ∨ R (l.getD (s.1 - 1 - p.length) (0, 0, 0)) (r.getD (Nn - s.1 - m) (0, 0, 0))) ∧ (s.2 = T0 ∨ R (r.getD (Nn - 1 - s.2 - m) (0, 0, 0)) (l.getD (s.2 - p.length) (0, 0, 0)))) (fun s => s.2 - s.1) tabOK (S0, T0) ⟨f1, Nat.le_refl _, Nat.le_refl _, .inl rfl, .inl rfl⟩ ?_ ?_
  · simp only [hS0, hT0]
    (simp only [LessC, headSt, dsts, opDsts, resetS, putsS, lessS, lessO, belowS, belowO, AV.below, AObj.below, AC.below, List.set_cons_succ, List.set_cons_zero, List.cons_append, List.nil_append, List.append_nil, List.length_cons, List.length_nil, List.all_nil, Nat.reduceLT, AV.c.injEq, and_self, reduceCtorEq, Bool.and_true, Nat.zero_add, Nat.le_refl, eq_self, decide_true, or_true] <;> try omega)
  rintro ⟨S, T⟩ ⟨g1, g2, g3, g4, g5⟩
  simp only at g1 g2 g3 g4 g5
  obtain ⟨H, hH⟩ : ∃ H, H = (S + T) / 2 := ⟨_, rfl⟩
  obtain ⟨w1, w2, w3⟩ := wmid hH (by omega)
  obtain ⟨hh, hh0, hh1⟩ := half_in hH g1
  clear hH
  obtain ⟨K, hK⟩ : ∃ K, K = Pp - H := ⟨_, rfl⟩
  have hK2 : K = Nn - 1 - H := by omega
  simp only [VCp, headSt, dsts, opDsts, resetS, putsS, VC_skip, VC_region, VC_draw, VC_seq, VC_cond, VC_block, VC_exit, aops_nil, aops_cons, put_some, aop, qop, isQuiet, ASt.eval, ASt.ev, AV.strip, AV.need, AV.ac, AV.isTup, onG, guardOf, qbin, binInt, qpick, qpick0, qconvert, ned, isScalar, avOf, acOf, eInt, List.getD_cons_succ, List.getD_cons_zero, List.set_cons_succ, List.set_cons_zero, List.map_cons, List.map_nil, List.cons_append, List.nil_append, List.append_nil, List.getElem?_cons_succ, List.getElem?_cons_zero, Option.bind_some, Int.reduceLE, implies_true, imp_self, beq_true, decide_eq_true_eq, decide_eq_false_iff_not, Bool.cond_false_right, Bool.and_eq_true, Bool.and_eq_false_iff, Int.not_lt, true_and, and_self, Bool.and_true, Bool.true_and, if_true, eq_self, tab_3, tab_94, w1, w2, w3, shr1]
  refine ⟨fun hlt => ?_, fun hge => ?_⟩
  · have hHT := hh1 (by omega)
    obtain ⟨L1, hhl, hkl, L4, L5, i1, i2, i3, L9, L10, L11, L12, L13, L14⟩ := lp1 B1 B2 hN hP (by omega) f2 f3 f4 f5 g2 g3 hh0 hHT hK
    have w4 : IntKind.i64.wrap ((Pp : Int) - (H : Int)) = (K : Int) := wsub L1 (by omega)
    have q1 : (p ++ (l ++ (r ++ q))).getD H (0, 0, 0) = l.getD (H - p.length) (0, 0, 0) := get_mid (A := p ++ l.take (H - p.length)) (C := l.drop (H - p.length + 1) ++ (r ++ q)) (by
      conv => lhs; rw [split_at (0, 0, 0) l hhl]
      simp) (by rw [List.length_append, List.length_take, Nat.min_eq_left (Nat.le_of_lt hhl)]; exact L4)
    have q2 : (p ++ (l ++ (r ++ q))).getD K (0, 0, 0) = r.getD (K - m) (0, 0, 0) := get_mid (A := p ++ l ++ r.take (K - m)) (C := r.drop (K - m + 1) ++ q) (by
      conv => lhs; rw [split_at (0, 0, 0) r hkl]
      simp) (by rw [List.length_append, List.length_append, List.length_take, Nat.min_eq_left (Nat.le_of_lt hkl), ← B1]; exact L5)
    have hxm := mem_get hhl
    have hym := mem_get hkl
    have hxg := hgl _ hxm
    have hyg := hgr _ hym
    have hyc := hc _ hxm _ hym
    have k1 : R (l.getD (H - p.length) (0, 0, 0)) (r.getD (K - m) (0, 0, 0)) → R (l.getD (H + 1 - 1 - p.length) (0, 0, 0)) (r.getD (Nn - (H + 1) - m) (0, 0, 0)) := fun h => by rw [i1, i2]; exact h
    have k2 : R (r.getD (K - m) (0, 0, 0)) (l.getD (H - p.length) (0, 0, 0)) → R (r.getD (Nn - 1 - H - m) (0, 0, 0)) (l.getD (H - p.length) (0, 0, 0)) := fun h => by rw [i3]; exact h
    have kk : H < (p ++ (l ++ (r ++ q))).length ∧ K < (p ++ (l ++ (r ++ q))).length := by rw [hxl]; exact ⟨by omega, by omega⟩
    refine DrawAt.plan tabOK mixed (.take 0 true (.take 1 false (.take 2 false (.take 3 false (.take 4 false (.take 5 false (.take 6 true (.take 7 false (.take 8 false (.take 9 false (.take 10 true (.alt 11 (.take 12 true (.take 13 true .done)) .stop)))))))))))) (by decide +kernel) ?_
    simp only [avc_stop, avc_take, avc_alt, qstep, lstep, ownLoad, put_n0, put_some, aop, qop, isQuiet, ASt.eval, ASt.ev, AV.strip, AV.need, AV.ac, AV.isTup, qbin, binInt, qindexAddr, qload, ned, ASt.obj, DV.ac, ofCells, TI.isAgg, isScalar, eInt, eList, ePair, List.getD_cons_succ, List.getD_cons_zero, List.set_cons_succ, List.set_cons_zero, List.map_cons, List.map_nil, List.cons_append, List.nil_append, List.append_nil, List.length_append, List.drop_zero, List.take_succ_cons, List.take_nil, List.getElem?_cons_succ, List.getElem?_cons_zero, Int.natCast_add, Int.toNat_natCast, true_and, and_true, and_self, reduceCtorEq, not_false_eq_true, Bool.false_eq_true, Bool.true_eq_false, Nat.zero_add, Nat.le_refl, eq_self, or_true, or_false, tab_3, tab_62, tab_64, w4, q1, q2]
    refine ⟨⟨by omega, by omega⟩, by omega, ⟨by omega, by omega⟩, by omega, ?_⟩
    refine CallAt.plain (cmpF_spec hyg hxg) rfl ?_
    rintro rr os ⟨rfl, rfl⟩
    by_cases hf : frac (r.getD (K - m) (0, 0, 0)) (l.getD (H - p.length) (0, 0, 0)) < 0
    · have e2 : (frac (r.getD (K - m) (0, 0, 0)) (l.getD (H - p.length) (0, 0, 0)) < 0) = True := eq_true hf
      simp only [avc_done, avc_take, qstep, ownLoad, VC_region, VC_cond, aops_nil, aops_cons, put_some, qop, isQuiet, ASt.eval, AV.need, AV.ac, qbin, binInt, qun, AV.map, isScalar, avOf, acOf, AC.ren, giveBack, afterCall, eInt, List.getD_cons_succ, List.getD_cons_zero, List.set_cons_succ, List.set_cons_zero, List.map_nil, List.append_nil, List.length_cons, List.length_nil, List.getElem?_cons_succ, List.getElem?_cons_zero, true_and, and_self, forall_const, false_implies, Bool.false_eq_true, Bool.not_true, Nat.zero_add, eq_self, decide_true, or_true, tab_3, hf]
      refine ⟨(S, H), ⟨hh0, g2, L13, g4, .inr (k2 (hyc.1 (decide_eq_true hf)))⟩, by simp only []; omega, ?_⟩
      (simp only [LessC, lessS, lessO, belowS, belowO, AV.below, AObj.below, AC.below, List.length_cons, List.length_nil, List.all_nil, Nat.reduceLT, AV.c.injEq, and_self, reduceCtorEq, Bool.and_true, Nat.zero_add, Nat.le_refl, eq_self, decide_true, or_true, or_false] <;> try omega)
    · have e2 : (frac (r.getD (K - m) (0, 0, 0)) (l.getD (H - p.length) (0, 0, 0)) < 0) = False := eq_false hf
      simp only [avc_done, avc_take, qstep, ownLoad, VC_region, VC_cond, aops_nil, aops_cons, put_some, qop, isQuiet, ASt.eval, AV.need, AV.ac, qbin, binInt, qun, AV.map, isScalar, avOf, acOf, AC.ren, giveBack, afterCall, eInt, List.getD_cons_succ, List.getD_cons_zero, List.set_cons_succ, List.set_cons_zero, List.map_nil, List.append_nil, List.length_cons, List.length_nil, List.getElem?_cons_succ, List.getElem?_cons_zero, true_and, and_true, and_self, forall_const, false_implies, Bool.true_eq_false, Bool.not_false, Nat.zero_add, eq_self, decide_false, or_true, tab_3, hf]
      refine ⟨(H + 1, T), ⟨L14, Nat.le_trans g2 (Nat.le_succ_of_le hh0), g3, .inr (k1 (hyc.2 (decide_eq_false hf))), g5⟩, by simp only []; omega, ?_⟩
      (simp only [LessC, lessS, lessO, belowS, belowO, AV.below, AObj.below, AC.below, List.length_cons, List.length_nil, List.all_nil, Nat.reduceLT, Int.cast_ofNat_Int, Int.natCast_add, AV.c.injEq, AC.int.injEq, true_and, and_true, and_self, reduceCtorEq, Bool.and_true, Nat.zero_add, Nat.le_refl, eq_self, decide_true, or_true, or_false, false_or] <;> try omega)
      all_goals exact i64_in _ (by omega)
  · have hST : S = T := by omega
    subst hST
    obtain ⟨P1, P2, P3, P4, P5, P6, P7, P8⟩ := lp2 B1 B2 hN f2 f3 f4 f5 g2 g3
    have H1 : ∀ x ∈ l.take (S - p.length), ∀ y ∈ r.drop (D - S), R x y := by
      by_cases e : S = S0
      · rcases f6 with f6 | f6
        · rw [P1 e f6]
          intro x hx
          simp at hx
        · rw [List.drop_of_length_le (P2 e f6)]
          intro x hx y hy
          cases hy
      · obtain ⟨u1, u2, u3, u4⟩ := P3 e
        have h := low_part (R := R) tr (0, 0, 0) hsl hsr u1 u2 (g4.resolve_left e)
        rw [u3, u4] at h
        exact h
    have H2 : ∀ y ∈ r.take (D - S), ∀ x ∈ l.drop (S - p.length), R y x := by
      by_cases e : S = T0
      · rcases f7 with f7 | f7
        · rw [P4 e f7]
          intro x hx
          simp at hx
        · rw [List.drop_of_length_le (P5 e f7)]
          intro x hx y hy
          cases hy
      · obtain ⟨u1, u2, u3⟩ := P6 e
        have h := low_part (R := R) tr (0, 0, 0) hsr hsl u1 u2 (g5.resolve_left e)
        rw [u3] at h
        exact h
    obtain ⟨E, hE0⟩ : ∃ E, E = Nn - S := ⟨_, rfl⟩
    rw [← hE0] at P7 P8
    have wE : IntKind.i64.wrap ((Nn : Int) - (S : Int)) = (E : Int) := wsub P7 (by omega)
    obtain ⟨A1, A2, A3, A5, A6, A7, M1, M2, M3, M4, N1, N2, N3, N4⟩ := lp3 B1 B2 B4 B5 hN f2 f3 f4 f5 g2 g3 P8
    have hE : E + S = D + m := by omega
    have A10 : l.length + r.length + p.length = b := by omega
    have A11 : b + q.length ≤ 140737488355328 := by omega
    have fin := fun (s1 s2 : List F3) (p1 : s1.Perm (l.take (S - p.length) ++ r.take (D - S))) (p2 : s2.Perm (l.drop (S - p.length) ++ r.drop (D - S))) (q1 : Srt R s1) (q2 : Srt R s2) => halves (S - p.length) (D - S) hsl hsr H1 H2 p1 p2 q1 q2
    clear H1 H2 g4 g5 f6 f7 P1 P2 P3 P4 P5 P6
    have n1 : (l.take (S - p.length)).length = S - p.length := by rw [List.length_take]; exact M1
    have n2 : (l.drop (S - p.length)).length = m - S := by rw [List.length_drop]; exact M2
    have n3 : (r.take (D - S)).length = D - S := by rw [List.length_take]; exact M3
    have n4 : (r.drop (D - S)).length = b - E := by rw [List.length_drop]; exact M4
    have hflat : ¬ (S < m ∧ S < D) → p ++ (l ++ (r ++ q)) = p ++ (l.take (S - p.length) ++ (r.take (D - S) ++ (l.drop (S - p.length) ++ (r.drop (D - S) ++ q)))) := fun h => by
      by_cases hS : S < m
      · have z : D - S = 0 := N3 (fun h' => h ⟨hS, h'⟩)
        rw [z]
        simp only [List.take_zero, List.drop_zero, List.nil_append]
        rw [← List.append_assoc (l.take _), List.take_append_drop]
      · have z : l.length ≤ S - p.length := N1 hS
        rw [List.take_of_length_le z, List.drop_of_length_le z]
        simp only [List.nil_append]
        rw [← List.append_assoc (r.take _), List.take_append_drop]
    have hcut : p ++ (l ++ (r ++ q)) = (p ++ l.take (S - p.length)) ++ (l.drop (S - p.length) ++ (r.take (D - S) ++ (r.drop (D - S) ++ q))) := by
      rw [← List.append_assoc (r.take _), List.take_append_drop, List.append_assoc, ← List.append_assoc (l.take _), List.take_append_drop]
    have z1 : ¬ (p.length < S ∧ S < D) → Srt R (l.take (S - p.length) ++ r.take (D - S)) := fun h => by
      by_cases hS : S < D
      · rw [N4 (fun h' => h ⟨h', hS⟩), List.take_zero, List.nil_append]
        exact srt_take hsr _
      · rw [N3 hS, List.take_zero, List.append_nil]
        exact srt_take hsl _
    have z2 : ¬ (S < m ∧ E < b) → Srt R (l.drop (S - p.length) ++ r.drop (D - S)) := fun h => by
      by_cases hS : S < m
      · rw [List.drop_of_length_le (N2 (fun h' => h ⟨hS, h'⟩)), List.append_nil]
        exact srt_drop hsl _
      · rw [List.drop_of_length_le (N1 hS), List.nil_append]
        exact srt_drop hsr _
    have cc1 := hc.sub (l' := l.take (S - p.length)) (r' := r.take (D - S)) (fun x hx => List.mem_of_mem_take hx) (fun x hx => List.mem_of_mem_take hx)
    have cc2 := hc.sub (l' := l.drop (S - p.length)) (r' := r.drop (D - S)) (fun x hx => List.mem_of_mem_drop hx) (fun x hx => List.mem_of_mem_drop hx)
    have G1 := mem_left (k := S - p.length) hgl
    have G2 := mem_right (k := S - p.length) hgl
    have G3 := mem_left (k := D - S) hgr
    have G4 := mem_right (k := D - S) hgr
    have V1 := srt_take hsl (S - p.length)
    have V2 := srt_drop hsl (S - p.length)
    have V3 := srt_take hsr (D - S)
    have V4 := srt_drop hsr (D - S)
    generalize l.take (S - p.length) = l1 at *
    generalize l.drop (S - p.length) = l2 at *
    generalize r.take (D - S) = r1 at *
    generalize r.drop (D - S) = r2 at *
    have A8 := B4
    have A9 := B5
    clear w0 w00 e0 e00 wb1 wb2 wb3 wn wp ec w1 w2 w3 hh hh0 hh1 hK2 hK K hN hP hS0 hT0 f1 f2 f3 f4 f5 f8 g1 g2 g3 hge hl1 hr1 B1 B2 B3 B4 B5 B6 P7 P8 hE0 M1 M2 M3 M4 N1 N2 N3 N4 wS
    by_cases hA : S < m
    · by_cases hB : S < D
      · by_cases hC : p.length < S
        · by_cases hE2 : E < b
          · have eA :  ((S : Int) < (m : Int)) := by omega
            have neA : ¬ ((m : Int) ≤ (S : Int)) := by omega
            have eB :  ((S : Int) < (D : Int)) := by omega
            have neB : ¬ ((D : Int) ≤ (S : Int)) := by omega
            have eA2 :  ((D : Int) < (E : Int)) := by omega
            have neA2 : ¬ ((E : Int) ≤ (D : Int)) := by omega
            have eB2 :  ((m : Int) < (E : Int)) := by omega
            have neB2 : ¬ ((E : Int) ≤ (m : Int)) := by omega
            have eC :  ((p.length : Int) < (S : Int)) := by omega
            have neC : ¬ ((S : Int) ≤ (p.length : Int)) := by omega
            have eE :  ((E : Int) < (b : Int)) := by omega
            have neE : ¬ ((b : Int) ≤ (E : Int)) := by omega
            simp only [and_true, and_self, forall_const, false_implies, Bool.and_true, decide_true, or_false, eA, neA, eB, neB, eA2, neA2, eB2, neB2, eC, neC, eE, neE, wE]
            refine CallAt.call [0] [] (rotate_spec (p ++ l1) l2 r1 (r2 ++ q) _ S m E hcut (by rw [hxl]; omega) (by rw [List.length_append]; omega) (by rw [List.length_append]; omega) (by rw [List.length_append]; omega) (by omega) (by omega)) (by decide) (fun i hi => by simp at hi; show i < 1; omega) (fun _ h => by cases h) rfl rfl (.inl rfl) ?_
            rintro rr os ⟨rfl, rfl⟩
            simp only [VC_skip, VC_region, VC_seq, VC_cond, aops_nil, aops_cons, put_some, aop, qop, isQuiet, ASt.eval, ASt.ev, AV.strip, AV.need, AV.ac, AV.isTup, onG, guardOf, qbin, binInt, qpick, qpick0, ned, AV.map, AObj.map, isScalar, avOf, acOf, giveBack, afterCall, eInt, List.getD_cons_succ, List.getD_cons_zero, List.set_cons_succ, List.set_cons_zero, List.map_cons, List.map_nil, List.append_nil, List.length_cons, List.length_nil, List.getElem?_cons_succ, List.getElem?_cons_zero, Option.bind_some, implies_true, true_and, and_true, and_self, forall_const, false_implies, Bool.and_true, Bool.true_eq_false, cond_true, beq_self_eq_true, Nat.zero_add, eq_self, decide_true, tab_3, eB, eA2, eC, eE, List.append_assoc]
            have hi1 := ih p l1 r1 (l2 ++ (r2 ++ q)) p.length S D (by omega) (by simp only [List.length_append]; omega) rfl (by omega) (by omega) (by omega) (by omega) G1 G3 V1 V3 cc1
            refine CallAt.call [0] [] hi1 (by decide) (fun i hi => by simp at hi; show i < 1; omega) (fun _ h => by cases h) rfl rfl (.inl rfl) ?_
            rintro rr os ⟨rfl, s1, rfl, p1, q1⟩
            have hs1 := p1.length_eq
            rw [List.length_append] at hs1
            simp only [VC_skip, VC_region, VC_seq, VC_cond, aops_nil, aops_cons, put_some, aop, qop, isQuiet, ASt.eval, ASt.ev, AV.strip, AV.need, AV.ac, AV.isTup, onG, guardOf, qbin, binInt, qpick, qpick0, ned, AV.map, AObj.map, isScalar, avOf, acOf, giveBack, afterCall, eInt, List.getD_cons_succ, List.getD_cons_zero, List.set_cons_succ, List.set_cons_zero, List.map_cons, List.map_nil, List.append_nil, List.length_cons, List.length_nil, List.getElem?_cons_succ, List.getElem?_cons_zero, Option.bind_some, implies_true, true_and, and_true, and_self, forall_const, false_implies, Bool.and_true, Bool.true_eq_false, cond_true, beq_self_eq_true, Nat.zero_add, eq_self, decide_true, tab_3, eA2, eE]
            have hi2 := ih (p ++ s1) l2 r2 q D E b (by omega) (by simp only [List.length_append]; omega) (by simp only [List.length_append]; omega) (by simp only [List.length_append]; omega) (by simp only [List.length_append]; omega) (by omega) (by omega) G2 G4 V2 V4 cc2
            unfold Merged at hi2
            simp only [List.append_assoc] at hi2
            refine CallAt.call [0] [] hi2 (by decide) (fun i hi => by simp at hi; show i < 1; omega) (fun _ h => by cases h) rfl rfl (.inl rfl) ?_
            rintro rr os ⟨rfl, s2, rfl, p2, q2⟩
            simp only [aops_nil, put_some, AV.map, AObj.map, giveBack, afterCall, List.set_cons_succ, List.set_cons_zero, List.map_nil, List.append_nil, List.length_cons, List.length_nil, Nat.zero_add]
            refine RetAt.of [0] rfl ?_ rfl (by decide) (by decide) ?_ <;> simp only [resOf, tupOf, keepObjs, keepObjs, XObj.amap, AV.map, AObj.map, findIx, AC.ren, List.getD_cons_zero, List.map_cons, List.map_nil]
            exact ⟨rfl, s1 ++ s2, by simp only [List.append_assoc], fin s1 s2 p1 p2 q1 q2⟩
          · have eA :  ((S : Int) < (m : Int)) := by omega
            have neA : ¬ ((m : Int) ≤ (S : Int)) := by omega
            have eB :  ((S : Int) < (D : Int)) := by omega
            have neB : ¬ ((D : Int) ≤ (S : Int)) := by omega
            have eA2 :  ((D : Int) < (E : Int)) := by omega
            have neA2 : ¬ ((E : Int) ≤ (D : Int)) := by omega
            have eB2 :  ((m : Int) < (E : Int)) := by omega
            have neB2 : ¬ ((E : Int) ≤ (m : Int)) := by omega
            have eC :  ((p.length : Int) < (S : Int)) := by omega
            have neC : ¬ ((S : Int) ≤ (p.length : Int)) := by omega
            have eE : ¬ ((E : Int) < (b : Int)) := by omega
            have neE :  ((b : Int) ≤ (E : Int)) := by omega
            simp only [true_and, and_true, and_self, forall_const, false_implies, Bool.and_true, Bool.and_false, decide_true, decide_false, and_false, or_true, or_false, eA, neA, eB, neB, eA2, neA2, eB2, neB2, eC, neC, eE, neE, wE]
            refine CallAt.call [0] [] (rotate_spec (p ++ l1) l2 r1 (r2 ++ q) _ S m E hcut (by rw [hxl]; omega) (by rw [List.length_append]; omega) (by rw [List.length_append]; omega) (by rw [List.length_append]; omega) (by omega) (by omega)) (by decide) (fun i hi => by simp at hi; show i < 1; omega) (fun _ h => by cases h) rfl rfl (.inl rfl) ?_
            rintro rr os ⟨rfl, rfl⟩
            simp only [VC_skip, VC_region, VC_seq, VC_cond, aops_nil, aops_cons, put_some, aop, qop, isQuiet, ASt.eval, ASt.ev, AV.strip, AV.need, AV.ac, AV.isTup, onG, guardOf, qbin, binInt, qpick, qpick0, ned, AV.map, AObj.map, isScalar, avOf, acOf, giveBack, afterCall, eInt, List.getD_cons_succ, List.getD_cons_zero, List.set_cons_succ, List.set_cons_zero, List.map_cons, List.map_nil, List.append_nil, List.length_cons, List.length_nil, List.getElem?_cons_succ, List.getElem?_cons_zero, Option.bind_some, implies_true, true_and, and_true, and_self, forall_const, false_implies, Bool.and_true, Bool.false_eq_true, Bool.true_eq_false, cond_true, beq_self_eq_true, Nat.zero_add, eq_self, decide_true, decide_false, tab_3, eB, eA2, eC, eE, List.append_assoc]
            have hi1 := ih p l1 r1 (l2 ++ (r2 ++ q)) p.length S D (by omega) (by simp only [List.length_append]; omega) rfl (by omega) (by omega) (by omega) (by omega) G1 G3 V1 V3 cc1
            refine CallAt.call [0] [] hi1 (by decide) (fun i hi => by simp at hi; show i < 1; omega) (fun _ h => by cases h) rfl rfl (.inl rfl) ?_
            rintro rr os ⟨rfl, s1, rfl, p1, q1⟩
            have hs1 := p1.length_eq
            rw [List.length_append] at hs1
            simp only [VC_skip, VC_region, VC_seq, VC_cond, aops_nil, aops_cons, put_some, aop, qop, isQuiet, ASt.eval, ASt.ev, AV.strip, AV.need, AV.ac, AV.isTup, onG, guardOf, qbin, binInt, qpick, qpick0, ned, AV.map, AObj.map, isScalar, avOf, acOf, giveBack, afterCall, eInt, List.getD_cons_succ, List.getD_cons_zero, List.set_cons_succ, List.set_cons_zero, List.map_cons, List.map_nil, List.append_nil, List.length_cons, List.length_nil, List.getElem?_cons_succ, List.getElem?_cons_zero, Option.bind_some, implies_true, true_and, and_self, forall_const, false_implies, Bool.and_true, Bool.false_eq_true, cond_true, beq_self_eq_true, Nat.zero_add, eq_self, decide_true, decide_false, tab_3, eA2, eE]
            refine RetAt.of [0] rfl ?_ rfl (by decide) (by decide) ?_ <;> simp only [resOf, tupOf, keepObjs, keepObjs, XObj.amap, AV.map, AObj.map, findIx, AC.ren, List.getD_cons_zero, List.map_cons, List.map_nil]
            exact ⟨rfl, s1 ++ (l2 ++ r2), by simp only [List.append_assoc], fin s1 (l2 ++ r2) p1 (List.Perm.refl _) q1 (z2 (by omega))⟩
        · by_cases hE2 : E < b
          · have eA :  ((S : Int) < (m : Int)) := by omega
            have neA : ¬ ((m : Int) ≤ (S : Int)) := by omega
            have eB :  ((S : Int) < (D : Int)) := by omega
            have neB : ¬ ((D : Int) ≤ (S : Int)) := by omega
            have eA2 :  ((D : Int) < (E : Int)) := by omega
            have neA2 : ¬ ((E : Int) ≤ (D : Int)) := by omega
            have eB2 :  ((m : Int) < (E : Int)) := by omega
            have neB2 : ¬ ((E : Int) ≤ (m : Int)) := by omega
            have eC : ¬ ((p.length : Int) < (S : Int)) := by omega
            have neC :  ((S : Int) ≤ (p.length : Int)) := by omega
            have eE :  ((E : Int) < (b : Int)) := by omega
            have neE : ¬ ((b : Int) ≤ (E : Int)) := by omega
            simp only [true_and, and_true, and_self, forall_const, false_implies, Bool.and_true, decide_true, decide_false, or_false, eA, neA, eB, neB, eA2, neA2, eB2, neB2, eC, neC, eE, neE, wE]
            refine CallAt.call [0] [] (rotate_spec (p ++ l1) l2 r1 (r2 ++ q) _ S m E hcut (by rw [hxl]; omega) (by rw [List.length_append]; omega) (by rw [List.length_append]; omega) (by rw [List.length_append]; omega) (by omega) (by omega)) (by decide) (fun i hi => by simp at hi; show i < 1; omega) (fun _ h => by cases h) rfl rfl (.inl rfl) ?_
            rintro rr os ⟨rfl, rfl⟩
            simp only [VC_skip, VC_region, VC_seq, VC_cond, aops_nil, aops_cons, put_some, aop, qop, isQuiet, ASt.eval, ASt.ev, AV.strip, AV.need, AV.ac, AV.isTup, onG, guardOf, qbin, binInt, qpick, qpick0, ned, AV.map, AObj.map, isScalar, avOf, acOf, giveBack, afterCall, eInt, List.getD_cons_succ, List.getD_cons_zero, List.set_cons_succ, List.set_cons_zero, List.map_cons, List.map_nil, List.append_nil, List.length_cons, List.length_nil, List.getElem?_cons_succ, List.getElem?_cons_zero, Option.bind_some, implies_true, imp_self, beq_true, true_and, and_true, and_self, forall_const, false_implies, Bool.and_true, Bool.and_false, Bool.false_eq_true, Bool.true_eq_false, cond_true, cond_false, beq_self_eq_true, Nat.zero_add, eq_self, decide_true, decide_false, tab_3, eB, eA2, eC, eE, List.append_assoc]
            have hi2 := ih (p ++ (l1 ++ r1)) l2 r2 q D E b (by omega) (by simp only [List.length_append]; omega) (by simp only [List.length_append]; omega) (by simp only [List.length_append]; omega) (by simp only [List.length_append]; omega) (by omega) (by omega) G2 G4 V2 V4 cc2
            unfold Merged at hi2
            simp only [List.append_assoc] at hi2
            refine CallAt.call [0] [] hi2 (by decide) (fun i hi => by simp at hi; show i < 1; omega) (fun _ h => by cases h) rfl rfl (.inl rfl) ?_
            rintro rr os ⟨rfl, s2, rfl, p2, q2⟩
            simp only [aops_nil, put_some, AV.map, AObj.map, giveBack, afterCall, List.set_cons_succ, List.set_cons_zero, List.map_nil, List.append_nil, List.length_cons, List.length_nil, Nat.zero_add]
            refine RetAt.of [0] rfl ?_ rfl (by decide) (by decide) ?_ <;> simp only [resOf, tupOf, keepObjs, keepObjs, XObj.amap, AV.map, AObj.map, findIx, AC.ren, List.getD_cons_zero, List.map_cons, List.map_nil]
            exact ⟨rfl, (l1 ++ r1) ++ s2, by simp only [List.append_assoc], fin (l1 ++ r1) s2 (List.Perm.refl _) p2 (z1 (by omega)) q2⟩
          · have eA :  ((S : Int) < (m : Int)) := by omega
            have neA : ¬ ((m : Int) ≤ (S : Int)) := by omega
            have eB :  ((S : Int) < (D : Int)) := by omega
            have neB : ¬ ((D : Int) ≤ (S : Int)) := by omega
            have eA2 :  ((D : Int) < (E : Int)) := by omega
            have neA2 : ¬ ((E : Int) ≤ (D : Int)) := by omega
            have eB2 :  ((m : Int) < (E : Int)) := by omega
            have neB2 : ¬ ((E : Int) ≤ (m : Int)) := by omega
            have eC : ¬ ((p.length : Int) < (S : Int)) := by omega
            have neC :  ((S : Int) ≤ (p.length : Int)) := by omega
            have eE : ¬ ((E : Int) < (b : Int)) := by omega
            have neE :  ((b : Int) ≤ (E : Int)) := by omega
            simp only [true_and, and_true, and_self, forall_const, false_implies, Bool.and_true, Bool.and_false, decide_true, decide_false, and_false, or_true, or_false, eA, neA, eB, neB, eA2, neA2, eB2, neB2, eC, neC, eE, neE, wE]
            refine CallAt.call [0] [] (rotate_spec (p ++ l1) l2 r1 (r2 ++ q) _ S m E hcut (by rw [hxl]; omega) (by rw [List.length_append]; omega) (by rw [List.length_append]; omega) (by rw [List.length_append]; omega) (by omega) (by omega)) (by decide) (fun i hi => by simp at hi; show i < 1; omega) (fun _ h => by cases h) rfl rfl (.inl rfl) ?_
            rintro rr os ⟨rfl, rfl⟩
            simp only [VC_skip, VC_region, VC_seq, VC_cond, aops_nil, aops_cons, put_some, aop, qop, isQuiet, ASt.eval, ASt.ev, AV.strip, AV.need, AV.ac, AV.isTup, onG, guardOf, qbin, binInt, qpick, qpick0, ned, AV.map, AObj.map, isScalar, avOf, acOf, giveBack, afterCall, eInt, List.getD_cons_succ, List.getD_cons_zero, List.set_cons_succ, List.set_cons_zero, List.map_cons, List.map_nil, List.append_nil, List.length_cons, List.length_nil, List.getElem?_cons_succ, List.getElem?_cons_zero, Option.bind_some, implies_true, imp_self, beq_true, true_and, and_self, forall_const, false_implies, Bool.and_true, Bool.and_false, Bool.false_eq_true, cond_true, cond_false, beq_self_eq_true, Nat.zero_add, eq_self, decide_true, decide_false, tab_3, eB, eA2, eC, eE, List.append_assoc]
            refine RetAt.of [0] rfl ?_ rfl (by decide) (by decide) ?_ <;> simp only [resOf, tupOf, keepObjs, keepObjs, XObj.amap, AV.map, AObj.map, findIx, AC.ren, List.getD_cons_zero, List.map_cons, List.map_nil]
            exact ⟨rfl, (l1 ++ r1) ++ (l2 ++ r2), by simp only [List.append_assoc], fin (l1 ++ r1) (l2 ++ r2) (List.Perm.refl _) (List.Perm.refl _) (z1 (by omega)) (z2 (by omega))⟩
      · by_cases hE2 : E < b
        · have eA :  ((S : Int) < (m : Int)) := by omega
          have neA : ¬ ((m : Int) ≤ (S : Int)) := by omega
          have eB : ¬ ((S : Int) < (D : Int)) := by omega
          have neB :  ((D : Int) ≤ (S : Int)) := by omega
          have eA2 :  ((D : Int) < (E : Int)) := by omega
          have neA2 : ¬ ((E : Int) ≤ (D : Int)) := by omega
          have eB2 : ¬ ((m : Int) < (E : Int)) := by omega
          have neB2 :  ((E : Int) ≤ (m : Int)) := by omega
          have eE :  ((E : Int) < (b : Int)) := by omega
          have neE : ¬ ((b : Int) ≤ (E : Int)) := by omega
          rw [hflat (by omega)]
          simp only [true_and, and_true, and_self, forall_const, false_implies, Bool.and_true, Bool.and_false, decide_true, decide_false, and_false, or_true, or_false, eA, neA, eB, neB, eA2, neA2, eB2, neB2, eE, neE, wE]
          have hi2 := ih (p ++ (l1 ++ r1)) l2 r2 q D E b (by omega) (by simp only [List.length_append]; omega) (by simp only [List.length_append]; omega) (by simp only [List.length_append]; omega) (by simp only [List.length_append]; omega) (by omega) (by omega) G2 G4 V2 V4 cc2
          unfold Merged at hi2
          simp only [List.append_assoc] at hi2
          refine CallAt.call [0] [] hi2 (by decide) (fun i hi => by simp at hi; show i < 1; omega) (fun _ h => by cases h) rfl rfl (.inl rfl) ?_
          rintro rr os ⟨rfl, s2, rfl, p2, q2⟩
          simp only [aops_nil, put_some, AV.map, AObj.map, giveBack, afterCall, List.set_cons_succ, List.set_cons_zero, List.map_nil, List.append_nil, List.length_cons, List.length_nil, Nat.zero_add]
          refine RetAt.of [0] rfl ?_ rfl (by decide) (by decide) ?_ <;> simp only [resOf, tupOf, keepObjs, keepObjs, XObj.amap, AV.map, AObj.map, findIx, AC.ren, List.getD_cons_zero, List.map_cons, List.map_nil]
          exact ⟨rfl, (l1 ++ r1) ++ s2, by simp only [List.append_assoc], fin (l1 ++ r1) s2 (List.Perm.refl _) p2 (z1 (by omega)) q2⟩
        · have eA :  ((S : Int) < (m : Int)) := by omega
          have neA : ¬ ((m : Int) ≤ (S : Int)) := by omega
          have eB : ¬ ((S : Int) < (D : Int)) := by omega
          have neB :  ((D : Int) ≤ (S : Int)) := by omega
          have eA2 :  ((D : Int) < (E : Int)) := by omega
          have neA2 : ¬ ((E : Int) ≤ (D : Int)) := by omega
          have eB2 : ¬ ((m : Int) < (E : Int)) := by omega
          have neB2 :  ((E : Int) ≤ (m : Int)) := by omega
          have eE : ¬ ((E : Int) < (b : Int)) := by omega
          have neE :  ((b : Int) ≤ (E : Int)) := by omega
          rw [hflat (by omega)]
          simp only [true_and, forall_const, false_implies, Bool.and_false, decide_true, decide_false, and_false, or_true, eA, neA, eB, neB, eA2, neA2, eB2, neB2, eE, neE, wE]
          refine RetAt.of [0] rfl ?_ rfl (by decide) (by decide) ?_ <;> simp only [resOf, tupOf, keepObjs, keepObjs, XObj.amap, AV.map, AObj.map, findIx, AC.ren, List.getD_cons_zero, List.map_cons, List.map_nil]
          exact ⟨rfl, (l1 ++ r1) ++ (l2 ++ r2), by simp only [List.append_assoc], fin (l1 ++ r1) (l2 ++ r2) (List.Perm.refl _) (List.Perm.refl _) (z1 (by omega)) (z2 (by omega))⟩
    · by_cases hB : S < D
      · by_cases hC : p.length < S
        · have eA : ¬ ((S : Int) < (m : Int)) := by omega
          have neA :  ((m : Int) ≤ (S : Int)) := by omega
          have eB :  ((S : Int) < (D : Int)) := by omega
          have neB : ¬ ((D : Int) ≤ (S : Int)) := by omega
          have eA2 : ¬ ((D : Int) < (E : Int)) := by omega
          have neA2 :  ((E : Int) ≤ (D : Int)) := by omega
          have eB2 :  ((m : Int) < (E : Int)) := by omega
          have neB2 : ¬ ((E : Int) ≤ (m : Int)) := by omega
          have eC :  ((p.length : Int) < (S : Int)) := by omega
          have neC : ¬ ((S : Int) ≤ (p.length : Int)) := by omega
          rw [hflat (by omega)]
          simp only [true_and, and_true, and_self, forall_const, false_implies, Bool.and_true, Bool.false_and, decide_true, decide_false, false_and, true_or, or_false, eA, neA, eB, neB, eA2, neA2, eB2, neB2, eC, neC, wE]
          have hi1 := ih p l1 r1 (l2 ++ (r2 ++ q)) p.length S D (by omega) (by simp only [List.length_append]; omega) rfl (by omega) (by omega) (by omega) (by omega) G1 G3 V1 V3 cc1
          refine CallAt.call [0] [] hi1 (by decide) (fun i hi => by simp at hi; show i < 1; omega) (fun _ h => by cases h) rfl rfl (.inl rfl) ?_
          rintro rr os ⟨rfl, s1, rfl, p1, q1⟩
          have hs1 := p1.length_eq
          rw [List.length_append] at hs1
          simp only [VC_skip, VC_region, VC_seq, VC_cond, aops_nil, aops_cons, put_some, aop, qop, isQuiet, ASt.eval, ASt.ev, AV.strip, AV.need, AV.ac, AV.isTup, onG, guardOf, qbin, binInt, qpick, qpick0, ned, AV.map, AObj.map, isScalar, avOf, acOf, giveBack, afterCall, eInt, List.getD_cons_succ, List.getD_cons_zero, List.set_cons_succ, List.set_cons_zero, List.map_cons, List.map_nil, List.append_nil, List.length_cons, List.length_nil, List.getElem?_cons_succ, List.getElem?_cons_zero, Option.bind_some, implies_true, imp_self, beq_true, true_and, and_self, forall_const, false_implies, Bool.and_false, Bool.false_eq_true, cond_false, Nat.zero_add, eq_self, decide_false, tab_3, eA2]
          refine RetAt.of [0] rfl ?_ rfl (by decide) (by decide) ?_ <;> simp only [resOf, tupOf, keepObjs, keepObjs, XObj.amap, AV.map, AObj.map, findIx, AC.ren, List.getD_cons_zero, List.map_cons, List.map_nil]
          exact ⟨rfl, s1 ++ (l2 ++ r2), by simp only [List.append_assoc], fin s1 (l2 ++ r2) p1 (List.Perm.refl _) q1 (z2 (by omega))⟩
        · have eA : ¬ ((S : Int) < (m : Int)) := by omega
          have neA :  ((m : Int) ≤ (S : Int)) := by omega
          have eB :  ((S : Int) < (D : Int)) := by omega
          have neB : ¬ ((D : Int) ≤ (S : Int)) := by omega
          have eA2 : ¬ ((D : Int) < (E : Int)) := by omega
          have neA2 :  ((E : Int) ≤ (D : Int)) := by omega
          have eB2 :  ((m : Int) < (E : Int)) := by omega
          have neB2 : ¬ ((E : Int) ≤ (m : Int)) := by omega
          have eC : ¬ ((p.length : Int) < (S : Int)) := by omega
          have neC :  ((S : Int) ≤ (p.length : Int)) := by omega
          rw [hflat (by omega)]
          simp only [true_and, and_true, forall_const, false_implies, Bool.and_true, Bool.false_and, decide_true, decide_false, false_and, true_or, or_false, eA, neA, eB, neB, eA2, neA2, eB2, neB2, eC, neC, wE]
          refine RetAt.of [0] rfl ?_ rfl (by decide) (by decide) ?_ <;> simp only [resOf, tupOf, keepObjs, keepObjs, XObj.amap, AV.map, AObj.map, findIx, AC.ren, List.getD_cons_zero, List.map_cons, List.map_nil]
          exact ⟨rfl, (l1 ++ r1) ++ (l2 ++ r2), by simp only [List.append_assoc], fin (l1 ++ r1) (l2 ++ r2) (List.Perm.refl _) (List.Perm.refl _) (z1 (by omega)) (z2 (by omega))⟩
      · have eA : ¬ ((S : Int) < (m : Int)) := by omega
        have neA :  ((m : Int) ≤ (S : Int)) := by omega
        have eB : ¬ ((S : Int) < (D : Int)) := by omega
        have neB :  ((D : Int) ≤ (S : Int)) := by omega
        have eA2 : ¬ ((D : Int) < (E : Int)) := by omega
        have neA2 :  ((E : Int) ≤ (D : Int)) := by omega
        have eB2 : ¬ ((m : Int) < (E : Int)) := by omega
        have neB2 :  ((E : Int) ≤ (m : Int)) := by omega
        rw [hflat (by omega)]
        simp only [true_and, and_self, forall_const, false_implies, Bool.and_false, Bool.false_and, decide_false, and_false, false_and, or_true, true_or, eA, neA, eB, neB, eA2, neA2, eB2, neB2, wE]
        refine RetAt.of [0] rfl ?_ rfl (by decide) (by decide) ?_ <;> simp only [resOf, tupOf, keepObjs, keepObjs, XObj.amap, AV.map, AObj.map, findIx, AC.ren, List.getD_cons_zero, List.map_cons, List.map_nil]
        exact ⟨rfl, (l1 ++ r1) ++ (l2 ++ r2), by simp only [List.append_assoc], fin (l1 ++ r1) (l2 ++ r2) (List.Perm.refl _) (List.Perm.refl _) (z1 (by omega)) (z2 (by omega))⟩
end Go.Vc.Sn
