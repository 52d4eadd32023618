/- A stable sort. -/
import Derived.Test.YtcjcfpbbhmhlbaaRI
set_option linter.unusedVariables false
set_option linter.unusedSimpArgs false
namespace Go.Vc.Sn
open Go.Proofs Go.IntWalk Go.Vc
theorem merge_spec {R : F3 → F3 → Prop} (tr : ∀ {x y w : F3}, R x y → R y w → R x w) : ∀ N, MergeAt R N := by
  intro N
  induction N with
  | zero => intro p l r q a m b h; omega
  | succ N ih =>
    intro p l r q a m b h hl ha hm hb h0 h1 hgl hgr hsl hsr hc
    subst ha
    by_cases e1 : l.length = 1
    · obtain ⟨x, rfl⟩ : ∃ x, l = [x] := List.length_eq_one_iff.1 e1
      have hs := sym1_spec (R := R) tr p r q x p.length m b (by simp at hl; omega) rfl (by simpa using hm) (by simpa using hb) h1 hgr (hgl x (by simp)) hsr hc
      have e : inD p r x q 0 = p ++ ([x] ++ (r ++ q)) := by unfold inD; simp
      rw [e] at hs
      exact hs
    by_cases e2 : r.length = 1
    · obtain ⟨y, rfl⟩ : ∃ y, r = [y] := List.length_eq_one_iff.1 e2
      have hs := sym2_spec (R := R) tr p l q y p.length m b (by simp at hl; omega) rfl hm (by simpa using hb) (by omega) hgl (hgr y (by simp)) hsl hc
      have e : inD p l y q l.length = p ++ (l ++ ([y] ++ q)) := by unfold inD; simp
      rw [e] at hs
      exact hs
    have ih' : MergeAt R (l.length + r.length) := fun p l' r' q a m b h' => ih p l' r' q a m b (by omega)
    by_cases hc2 : (p.length + b) / 2 < m
    · exact sym3a_spec (R := R) tr p l r q m b _ _ _ _ _ hl hm hb (by omega) (by omega) rfl rfl rfl hc2 rfl rfl hgl hgr hsl hsr hc ih'
    · exact sym3b_spec (R := R) tr p l r q m b _ _ _ _ _ hl hm hb (by omega) (by omega) rfl rfl rfl (by omega) rfl rfl hgl hgr hsl hsr hc ih'
theorem nil_run {R : F3 → F3 → Prop} {u xs : List F3} {bs j : Nat} (hl : xs.length = u.length) (h : u.length ≤ j * bs) : Run R u xs bs j := by
  unfold Run
  rw [List.drop_of_length_le (by omega), List.drop_of_length_le h]
  rw [List.take_nil]
  exact ⟨List.Perm.refl _, List.Pairwise.nil⟩
def St1 (R : F3 → F3 → Prop) (u xs : List F3) (k : Nat) : Prop := xs.length = u.length ∧ k * 20 ≤ u.length ∧ xs.drop (k * 20) = u.drop (k * 20) ∧ ∀ j, j < k → Run R u xs 20 j
def St2 (R : F3 → F3 → Prop) (u xs : List F3) (bs : Nat) : Prop := xs.length = u.length ∧ ∀ j, Run R u xs bs j
def St3 (R : F3 → F3 → Prop) (u xs : List F3) (bs k : Nat) : Prop := xs.length = u.length ∧ k * (2 * bs) ≤ u.length ∧ (∀ j, j < k → Run R u xs (2 * bs) j) ∧ ∀ j, 2 * k ≤ j → Run R u xs bs j
section
variable {R : F3 → F3 → Prop} {u xs : List F3} {k bs : Nat}
theorem st1_cut (h : St1 R u xs k) (n : Nat) : xs = xs.take (k * 20) ++ ((u.drop (k * 20)).take n ++ u.drop (k * 20 + n)) := by
  obtain ⟨_, _, h3, _⟩ := h
  rw [← List.drop_drop, List.take_append_drop, ← h3, List.take_append_drop]
theorem st1_step (h : St1 R u xs k) (hb : k * 20 + 20 ≤ u.length) {s : List F3} (hp : s.Perm ((u.drop (k * 20)).take 20)) (hs : Srt R s) : St1 R u (xs.take (k * 20) ++ (s ++ u.drop (k * 20 + 20))) (k + 1) := by
  obtain ⟨h1, h2, h3, h4⟩ := h
  have hsl : s.length = 20 := by rw [hp.length_eq, List.length_take, List.length_drop]; omega
  have htl : (xs.take (k * 20)).length = k * 20 := by rw [List.length_take]; omega
  refine ⟨by simp only [List.length_append, List.length_drop, hsl, htl]; omega, by omega, ?_, runs_step rfl (by omega) h4 hp hs (.inl hsl)⟩
  rw [← List.append_assoc, show (k + 1) * 20 = k * 20 + 20 by omega, show k * 20 + 20 = (xs.take (k * 20) ++ s).length by rw [List.length_append, htl, hsl], List.drop_left]
theorem st1_end (h : St1 R u xs k) (hb : u.length < k * 20 + 20) {s : List F3} (hp : s.Perm (u.drop (k * 20))) (hs : Srt R s) : St2 R u (xs.take (k * 20) ++ (s ++ [])) 20 := by
  obtain ⟨h1, h2, h3, h4⟩ := h
  have hsl : s.length = u.length - k * 20 := by rw [hp.length_eq, List.length_drop]
  have htl : (xs.take (k * 20)).length = k * 20 := by rw [List.length_take]; omega
  have hl : (xs.take (k * 20) ++ (s ++ [])).length = u.length := by simp only [List.length_append, hsl, htl, List.length_nil]; omega
  have hr := runs_step (R := R) (q := []) rfl (by omega) h4 (s := s) (by rw [List.take_of_length_le (by rw [List.length_drop]; omega)]; exact hp) hs (.inr ⟨rfl, by omega⟩)
  refine ⟨hl, fun j => ?_⟩
  by_cases hj : j < k + 1
  · exact hr j hj
  · exact nil_run hl (by omega)
theorem st3_init (h : St2 R u xs bs) : St3 R u xs bs 0 := ⟨h.1, by omega, fun j hj => by omega, fun j _ => h.2 j⟩
theorem blk1 : k * (2 * bs) = (2 * k) * bs := by rw [← Nat.mul_assoc, Nat.mul_comm k 2]
theorem blk2 : k * (2 * bs) + bs = (2 * k + 1) * bs := by rw [Nat.add_mul, Nat.one_mul, blk1]
theorem blk3 : (k + 1) * (2 * bs) = k * (2 * bs) + 2 * bs := by rw [Nat.add_mul, Nat.one_mul]
theorem st3_left (h : St3 R u xs bs k) : ((xs.drop (k * (2 * bs))).take bs).Perm ((u.drop (k * (2 * bs))).take bs) ∧ Srt R ((xs.drop (k * (2 * bs))).take bs) := by
  have := h.2.2.2 (2 * k) (Nat.le_refl _)
  unfold Run at this
  rw [← blk1] at this
  exact this
theorem st3_right (h : St3 R u xs bs k) : ((xs.drop (k * (2 * bs) + bs)).take bs).Perm ((u.drop (k * (2 * bs) + bs)).take bs) ∧ Srt R ((xs.drop (k * (2 * bs) + bs)).take bs) := by
  have := h.2.2.2 (2 * k + 1) (by omega)
  unfold Run at this
  rw [← blk2] at this
  exact this
theorem st3_perm (h : St3 R u xs bs k) {s : List F3} (hp : s.Perm ((xs.drop (k * (2 * bs))).take bs ++ (xs.drop (k * (2 * bs) + bs)).take bs)) : s.Perm ((u.drop (k * (2 * bs))).take (2 * bs)) := by
  rw [take_two, List.drop_drop]
  exact hp.trans ((st3_left h).1.append (st3_right h).1)
theorem st3_step (h : St3 R u xs bs k) (hb : k * (2 * bs) + 2 * bs ≤ u.length) {s : List F3} (hp : s.Perm ((xs.drop (k * (2 * bs))).take bs ++ (xs.drop (k * (2 * bs) + bs)).take bs)) (hs : Srt R s) :
    St3 R u (xs.take (k * (2 * bs)) ++ (s ++ xs.drop (k * (2 * bs) + bs + bs))) bs (k + 1) := by
  have hp2 := st3_perm h hp
  obtain ⟨h1, h2, h3, h4⟩ := h
  have hsl : s.length = 2 * bs := by rw [hp2.length_eq, List.length_take, List.length_drop]; omega
  have htl : (xs.take (k * (2 * bs))).length = k * (2 * bs) := by rw [List.length_take]; omega
  refine ⟨by simp only [List.length_append, List.length_drop, hsl, htl]; omega, by rw [blk3]; exact hb, runs_step rfl (by omega) h3 hp2 hs (.inl hsl), ?_⟩
  refine runs_keep (b := k * (2 * bs) + 2 * bs) (m := 2 * (k + 1)) (fun j hj => h4 j (by omega)) ?_ (by rw [← blk1, blk3]; exact Nat.le_refl _)
  rw [← List.append_assoc]
  conv => lhs; rw [show k * (2 * bs) + 2 * bs = (xs.take (k * (2 * bs)) ++ s).length by rw [List.length_append, htl, hsl], List.drop_left]
  congr 1
  omega
theorem st3_end1 (h : St3 R u xs bs k) (hb : u.length < k * (2 * bs) + 2 * bs) {s : List F3} (hp : s.Perm ((xs.drop (k * (2 * bs))).take bs ++ (xs.drop (k * (2 * bs) + bs)).take bs)) (hs : Srt R s) :
    St2 R u (xs.take (k * (2 * bs)) ++ (s ++ [])) (2 * bs) := by
  have hp2 := st3_perm h hp
  obtain ⟨h1, h2, h3, h4⟩ := h
  have hsl : s.length = u.length - k * (2 * bs) := by rw [hp2.length_eq, List.length_take, List.length_drop]; omega
  have htl : (xs.take (k * (2 * bs))).length = k * (2 * bs) := by rw [List.length_take]; omega
  have hl : (xs.take (k * (2 * bs)) ++ (s ++ [])).length = u.length := by simp only [List.length_append, hsl, htl, List.length_nil]; omega
  have hr := runs_step (R := R) (q := []) rfl (by omega) h3 hp2 hs (.inr ⟨rfl, by omega⟩)
  refine ⟨hl, fun j => ?_⟩
  by_cases hj : j < k + 1
  · exact hr j hj
  · have h5 : (k + 1) * (2 * bs) ≤ j * (2 * bs) := Nat.mul_le_mul_right _ (by omega)
    rw [blk3] at h5
    exact nil_run hl (by omega)
theorem st3_end2 (h : St3 R u xs bs k) (hb : u.length ≤ k * (2 * bs) + bs) : St2 R u xs (2 * bs) := by
  have hL := st3_left h
  obtain ⟨h1, h2, h3, h4⟩ := h
  refine ⟨h1, fun j => ?_⟩
  by_cases hj : j < k
  · exact h3 j hj
  by_cases hk : j = k
  · subst hk
    unfold Run
    rw [List.take_of_length_le (l := xs.drop (j * (2 * bs))) (by rw [List.length_drop]; omega), List.take_of_length_le (l := u.drop (j * (2 * bs))) (by rw [List.length_drop]; omega)]
    rw [List.take_of_length_le (l := xs.drop (j * (2 * bs))) (by rw [List.length_drop]; omega), List.take_of_length_le (l := u.drop (j * (2 * bs))) (by rw [List.length_drop]; omega)] at hL
    exact hL
  · have h5 : (k + 1) * (2 * bs) ≤ j * (2 * bs) := Nat.mul_le_mul_right _ (by omega)
    rw [blk3] at h5
    exact nil_run h1 (by omega)
end
end Go.Vc.Sn
set_option linter.unusedVariables false
set_option linter.unusedSimpArgs false
namespace Go.Vc.Sn
open Go.Proofs Go.IntWalk Go.Vc
set_option maxRecDepth 100000
theorem mem_of_seg {u : List F3} {a n : Nat} {x : F3} (h : x ∈ (u.drop a).take n) : x ∈ u := List.mem_of_mem_drop (List.mem_of_mem_take h)
set_option maxHeartbeats 16000000 in
theorem stable_spec {R : F3 → F3 → Prop} (tr : ∀ {x y w : F3}, R x y → R y w → R x w) (u : List F3) (n : Nat) (hn : n = u.length) (hl : u.length ≤ 1099511627776) (hg : ∀ x ∈ u, Gd x) (hc : Cr R cF u) :
    ACall Try.prog 41 [.c (.sl 0), .c (.int .i64 n), .c (.fn 29 [])] [rowF u] (fun r os => r = .tup [] ∧ ∃ s : List F3, os = [rowF s] ∧ s.Perm u ∧ Srt R s) := by
  (refine ACall.of_body (nt := 63) (rs := []) tabOK Try.func41 rfl rfl rfl rfl ?_; simp only [startSt, List.length_cons, List.length_nil, Nat.reduceAdd, Nat.reduceSub, List.replicate_succ, List.replicate_zero, List.cons_append, List.nil_append])
  simp only [VCp, VC_region, VC_seq, VC_block, VC_loop, aops_nil, aops_cons, put_some, qop, isQuiet, ASt.eval, AV.need, avOf, acOf, List.getD_cons_succ, List.getD_cons_zero, List.set_cons_succ, List.set_cons_zero, true_and]
  refine LoopAt.inv (ι := Nat × Nat × Nat × List F3) (T := tab) (fun s => [(6, .c (.int .i64 20)), (7, .c (.int .i64 s.2.1)), (8, .c (.int .i64 s.2.2.1))]) (fun s => [rowF s.2.2.2])
    (fun s => St1 R u s.2.2.2 s.1 ∧ s.2.1 = s.1 * 20 ∧ s.2.2.1 = s.1 * 20 + 20) (fun s => u.length - s.1 * 20) tabOK (0, 0, 20, u) ⟨⟨rfl, by simp, rfl, fun j hj => by simp at hj⟩, rfl, rfl⟩ ?_ ?_
  · (simp only [LessC, headSt, dsts, opDsts, resetS, putsS, lessS, lessO, belowS, belowO, AV.below, AObj.below, AC.below, List.set_cons_succ, List.set_cons_zero, List.cons_append, List.nil_append, List.append_nil, List.length_cons, List.length_nil, List.all_nil, Nat.reduceLT, Int.cast_ofNat_Int, AV.c.injEq, and_self, reduceCtorEq, Bool.and_true, Nat.zero_add, Nat.le_refl, eq_self, decide_true, or_true] <;> try omega)
  rintro ⟨k, a, b, xs⟩ ⟨h1, ha, hb⟩
  simp only at h1 ha hb
  have hk := h1.2.1
  have hxl := h1.1
  have htl : (xs.take (k * 20)).length = k * 20 := by rw [List.length_take]; omega
  simp only [VCp, headSt, dsts, opDsts, resetS, putsS, VC_skip, VC_region, VC_seq, VC_cond, VC_block, VC_exit, aops_nil, aops_cons, put_some, aop, qop, isQuiet, ASt.eval, ASt.ev, AV.strip, AV.need, AV.ac, AV.isTup, qbin, binInt, ned, isScalar, eInt, List.getD_cons_succ, List.getD_cons_zero, List.set_cons_succ, List.set_cons_zero, List.map_cons, List.map_nil, List.cons_append, List.nil_append, List.append_nil, decide_eq_true_eq, decide_eq_false_iff_not, Int.not_le, true_and, and_self, if_true, eq_self, tab_3]
  refine ⟨fun hle => ?_, fun hgt => ?_⟩
  · have hcut := st1_cut h1 20
    have hsg : ((u.drop (k * 20)).take 20).length = 20 := by rw [List.length_take, List.length_drop]; omega
    have hi := insertion_spec (R := R) tr (xs.take (k * 20)) ((u.drop (k * 20)).take 20) (u.drop (k * 20 + 20)) xs a b hcut (by omega) (by omega) (by omega) (fun x hx => hg x (mem_of_seg hx)) (hc.seg _ _)
    refine CallAt.call [0] [] hi (by decide) (fun i hi => by simp at hi; show i < 1; omega) (fun _ h => by cases h) rfl rfl (.inl rfl) ?_
    rintro r os ⟨rfl, s, rfl, hp, hs⟩
    simp only [VC_region, VC_seq, aops_nil, aops_cons, put_some, qop, isQuiet, ASt.eval, AV.need, AV.ac, qbin, binInt, AV.map, AObj.map, isScalar, giveBack, afterCall, eInt, List.getD_cons_succ, List.getD_cons_zero, List.set_cons_succ, List.set_cons_zero, List.map_nil, List.append_nil, List.length_cons, List.length_nil, true_and, and_self, Nat.zero_add, eq_self, tab_3]
    have wb : IntKind.i64.wrap ((b : Int) + 20) = (b : Int) + 20 := i64_in _ (by omega)
    refine ⟨(k + 1, b, b + 20, _), ⟨st1_step h1 (by omega) hp hs, by simp only []; omega, by simp only []; omega⟩, by simp only []; omega, ?_⟩
    (simp only [LessC, lessS, lessO, belowS, belowO, AV.below, AObj.below, AC.below, List.length_cons, List.length_nil, List.all_nil, Nat.reduceLT, Int.cast_ofNat_Int, Int.natCast_add, AV.c.injEq, AC.int.injEq, true_and, and_true, and_self, reduceCtorEq, Bool.and_true, Nat.zero_add, Nat.le_refl, eq_self, decide_true, or_true, or_false, false_or] <;> try omega)
  · have hcut := st1_cut h1 (u.length - k * 20)
    have hd : (u.drop (k * 20)).take (u.length - k * 20) = u.drop (k * 20) := List.take_of_length_le (by rw [List.length_drop]; exact Nat.le_refl _)
    rw [hd, List.drop_of_length_le (show u.length ≤ k * 20 + (u.length - k * 20) by omega)] at hcut
    have hi := insertion_spec (R := R) tr (xs.take (k * 20)) (u.drop (k * 20)) [] xs a n hcut (by omega) (by omega) (by rw [List.length_drop]; omega) (fun x hx => hg x (List.mem_of_mem_drop hx)) (hd ▸ hc.seg (k * 20) (u.length - k * 20))
    refine CallAt.call [0] [] hi (by decide) (fun i hi => by simp at hi; show i < 1; omega) (fun _ h => by cases h) rfl rfl (.inl rfl) ?_
    rintro r os ⟨rfl, s, rfl, hp, hs⟩
    simp only [VC_block, VC_loop, aops_nil, put_some, AV.map, AObj.map, giveBack, afterCall, List.set_cons_succ, List.set_cons_zero, List.map_nil, List.append_nil, List.length_cons, List.length_nil, Nat.zero_add]
    have h2 := st1_end h1 (by omega) hp hs
    rw [List.append_nil] at h2
    generalize xs.take (k * 20) ++ s = ys at *
    refine LoopAt.inv (ι := Nat × List F3) (T := tab) (fun s => [(6, .c (.int .i64 s.1))]) (fun s => [rowF s.2])
      (fun s => St2 R u s.2 s.1 ∧ 20 ≤ s.1 ∧ s.1 ≤ 2 * u.length + 20) (fun s => u.length - s.1) tabOK (20, ys) ⟨h2, by simp, by simp⟩ ?_ ?_
    · (simp only [LessC, headSt, dsts, opDsts, resetS, putsS, lessS, lessO, belowS, belowO, AV.below, AObj.below, AC.below, List.set_cons_succ, List.set_cons_zero, List.cons_append, List.nil_append, List.append_nil, List.length_cons, List.length_nil, List.all_nil, Nat.reduceLT, Int.cast_ofNat_Int, AV.c.injEq, and_self, reduceCtorEq, Bool.and_true, Nat.zero_add, Nat.le_refl, eq_self, decide_true, or_true, or_false] <;> try omega)
    clear h1 hcut hd hi hp hs h2 htl hxl hk
    rintro ⟨bs, xs⟩ ⟨h2, h3, h4⟩
    simp only at h2 h3 h4
    simp only [VCp, headSt, dsts, opDsts, resetS, putsS, VC_skip, VC_region, VC_seq, VC_cond, VC_block, VC_loop, VC_exit, aops_nil, aops_cons, put_some, qop, isQuiet, ASt.eval, AV.need, AV.ac, qbin, binInt, isScalar, avOf, acOf, eInt, List.getD_cons_succ, List.getD_cons_zero, List.set_cons_succ, List.set_cons_zero, List.cons_append, List.nil_append, List.append_nil, decide_eq_true_eq, decide_eq_false_iff_not, Int.not_lt, true_and, and_self, if_true, eq_self, tab_3]
    refine ⟨fun hlt => ?_, fun hge => ?_⟩
    · have w1 : IntKind.i64.wrap (2 * (bs : Int)) = ((2 * bs : Nat) : Int) := by rw [i64_in _ (by omega)]; omega
      obtain ⟨d, hd⟩ : ∃ d, d = 2 * bs := ⟨_, rfl⟩
      rw [← hd] at w1
      simp only [w1]
      refine LoopAt.inv (ι := Nat × Nat × Nat × List F3) (T := tab) (fun s => [(6, .c (.int .i64 bs)), (7, .c (.int .i64 s.2.1)), (8, .c (.int .i64 s.2.2.1))]) (fun s => [rowF s.2.2.2])
        (fun s => St3 R u s.2.2.2 bs s.1 ∧ s.2.1 = s.1 * d ∧ s.2.2.1 = s.2.1 + d) (fun s => u.length - s.2.1) tabOK (0, 0, d, xs) ⟨st3_init h2, by simp, by simp⟩ ?_ ?_
      · (simp only [LessC, headSt, dsts, opDsts, resetS, putsS, lessS, lessO, belowS, belowO, AV.below, AObj.below, AC.below, List.set_cons_succ, List.set_cons_zero, List.cons_append, List.nil_append, List.append_nil, List.length_cons, List.length_nil, List.all_nil, Nat.reduceLT, Int.cast_ofNat_Int, AV.c.injEq, and_self, reduceCtorEq, Bool.and_true, Nat.zero_add, Nat.le_refl, eq_self, decide_true, or_true] <;> try omega)
      rintro ⟨k, A, B, xs⟩ ⟨h5, hA, hB⟩
      simp only at h5 hA hB
      have hk := h5.2.1
      have hxl := h5.1
      rw [← hd] at hk
      have hk1 : (k + 1) * d = k * d + d := by rw [Nat.add_mul, Nat.one_mul]
      have hL := st3_left h5
      have hR := st3_right h5
      have hcut := cut_two xs (k * (2 * bs)) bs bs
      have hS1 := fun (hb : k * (2 * bs) + 2 * bs ≤ u.length) (s : List F3) => st3_step h5 hb (s := s)
      have hS2 := fun (hb : u.length < k * (2 * bs) + 2 * bs) (s : List F3) => st3_end1 h5 hb (s := s)
      have hS3 := st3_end2 h5
      have hcr := cross_seg hc (Nat.le_refl _) hL.1 hR.1
      rw [← hd] at hL hR hcut hS1 hS2 hS3 hcr
      rw [← hA] at hL hR hcut hS1 hS2 hS3 hcr hk hk1
      have htl : (xs.take A).length = A := by rw [List.length_take]; omega
      have n1 : ((xs.drop A).take bs).length = min bs (u.length - A) := by rw [List.length_take, List.length_drop, hxl]
      have n2 : ((xs.drop (A + bs)).take bs).length = min bs (u.length - (A + bs)) := by rw [List.length_take, List.length_drop, hxl]
      have n3 : (xs.drop (A + bs + bs)).length = u.length - (A + bs + bs) := by rw [List.length_drop, hxl]
      have gl : ∀ x ∈ (xs.drop A).take bs, Gd x := fun x hx => hg x (mem_of_seg (hL.1.mem_iff.1 hx))
      have gr : ∀ x ∈ (xs.drop (A + bs)).take bs, Gd x := fun x hx => hg x (mem_of_seg (hR.1.mem_iff.1 hx))
      have w2 : IntKind.i64.wrap ((A : Int) + (bs : Int)) = ((A + bs : Nat) : Int) := by rw [i64_in _ (by omega)]; omega
      obtain ⟨M, hM⟩ : ∃ M, M = A + bs := ⟨_, rfl⟩
      rw [← hM] at w2 hR hcut n2 n3 gr hcr hS1 hS2 hS3
      simp only [VCp, headSt, dsts, opDsts, resetS, putsS, VC_skip, VC_region, VC_seq, VC_cond, VC_block, VC_exit, aops_nil, aops_cons, put_some, aop, qop, isQuiet, ASt.eval, ASt.ev, AV.strip, AV.need, AV.ac, AV.isTup, qbin, binInt, ned, isScalar, avOf, acOf, eInt, List.getD_cons_succ, List.getD_cons_zero, List.set_cons_succ, List.set_cons_zero, List.map_cons, List.map_nil, List.cons_append, List.nil_append, List.append_nil, decide_eq_true_eq, decide_eq_false_iff_not, Int.not_lt, Int.not_le, true_and, and_self, if_true, if_false, Nat.reduceEqDiff, eq_self, Nat.succ_ne_self, tab_3, w2]
      refine ⟨fun hle => ?_, fun hgt => ?_⟩
      · have hi := merge_spec (R := R) tr _ (xs.take A) ((xs.drop A).take bs) ((xs.drop M).take bs) (xs.drop (M + bs)) A M B (Nat.lt_succ_self _) (by omega) htl.symm (by omega) (by omega) (by omega) (by omega) gl gr hL.2 hR.2 hcr
        rw [← hcut] at hi
        refine CallAt.call [0] [] hi (by decide) (fun i hi => by simp at hi; show i < 1; omega) (fun _ h => by cases h) rfl rfl (.inl rfl) ?_
        rintro r os ⟨rfl, s, rfl, hp, hs⟩
        simp only [VC_region, VC_seq, aops_nil, aops_cons, put_some, qop, isQuiet, ASt.eval, AV.need, AV.ac, qbin, binInt, AV.map, AObj.map, isScalar, avOf, acOf, giveBack, afterCall, eInt, List.getD_cons_succ, List.getD_cons_zero, List.set_cons_succ, List.set_cons_zero, List.map_nil, List.append_nil, List.length_cons, List.length_nil, true_and, and_self, Nat.zero_add, eq_self, tab_3]
        have w3 : IntKind.i64.wrap (2 * (bs : Int)) = (d : Int) := by rw [i64_in _ (by omega)]; omega
        have w4 : IntKind.i64.wrap ((B : Int) + (d : Int)) = (B : Int) + (d : Int) := i64_in _ (by omega)
        have w5 : IntKind.i64.wrap ((bs : Int) * 2) = (d : Int) := by rw [i64_in _ (by omega)]; omega
        simp only [w3, w4]
        refine ⟨(k + 1, B, B + d, _), ⟨hS1 (by omega) s hp hs, by simp only []; omega, rfl⟩, by simp only []; omega, ?_⟩
        (simp only [LessC, lessS, lessO, belowS, belowO, AV.below, AObj.below, AC.below, List.length_cons, List.length_nil, List.all_nil, Nat.reduceLT, Int.natCast_add, AV.c.injEq, and_self, reduceCtorEq, Bool.and_true, Nat.zero_add, Nat.le_refl, eq_self, decide_true, or_true, or_false] <;> try omega)
      · have w5 : IntKind.i64.wrap ((bs : Int) * 2) = (d : Int) := by rw [i64_in _ (by omega)]; omega
        refine ⟨fun hlt => ?_, fun hge => ?_⟩
        · rw [List.drop_of_length_le (show xs.length ≤ M + bs by omega)] at hcut
          have hi := merge_spec (R := R) tr _ (xs.take A) ((xs.drop A).take bs) ((xs.drop M).take bs) [] A M n (Nat.lt_succ_self _) (by simp only [List.length_nil]; omega) htl.symm (by omega) (by omega) (by omega) (by omega) gl gr hL.2 hR.2 hcr
          rw [← hcut] at hi
          refine CallAt.call [0] [] hi (by decide) (fun i hi => by simp at hi; show i < 1; omega) (fun _ h => by cases h) rfl rfl (.inl rfl) ?_
          rintro r os ⟨rfl, s, rfl, hp, hs⟩
          simp only [VC_region, aops_nil, aops_cons, put_some, qop, isQuiet, ASt.eval, AV.need, AV.ac, qbin, binInt, AV.map, AObj.map, isScalar, avOf, acOf, giveBack, afterCall, eInt, List.getD_cons_succ, List.getD_cons_zero, List.set_cons_succ, List.set_cons_zero, List.map_nil, List.append_nil, List.length_cons, List.length_nil, true_and, and_self, Nat.zero_add, eq_self, tab_3, w5]
          refine ⟨(d, _), ⟨hS2 (by omega) s hp hs, by simp only []; omega, by simp only []; omega⟩, by simp only []; omega, ?_⟩
          (simp only [LessC, lessS, lessO, belowS, belowO, AV.below, AObj.below, AC.below, List.append_nil, List.length_cons, List.length_nil, List.all_nil, Nat.reduceLT, AV.c.injEq, and_self, reduceCtorEq, Bool.and_true, Nat.zero_add, Nat.le_refl, eq_self, decide_true, or_true, or_false] <;> try omega)
        · simp only [w5]
          refine ⟨(d, xs), ⟨hS3 (by omega), by simp only []; omega, by simp only []; omega⟩, by simp only []; omega, ?_⟩
          (simp only [LessC, lessS, lessO, belowS, belowO, AV.below, AObj.below, AC.below, List.length_cons, List.length_nil, List.all_nil, Nat.reduceLT, AV.c.injEq, and_self, reduceCtorEq, Bool.and_true, Nat.zero_add, Nat.le_refl, eq_self, decide_true, or_true, or_false] <;> try omega)
    · refine RetAt.of [0] rfl ?_ rfl (by decide) (by decide) ?_ <;> simp only [resOf, tupOf, keepObjs, keepObjs, XObj.amap, AV.map, AObj.map, findIx, AC.ren, List.getD_cons_zero, List.map_cons, List.map_nil, true_and, eq_self]
      have := run_last (h2.2 0) h2.1 (by omega)
      exact ⟨xs, rfl, this.1, this.2⟩
set_option maxHeartbeats 4000000 in
theorem sortStable_spec {R : F3 → F3 → Prop} (tr : ∀ {x y w : F3}, R x y → R y w → R x w) (u : List F3) (hl : u.length ≤ 1099511627776) (hg : ∀ x ∈ u, Gd x) (hc : Cr R cF u) :
    ACall Try.prog 28 [.c (.sl 0), .c (.fn 29 [])] [rowF u] (fun r os => r = .tup [] ∧ ∃ s : List F3, os = [rowF s] ∧ s.Perm u ∧ Srt R s) := by
  (refine ACall.of_body (nt := 9) (rs := []) tabOK Try.func28 rfl rfl rfl rfl ?_; simp only [startSt, List.length_cons, List.length_nil, Nat.reduceAdd, Nat.reduceSub, List.replicate_succ, List.replicate_zero, List.cons_append, List.nil_append])
  simp only [VCp, VC_region, aops_cons, put_some, aop, qop, isQuiet, ASt.eval, ASt.ev, AV.strip, AV.need, AV.ac, AV.isTup, qlen, ned, ASt.obj, eInt, eList, ePair, List.getD_cons_succ, List.getD_cons_zero, List.set_cons_succ, List.set_cons_zero, List.map_cons, List.map_nil, List.cons_append, List.nil_append, true_and, and_self, eq_self, tab_62]
  refine CallAt.call [0] [] (stable_spec (R := R) tr u u.length rfl hl hg hc) (by decide) (fun i hi => by simp at hi; show i < 1; omega) (fun _ h => by cases h) rfl rfl (.inl rfl) ?_
  rintro r os ⟨rfl, s, rfl, hp, hs⟩
  simp only [aops_nil, put_some, AV.map, AObj.map, giveBack, afterCall, List.set_cons_succ, List.set_cons_zero, List.map_nil, List.append_nil, List.length_cons, List.length_nil, Nat.zero_add]
  refine RetAt.of [0] rfl ?_ rfl (by decide) (by decide) ?_ <;> simp only [resOf, tupOf, keepObjs, keepObjs, XObj.amap, AV.map, AObj.map, findIx, AC.ren, List.getD_cons_zero, List.map_cons, List.map_nil, true_and, eq_self]
  exact ⟨s, rfl, hp, hs⟩
end Go.Vc.Sn
