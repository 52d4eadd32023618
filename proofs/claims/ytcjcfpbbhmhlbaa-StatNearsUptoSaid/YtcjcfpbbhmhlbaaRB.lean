/- Two stretches of a list change places. -/
import Derived.Test.YtcjcfpbbhmhlbaaVT
import Derived.Test.YtcjcfpbbhmhlbaaV28
import Derived.IntWalk
set_option linter.unusedVariables false
namespace Go.Vc.Sn
theorem swapL {α : Type} (z : α) {xs A B C : List α} {x y : α} {i j : Nat} (hx : xs = A ++ x :: (B ++ y :: C)) (hi : i = A.length) (hj : j = A.length + 1 + B.length) :
    (xs.set i (xs.getD j z)).set j (xs.getD i z) = A ++ y :: (B ++ x :: C) := by
  subst hx hi hj
  have e1 : (A ++ x :: (B ++ y :: C)).getD A.length z = x := by simp [List.getD]
  have e2 : (A ++ x :: (B ++ y :: C)).getD (A.length + 1 + B.length) z = y := by
    rw [show A ++ x :: (B ++ y :: C) = (A ++ x :: B) ++ y :: C by simp, show A.length + 1 + B.length = (A ++ x :: B).length by simp; omega]
    simp [List.getD]
  have e3 : (A ++ x :: (B ++ y :: C)).set A.length y = A ++ y :: (B ++ y :: C) := by simp
  rw [e1, e2, e3]
  rw [show A ++ y :: (B ++ y :: C) = (A ++ y :: B) ++ y :: C by simp, show A.length + 1 + B.length = (A ++ y :: B).length by simp; omega]
  simp
theorem swapR {α : Type} (z : α) {xs A B C : List α} {x y : α} {i j : Nat} (hx : xs = A ++ x :: (B ++ y :: C)) (hi : i = A.length) (hj : j = A.length + 1 + B.length) :
    (xs.set j (xs.getD i z)).set i (xs.getD j z) = A ++ y :: (B ++ x :: C) := by
  rw [← swapL z hx hi hj, List.set_comm _ _ (by omega)]
/-- sorted -/
def Srt {α : Type} (R : α → α → Prop) (l : List α) : Prop := l.Pairwise R
/-- what the comparison says of elements of the second list against those of the first -/
def Cross {α : Type} (R : α → α → Prop) (c : α → α → Bool) (l r : List α) : Prop := ∀ x ∈ l, ∀ y ∈ r, (c y x = true → R y x) ∧ (c y x = false → R x y)
theorem Cross.sub {α : Type} {R : α → α → Prop} {c : α → α → Bool} {l r l' r' : List α} (h : Cross R c l r) (hl : ∀ x ∈ l', x ∈ l) (hr : ∀ x ∈ r', x ∈ r) : Cross R c l' r' :=
  fun x hx y hy => h x (hl x hx) y (hr y hy)
theorem split_at {α : Type} (z : α) (l : List α) {i : Nat} (h : i < l.length) : l = l.take i ++ l.getD i z :: l.drop (i + 1) := by
  have : l.getD i z = l[i] := by simp [List.getD, h]
  rw [this, List.getElem_cons_drop, List.take_append_drop]
theorem take_step {α : Type} (z : α) (l : List α) {i : Nat} (h : i < l.length) : l.take (i + 1) = l.take i ++ [l.getD i z] := by
  have : l.getD i z = l[i] := by simp [List.getD, h]
  rw [this, List.take_succ_eq_append_getElem h]
theorem drop_step {α : Type} (z : α) (l : List α) {i : Nat} (h : i < l.length) : l.drop i = l.getD i z :: l.drop (i + 1) := by
  have : l.getD i z = l[i] := by simp [List.getD, h]
  rw [this, List.getElem_cons_drop]
theorem srt_app {α : Type} {R : α → α → Prop} {a b : List α} : Srt R (a ++ b) ↔ Srt R a ∧ Srt R b ∧ ∀ x ∈ a, ∀ y ∈ b, R x y := List.pairwise_append
theorem srt_take {α : Type} {R : α → α → Prop} {l : List α} (h : Srt R l) (k : Nat) : Srt R (l.take k) := by
  rw [← List.take_append_drop k l] at h
  exact (srt_app.1 h).1
theorem srt_drop {α : Type} {R : α → α → Prop} {l : List α} (h : Srt R l) (k : Nat) : Srt R (l.drop k) := by
  rw [← List.take_append_drop k l] at h
  exact (srt_app.1 h).2.1
theorem srt_cut {α : Type} {R : α → α → Prop} {l : List α} (h : Srt R l) (k : Nat) : ∀ x ∈ l.take k, ∀ y ∈ l.drop k, R x y := by
  rw [← List.take_append_drop k l] at h
  exact (srt_app.1 h).2.2
section
variable {α : Type} {R : α → α → Prop} (tr : ∀ {x y w : α}, R x y → R y w → R x w) (z : α)
include tr
theorem up_take {t : List α} (h : Srt R t) {i : Nat} (hi : i < t.length) {e : α} (hr : R (t.getD i z) e) : ∀ x ∈ t.take (i + 1), R x e := by
  intro x hx
  rw [take_step z t hi, List.mem_append, List.mem_singleton] at hx
  rcases hx with hx | rfl
  · refine tr (srt_cut h i x hx (t.getD i z) ?_) hr
    rw [drop_step z t hi]
    exact List.mem_cons_self
  · exact hr
theorem down_drop {t : List α} (h : Srt R t) {i : Nat} (hi : i < t.length) {e : α} (hr : R e (t.getD i z)) : ∀ x ∈ t.drop i, R e x := by
  intro x hx
  have h2 := srt_drop h i
  rw [drop_step z t hi] at hx h2
  rcases List.mem_cons.1 hx with rfl | hx
  · exact hr
  · exact tr hr ((List.pairwise_cons.1 h2).1 x hx)
theorem low_part {l r : List α} (hl : Srt R l) (hr : Srt R r) {i j : Nat} (hi : i < l.length) (hj : j < r.length) (h : R (l.getD i z) (r.getD j z)) : ∀ x ∈ l.take (i + 1), ∀ y ∈ r.drop j, R x y := by
  intro x hx y hy
  exact down_drop (R := R) tr z hr hj (up_take (R := R) tr z hl hi h x hx) y hy
end
theorem ins_sorted {α : Type} {R : α → α → Prop} {t : List α} (h : Srt R t) {k : Nat} {e : α} (h1 : ∀ x ∈ t.take k, R x e) (h2 : ∀ x ∈ t.drop k, R e x) : Srt R (t.take k ++ e :: t.drop k) := by
  refine srt_app.2 ⟨srt_take h k, List.pairwise_cons.2 ⟨h2, srt_drop h k⟩, fun x hx y hy => ?_⟩
  rcases List.mem_cons.1 hy with rfl | hy
  · exact h1 x hx
  · exact srt_cut h k x hx y hy
theorem ins_perm {α : Type} (t : List α) (k : Nat) (e : α) : (t.take k ++ e :: t.drop k).Perm (e :: t) := by
  have h := List.perm_middle (a := e) (l₁ := t.take k) (l₂ := t.drop k)
  rwa [List.take_append_drop] at h
theorem halves {α : Type} {R : α → α → Prop} {l r : List α} (u v : Nat) (hl : Srt R l) (hr : Srt R r) (h1 : ∀ x ∈ l.take u, ∀ y ∈ r.drop v, R x y) (h2 : ∀ y ∈ r.take v, ∀ x ∈ l.drop u, R y x) {s1 s2 : List α}
    (p1 : s1.Perm (l.take u ++ r.take v)) (p2 : s2.Perm (l.drop u ++ r.drop v)) (q1 : Srt R s1) (q2 : Srt R s2) : (s1 ++ s2).Perm (l ++ r) ∧ Srt R (s1 ++ s2) := by
  constructor
  · refine (p1.append p2).trans ?_
    have e : l ++ r = (l.take u ++ l.drop u) ++ (r.take v ++ r.drop v) := by rw [List.take_append_drop, List.take_append_drop]
    rw [e, List.append_assoc, List.append_assoc]
    refine List.Perm.append_left _ ?_
    rw [← List.append_assoc, ← List.append_assoc]
    exact List.Perm.append_right _ List.perm_append_comm
  · refine srt_app.2 ⟨q1, q2, fun x hx y hy => ?_⟩
    rcases List.mem_append.1 (p1.mem_iff.1 hx) with hx | hx <;> rcases List.mem_append.1 (p2.mem_iff.1 hy) with hy | hy
    · exact srt_cut hl u x hx y hy
    · exact h1 x hx y hy
    · exact h2 x hx y hy
    · exact srt_cut hr v x hx y hy
theorem seg_left {α : Type} {xs ys : List α} {a : Nat} (h : xs.take a = ys.take a) {i n : Nat} (hi : i + n ≤ a) : (xs.drop i).take n = (ys.drop i).take n := by
  have e : ∀ l : List α, (l.drop i).take n = ((l.take a).drop i).take n := fun l => by
    rw [List.drop_take, List.take_take, Nat.min_eq_left (by omega)]
  rw [e xs, e ys, h]
theorem seg_right {α : Type} {xs ys : List α} {b : Nat} (h : xs.drop b = ys.drop b) {i : Nat} (hi : b ≤ i) (n : Nat) : (xs.drop i).take n = (ys.drop i).take n := by
  have e : ∀ l : List α, l.drop i = (l.drop b).drop (i - b) := fun l => by rw [List.drop_drop]; congr 1; omega
  rw [e xs, e ys, h]
/-- a block is sorted, and holds what it held -/
def Run {α : Type} (R : α → α → Prop) (u xs : List α) (bs k : Nat) : Prop := ((xs.drop (k * bs)).take bs).Perm ((u.drop (k * bs)).take bs) ∧ Srt R ((xs.drop (k * bs)).take bs)
/-- what the comparison says of a later element against an earlier one -/
def Cr {α : Type} (R : α → α → Prop) (c : α → α → Bool) (u : List α) : Prop := u.Pairwise (fun x y => (c y x = true → R y x) ∧ (c y x = false → R x y))
theorem Cr.cross {α : Type} {R : α → α → Prop} {c : α → α → Bool} {u : List α} (h : Cr R c u) (m : Nat) : Cross R c (u.take m) (u.drop m) := by
  unfold Cr at h
  rw [← List.take_append_drop m u, List.pairwise_append] at h
  exact h.2.2
theorem Cr.seg {α : Type} {R : α → α → Prop} {c : α → α → Bool} {u : List α} (h : Cr R c u) (i n : Nat) : Cr R c ((u.drop i).take n) :=
  h.sublist ((List.take_sublist _ _).trans (List.drop_sublist _ _))
theorem block_mid {α : Type} {p s q : List α} {a n : Nat} (ha : a = p.length) (hn : n = s.length) : ((p ++ (s ++ q)).drop a).take n = s := by
  subst ha hn
  rw [List.drop_left, List.take_left]
theorem block_end {α : Type} {p s : List α} {a n : Nat} (ha : a = p.length) (hn : s.length ≤ n) : ((p ++ s).drop a).take n = s := by
  subst ha
  rw [List.drop_left, List.take_of_length_le hn]
theorem runs_step {α : Type} {R : α → α → Prop} {u xs s q : List α} {bs k a : Nat} (ha : a = k * bs) (han : a ≤ xs.length) (h : ∀ j, j < k → Run R u xs bs j) (hp : s.Perm ((u.drop a).take bs)) (hs : Srt R s)
    (hq : s.length = bs ∨ (q = [] ∧ s.length ≤ bs)) : ∀ j, j < k + 1 → Run R u (xs.take a ++ (s ++ q)) bs j := by
  intro j hj
  have htl : (xs.take a).length = a := by rw [List.length_take]; omega
  by_cases hk : j = k
  · subst hk
    have e : (((xs.take a ++ (s ++ q)).drop (j * bs)).take bs) = s := by
      rw [← ha]
      rcases hq with hq | ⟨rfl, hq⟩
      · exact block_mid htl.symm hq.symm
      · rw [List.append_nil]; exact block_end htl.symm hq
    unfold Run
    rw [e, ← ha]
    exact ⟨hp, hs⟩
  · have hj' : j < k := by omega
    have h1 : (j + 1) * bs ≤ k * bs := Nat.mul_le_mul_right _ hj'
    rw [Nat.add_mul, Nat.one_mul] at h1
    have e := seg_left (xs := xs.take a ++ (s ++ q)) (ys := xs) (a := a) (by rw [List.take_append_of_le_length (by omega), List.take_take, Nat.min_self]) (i := j * bs) (n := bs) (by omega)
    unfold Run
    rw [e]
    exact h j hj'
theorem runs_keep {α : Type} {R : α → α → Prop} {u xs ys : List α} {bs b m : Nat} (h : ∀ j, m ≤ j → Run R u xs bs j) (hd : ys.drop b = xs.drop b) (hb : b ≤ m * bs) : ∀ j, m ≤ j → Run R u ys bs j := by
  intro j hj
  have h1 : m * bs ≤ j * bs := Nat.mul_le_mul_right _ hj
  have e := seg_right hd (i := j * bs) (by omega) bs
  unfold Run
  rw [e]
  exact h j hj
theorem mem_seg {α : Type} {u : List α} {a n m : Nat} (h : a + n ≤ m) {x : α} (hx : x ∈ (u.drop a).take n) : x ∈ u.take m := by
  have e : (u.drop a).take n = ((u.take m).drop a).take n := by rw [List.drop_take, List.take_take, Nat.min_eq_left (by omega)]
  rw [e] at hx
  exact List.mem_of_mem_drop (List.mem_of_mem_take hx)
theorem cross_seg {α : Type} {R : α → α → Prop} {c : α → α → Bool} {u l r : List α} (h : Cr R c u) {a m bs n : Nat} (hm : a + bs ≤ m) (hl : l.Perm ((u.drop a).take bs)) (hr : r.Perm ((u.drop m).take n)) : Cross R c l r :=
  (h.cross m).sub (fun x hx => mem_seg hm (hl.mem_iff.1 hx)) (fun x hx => List.mem_of_mem_take (hr.mem_iff.1 hx))
theorem take_two {α : Type} (t : List α) (n : Nat) : t.take (2 * n) = t.take n ++ (t.drop n).take n := by
  rw [show 2 * n = n + n by omega, List.take_add]
theorem cut_two {α : Type} (xs : List α) (a n m : Nat) : xs = xs.take a ++ ((xs.drop a).take n ++ ((xs.drop (a + n)).take m ++ xs.drop (a + n + m))) := by
  have e1 : xs.drop a = (xs.drop a).take n ++ xs.drop (a + n) := by
    rw [← List.drop_drop, List.take_append_drop]
  have e2 : xs.drop (a + n) = (xs.drop (a + n)).take m ++ xs.drop (a + n + m) := by
    have e3 : xs.drop (a + n + m) = (xs.drop (a + n)).drop m := by rw [List.drop_drop]
    rw [e3, List.take_append_drop]
  rw [← e2, ← e1, List.take_append_drop]
theorem run_last {α : Type} {R : α → α → Prop} {u xs : List α} {bs : Nat} (h : Run R u xs bs 0) (hl : xs.length = u.length) (hb : u.length ≤ bs) : xs.Perm u ∧ Srt R xs := by
  unfold Run at h
  rw [Nat.zero_mul, List.drop_zero, List.drop_zero, List.take_of_length_le (by omega), List.take_of_length_le hb] at h
  exact h
end Go.Vc.Sn
set_option linter.unusedVariables false
set_option linter.unusedSimpArgs false
namespace Go.Vc.Sn
open Go.Proofs Go.IntWalk Go.Vc
set_option maxRecDepth 100000
abbrev F3 : Type := Int × Int × Int
abbrev zF : F3 := (0, 0, 0)
abbrev rowF (xs : List F3) : AObj := .row 64 3 F3 (0, 0, 0) (fun x => [.int .i64 x.1, .int .i64 x.2.1, .int .i64 x.2.2]) xs
theorem i64_in (n : Int) (h : -9223372036854775808 ≤ n ∧ n ≤ 9223372036854775807) : IntKind.i64.wrap n = n := Go.IntWalk.i64_in n h
/-- the two stretches, the first k of them changed -/
def swD (p u w v q : List F3) (k : Nat) : List F3 := p ++ (v.take k ++ (u.drop k ++ (w ++ (u.take k ++ (v.drop k ++ q)))))
theorem swD_len {p u w v q : List F3} (h : u.length = v.length) (k : Nat) : (swD p u w v q k).length = p.length + u.length + w.length + v.length + q.length := by
  unfold swD
  simp only [List.length_append, List.length_take, List.length_drop]
  omega
theorem swD_zero (p u w v q : List F3) : swD p u w v q 0 = p ++ (u ++ (w ++ (v ++ q))) := by simp [swD]
theorem swD_end {p u w v q : List F3} (h : u.length = v.length) : swD p u w v q u.length = p ++ (v ++ (w ++ (u ++ q))) := by
  unfold swD
  rw [List.take_length, List.drop_length, h, List.take_length, List.drop_length]
  simp
theorem swD_step {p u w v q : List F3} (h : u.length = v.length) {k i j : Nat} (hk : k < u.length) (hi : i = p.length + k) (hj : j = p.length + u.length + w.length + k) :
    ((swD p u w v q k).set i ((swD p u w v q k).getD j zF)).set j ((swD p u w v q k).getD i zF) = swD p u w v q (k + 1) := by
  have e : swD p u w v q k = (p ++ v.take k) ++ u.getD k zF :: ((u.drop (k + 1) ++ (w ++ u.take k)) ++ v.getD k zF :: (v.drop (k + 1) ++ q)) := by
    unfold swD
    rw [drop_step zF u hk, drop_step zF v (by omega)]
    simp
  rw [swapL zF e (by simp only [List.length_append, List.length_take]; omega) (by simp only [List.length_append, List.length_take, List.length_drop]; omega)]
  unfold swD
  rw [take_step zF u hk, take_step zF v (by omega)]
  simp
set_option maxHeartbeats 4000000 in
theorem swapRange_spec (p u w v q xs : List F3) (a b n : Nat) (h : u.length = v.length) (hx : xs = p ++ (u ++ (w ++ (v ++ q)))) (hl : xs.length ≤ 140737488355328) (ha : a = p.length) (hb : b = p.length + u.length + w.length) (hn : n = u.length) :
    ACall Try.prog 78 [.c (.sl 0), .c (.int .i64 a), .c (.int .i64 b), .c (.int .i64 n), .c (.fn 29 [])] [rowF xs] (fun r os => r = .tup [] ∧ os = [rowF (p ++ (v ++ (w ++ (u ++ q))))]) := by
  have hlen : xs.length = p.length + u.length + w.length + v.length + q.length := by rw [hx, ← swD_zero, swD_len h]
  (refine ACall.of_body (nt := 38) (rs := []) tabOK Try.func78 rfl rfl rfl rfl ?_; simp only [startSt, List.length_cons, List.length_nil, Nat.reduceAdd, Nat.reduceSub, List.replicate_succ, List.replicate_zero, List.cons_append, List.nil_append])
  simp only [VCp, VC_region, VC_seq, VC_block, VC_loop, aops_nil, aops_cons, put_some, qop, isQuiet, ASt.eval, AV.need, avOf, acOf, List.set_cons_succ, List.set_cons_zero, true_and]
  refine LoopAt.inv (ι := Nat) (T := tab) (fun k => [(10, .c (.int .i64 k))]) (fun k => [rowF (swD p u w v q k)]) (fun k => k ≤ u.length) (fun k => u.length - k) tabOK 0 (Nat.zero_le _) ?_ ?_
  · (simp only [LessC, headSt, dsts, opDsts, resetS, putsS, lessS, lessO, belowS, belowO, AV.below, AObj.below, AC.below, List.set_cons_succ, List.set_cons_zero, List.cons_append, List.nil_append, List.append_nil, List.length_cons, List.length_nil, List.all_nil, Nat.reduceLT, Int.cast_ofNat_Int, AV.c.injEq, AObj.row.injEq, heq_eq_eq, true_and, and_true, and_self, reduceCtorEq, Bool.and_true, Nat.zero_add, Nat.le_refl, eq_self, decide_true, or_true] <;> try omega)
    rw [hx, swD_zero]
  intro k hk
  have hL := swD_len (p := p) (w := w) (q := q) h k
  have w1 : IntKind.i64.wrap ((a : Int) + (k : Int)) = ((a + k : Nat) : Int) := by rw [i64_in _ (by omega)]; omega
  have w2 : IntKind.i64.wrap ((b : Int) + (k : Int)) = ((b + k : Nat) : Int) := by rw [i64_in _ (by omega)]; omega
  simp only [VCp, headSt, dsts, opDsts, resetS, putsS, VC_skip, VC_region, VC_draw, VC_seq, VC_cond, VC_block, VC_exit, aops_nil, aops_cons, put_some, qop, isQuiet, ASt.eval, AV.need, AV.ac, qbin, binInt, isScalar, eInt, List.getD_cons_succ, List.getD_cons_zero, List.set_cons_succ, List.set_cons_zero, List.cons_append, List.nil_append, List.append_nil, decide_eq_true_eq, decide_eq_false_iff_not, Int.not_lt, true_and, and_self, if_true, eq_self, tab_3]
  refine ⟨fun hlt => ?_, fun hge => ?_⟩
  · have hst := swD_step (p := p) (w := w) (q := q) h (i := a + k) (j := b + k) (show k < u.length by omega) (by omega) (by omega)
    refine DrawAt.plan tabOK mixed (.take 0 true (.take 1 true (.take 2 true (.take 3 true (.take 4 false (.take 5 false (.take 6 false (.take 7 false (.take 8 true (.take 9 true (.take 10 true (.take 11 true (.take 12 true (.take 13 true (.take 14 false (.take 15 false (.take 16 false (.take 17 false (.take 18 false (.take 19 true (.take 20 true (.alt 21 (.take 22 true (.alt 23 .done .stop)) .stop)))))))))))))))))))))) (by decide +kernel) ?_
    simp only [avc_done, avc_stop, avc_take, avc_alt, qstep, lstep, ownLoad, VC_region, aops_nil, aops_cons, put_some, put_none, aop, qop, isQuiet, ASt.eval, ASt.ev, AV.strip, AV.need, AV.ac, AV.cells, AV.isTup, qbin, binInt, qindexAddr, qload, splice, ned, astore, ASt.setObj, ASt.obj, frzRefs, dvs, AC.dv, DV.ac, leD, leD1, ofCells, TI.isAgg, isScalar, avOf, acOf, eInt, eList, ePair, List.getD_cons_succ, List.getD_cons_zero, List.set_cons_succ, List.set_cons_zero, List.map_cons, List.map_nil, List.cons_append, List.nil_append, List.append_nil, List.length_cons, List.length_nil, List.drop_succ_cons, List.drop_zero, List.drop_nil, List.take_succ_cons, List.take_zero, List.take_nil, List.getElem?_cons_succ, List.getElem?_cons_zero, Int.natCast_add, DV.int.injEq, List.length_set, true_and, and_true, and_self, reduceCtorEq, not_false_eq_true, Bool.false_eq_true, Bool.true_eq_false, Nat.zero_add, Nat.reduceAdd, Nat.le_refl, eq_self, or_true, or_false, tab_3, tab_62, tab_64, w1, w2]
    repeat' (first | (with_reducible apply And.intro) | (with_reducible intro _))
    all_goals first | omega | skip
    have t1 : ((a : Int) + (k : Int)).toNat = a + k := by omega
    have t2 : ((b : Int) + (k : Int)).toNat = b + k := by omega
    simp only [t1, t2]
    refine ⟨_, ⟨rfl, rfl, rfl⟩, by omega, by omega, _, ⟨rfl, rfl, rfl⟩, k + 1, by omega, by omega, ?_⟩
    (simp only [LessC, lessS, lessO, belowS, belowO, AV.below, AObj.below, AC.below, List.length_cons, List.length_nil, List.all_nil, Nat.reduceLT, Int.cast_ofNat_Int, Int.natCast_add, AV.c.injEq, AC.int.injEq, AObj.row.injEq, heq_eq_eq, true_and, and_true, and_self, reduceCtorEq, Bool.and_true, Nat.zero_add, Nat.le_refl, eq_self, decide_true, or_true, or_false, false_or] <;> try omega)
    exact ⟨i64_in _ (by omega), hst⟩
  · have : k = u.length := by omega
    subst this
    refine RetAt.of [0] rfl ?_ rfl (by decide) (by decide) ?_ <;> simp only [resOf, tupOf, keepObjs, keepObjs, XObj.amap, AV.map, AObj.map, findIx, AC.ren, List.getD_cons_zero, List.map_cons, List.map_nil, true_and, eq_self]
    rw [swD_end h]
set_option maxHeartbeats 8000000 in
/-- two neighbouring stretches change places -/
theorem rotate_spec (p u v q xs : List F3) (a m b : Nat) (hx : xs = p ++ (u ++ (v ++ q))) (hl : xs.length ≤ 140737488355328) (ha : a = p.length) (hm : m = p.length + u.length) (hb : b = p.length + u.length + v.length) (hu : 0 < u.length) (hv : 0 < v.length) :
    ACall Try.prog 65 [.c (.sl 0), .c (.int .i64 a), .c (.int .i64 m), .c (.int .i64 b), .c (.fn 29 [])] [rowF xs] (fun r os => r = .tup [] ∧ os = [rowF (p ++ (v ++ (u ++ q)))]) := by
  have hlen : xs.length = p.length + u.length + v.length + q.length := by rw [hx]; simp only [List.length_append]; omega
  have w1 : IntKind.i64.wrap ((m : Int) - (a : Int)) = (u.length : Int) := by rw [i64_in _ (by omega)]; omega
  have w2 : IntKind.i64.wrap ((b : Int) - (m : Int)) = (v.length : Int) := by rw [i64_in _ (by omega)]; omega
  (refine ACall.of_body (nt := 58) (rs := []) tabOK Try.func65 rfl rfl rfl rfl ?_; simp only [startSt, List.length_cons, List.length_nil, Nat.reduceAdd, Nat.reduceSub, List.replicate_succ, List.replicate_zero, List.cons_append, List.nil_append])
  simp only [VCp, VC_region, VC_seq, VC_block, VC_loop, aops_nil, aops_cons, put_some, qop, isQuiet, ASt.eval, AV.need, AV.ac, qbin, binInt, isScalar, eInt, List.getD_cons_succ, List.getD_cons_zero, List.set_cons_succ, List.set_cons_zero, true_and, and_self, eq_self, tab_3, w1, w2]
  refine LoopAt.inv (ι := List F3 × List F3 × List F3 × List F3) (T := tab) (fun s => [(10, .c (.int .i64 s.2.1.length)), (11, .c (.int .i64 s.2.2.1.length))]) (fun s => [rowF (s.1 ++ (s.2.1 ++ (s.2.2.1 ++ s.2.2.2)))])
    (fun s => s.1.length + s.2.1.length = m ∧ 0 < s.2.1.length ∧ 0 < s.2.2.1.length ∧ s.1.length + s.2.1.length + s.2.2.1.length + s.2.2.2.length = xs.length ∧ s.1 ++ (s.2.2.1 ++ (s.2.1 ++ s.2.2.2)) = p ++ (v ++ (u ++ q)))
    (fun s => s.2.1.length + s.2.2.1.length) tabOK (p, u, v, q) ⟨hm.symm, hu, hv, hlen.symm, rfl⟩ ?_ ?_
  · (simp only [LessC, headSt, dsts, opDsts, resetS, putsS, lessS, lessO, belowS, belowO, AV.below, AObj.below, AC.below, List.set_cons_succ, List.set_cons_zero, List.cons_append, List.nil_append, List.append_nil, List.length_cons, List.length_nil, List.all_nil, Nat.reduceLT, AV.c.injEq, AObj.row.injEq, heq_eq_eq, true_and, and_true, and_self, reduceCtorEq, Bool.and_true, Nat.zero_add, Nat.le_refl, eq_self, decide_true, or_true] <;> try omega)
    all_goals rw [hx]
  rintro ⟨p', u', v', q'⟩ ⟨h1, h2, h3, h4, h5⟩
  simp only at h1 h2 h3 h4 h5
  have w3 : IntKind.i64.wrap ((m : Int) - (u'.length : Int)) = ((p'.length : Nat) : Int) := by rw [i64_in _ (by omega)]; omega
  simp only [VCp, headSt, dsts, opDsts, resetS, putsS, VC_skip, VC_region, VC_seq, VC_cond, VC_block, VC_exit, aops_nil, aops_cons, put_some, aop, qop, isQuiet, ASt.eval, ASt.ev, AV.strip, AV.need, AV.ac, AV.isTup, qbin, binInt, ned, isScalar, eInt, List.getD_cons_succ, List.getD_cons_zero, List.set_cons_succ, List.set_cons_zero, List.map_cons, List.map_nil, List.cons_append, List.nil_append, List.append_nil, decide_eq_true_eq, decide_eq_false_iff_not, Bool.not_eq_true', Int.not_lt, true_and, and_self, if_true, eq_self, tab_3, w3]
  refine ⟨fun hne => ⟨fun hgt => ?_, fun hle => ?_⟩, fun heq => ?_⟩
  · have hd : (u'.take v'.length).length = v'.length := by rw [List.length_take]; omega
    have hxs : p' ++ (u' ++ (v' ++ q')) = p' ++ (u'.take v'.length ++ (u'.drop v'.length ++ (v' ++ q'))) := by
      rw [← List.append_assoc (u'.take _), List.take_append_drop]
    refine CallAt.call [0] [] (swapRange_spec p' (u'.take v'.length) (u'.drop v'.length) v' q' _ p'.length m v'.length hd hxs (by simp only [List.length_append]; omega) rfl (by rw [hd, List.length_drop]; omega) hd.symm) (by decide) (fun i hi => by simp at hi; show i < 1; omega) (fun _ h => by cases h) rfl rfl (.inl rfl) ?_
    rintro r os ⟨rfl, rfl⟩
    simp only [VC_region, aops_nil, aops_cons, put_some, qop, isQuiet, ASt.eval, AV.need, AV.ac, qbin, binInt, AV.map, AObj.map, isScalar, giveBack, afterCall, eInt, List.getD_cons_succ, List.getD_cons_zero, List.set_cons_succ, List.set_cons_zero, List.map_nil, List.append_nil, List.length_cons, List.length_nil, true_and, and_self, Nat.zero_add, eq_self, tab_3]
    refine ⟨(p' ++ v', u'.drop v'.length, u'.take v'.length, q'), ⟨by simp only [List.length_append, List.length_drop]; omega, by rw [List.length_drop]; omega, by simp only [hd]; omega, by simp only [List.length_append, List.length_drop, hd]; omega, ?_⟩, by simp only [List.length_drop, hd]; omega, ?_⟩
    · show p' ++ v' ++ (u'.take v'.length ++ (u'.drop v'.length ++ q')) = _
      rw [← List.append_assoc (u'.take _), List.take_append_drop, List.append_assoc, h5]
    · (simp only [LessC, lessS, lessO, belowS, belowO, AV.below, AObj.below, AC.below, List.length_cons, List.length_nil, List.all_nil, Nat.reduceLT, AV.c.injEq, AC.int.injEq, AObj.row.injEq, heq_eq_eq, true_and, and_true, and_self, reduceCtorEq, Bool.and_true, Nat.zero_add, Nat.le_refl, eq_self, decide_true, or_true, or_false, false_or] <;> try omega)
      simp only [List.length_drop, List.append_assoc, and_true]
      rw [i64_in _ (by omega)]
      omega
  · have hd : (v'.drop (v'.length - u'.length)).length = u'.length := by rw [List.length_drop]; omega
    have ht : (v'.take (v'.length - u'.length)).length = v'.length - u'.length := by rw [List.length_take]; omega
    have hxs : p' ++ (u' ++ (v' ++ q')) = p' ++ (u' ++ (v'.take (v'.length - u'.length) ++ (v'.drop (v'.length - u'.length) ++ q'))) := by
      rw [← List.append_assoc (v'.take _), List.take_append_drop]
    have w4 : IntKind.i64.wrap ((m : Int) + (v'.length : Int)) = ((m + v'.length : Nat) : Int) := by rw [i64_in _ (by omega)]; omega
    have w5 : IntKind.i64.wrap (((m + v'.length : Nat) : Int) - (u'.length : Int)) = ((m + v'.length - u'.length : Nat) : Int) := by rw [i64_in _ (by omega)]; omega
    simp only [w4, w5]
    refine CallAt.call [0] [] (swapRange_spec p' u' (v'.take (v'.length - u'.length)) (v'.drop (v'.length - u'.length)) q' _ p'.length (m + v'.length - u'.length) u'.length hd.symm hxs (by simp only [List.length_append]; omega) rfl (by omega) rfl) (by decide) (fun i hi => by simp at hi; show i < 1; omega) (fun _ h => by cases h) rfl rfl (.inl rfl) ?_
    rintro r os ⟨rfl, rfl⟩
    simp only [VC_region, aops_nil, aops_cons, put_some, qop, isQuiet, ASt.eval, AV.need, AV.ac, qbin, binInt, AV.map, AObj.map, isScalar, giveBack, afterCall, eInt, List.getD_cons_succ, List.getD_cons_zero, List.set_cons_succ, List.set_cons_zero, List.map_nil, List.append_nil, List.length_cons, List.length_nil, Int.natCast_add, true_and, and_self, Nat.zero_add, eq_self, tab_3]
    refine ⟨(p', v'.drop (v'.length - u'.length), v'.take (v'.length - u'.length), u' ++ q'), ⟨by simp only [hd]; omega, by simp only [hd]; omega, by simp only [ht]; omega, by simp only [List.length_append, hd, ht]; omega, ?_⟩, by simp only [hd, ht]; omega, ?_⟩
    · show p' ++ (v'.take (v'.length - u'.length) ++ (v'.drop (v'.length - u'.length) ++ (u' ++ q'))) = _
      rw [← List.append_assoc (v'.take _), List.take_append_drop, h5]
    · (simp only [LessC, lessS, lessO, belowS, belowO, AV.below, AObj.below, AC.below, List.length_cons, List.length_nil, List.all_nil, Nat.reduceLT, AV.c.injEq, AC.int.injEq, true_and, and_true, and_self, reduceCtorEq, Bool.and_true, Nat.zero_add, Nat.le_refl, eq_self, decide_true, or_true, or_false, false_or] <;> try omega)
      simp only [ht, hd, true_and]
      rw [i64_in _ (by omega)]
      omega
  · have hd : u'.length = v'.length := by
      have h0 := heq
      simp at h0
      omega
    refine CallAt.call [0] [] (swapRange_spec p' u' [] v' q' _ p'.length m u'.length hd (by simp) (by simp only [List.length_append]; omega) rfl (by simp; omega) rfl) (by decide) (fun i hi => by simp at hi; show i < 1; omega) (fun _ h => by cases h) rfl rfl (.inl rfl) ?_
    rintro r os ⟨rfl, rfl⟩
    simp only [aops_nil, put_some, AV.map, AObj.map, giveBack, afterCall, List.set_cons_succ, List.set_cons_zero, List.map_nil, List.nil_append, List.append_nil, List.length_cons, List.length_nil, Nat.zero_add]
    refine RetAt.of [0] rfl ?_ rfl (by decide) (by decide) ?_ <;> simp only [resOf, tupOf, keepObjs, keepObjs, XObj.amap, AV.map, AObj.map, findIx, AC.ren, List.getD_cons_zero, List.map_cons, List.map_nil, true_and, eq_self]
    rw [h5]
end Go.Vc.Sn
