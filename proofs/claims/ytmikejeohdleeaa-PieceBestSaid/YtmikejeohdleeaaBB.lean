/- Best: the search finds the best order, and of several the first (2). -/
import Derived.Test.YtmikejeohdleeaaBA
set_option linter.unusedVariables false
set_option linter.unusedSimpArgs false
namespace Go.Vc.Pc
open Go.Proofs Go.IntWalk
set_option maxRecDepth 100000
theorem firstOk_min {f : List Int} {nx B : Mat} {st : BS} {i : Nat} : ∀ {n}, firstOk f nx B st n = some i → ∀ i', i' < i → okAt f nx B st i' = false
  | 0, h => by cases h
  | n + 1, h => by
    unfold firstOk at h
    cases hf : firstOk f nx B st n with
    | some j =>
      rw [hf] at h
      cases h
      exact firstOk_min hf
    | none =>
      rw [hf] at h
      dsimp only at h
      split at h
      · cases h
        exact firstOk_none.1 hf
      · cases h
section
variable {f l : List Int} {nx : Mat} {n N : Nat} {B : Mat}
theorem sumB_le : ∀ {k i : Nat}, i < k → f.getD i 0 + at2 B (2 ^ i) i ≤ sumB f B k
  | k + 1, i, h => by
    unfold sumB
    have hx := maxI_le (sumB f B k) (f.getD k 0 + at2 B (2 ^ k) k)
    by_cases e : i = k
    · subst e; exact hx.2
    · have := sumB_le (k := k) (i := i) (by omega)
      omega
theorem sumB_has (hlo : ∀ i, i < n → low < f.getD i 0 + at2 B (2 ^ i) i) : ∀ {k : Nat}, 0 < k → k ≤ n → ∃ i, i < k ∧ sumB f B k = f.getD i 0 + at2 B (2 ^ i) i
  | k + 1, _, hk => by
    unfold sumB
    rcases maxI_cases (sumB f B k) (f.getD k 0 + at2 B (2 ^ k) k) with ⟨_, h⟩ | ⟨h0, h⟩ <;> rw [h]
    · exact ⟨k, by omega, rfl⟩
    · by_cases e : k = 0
      · subst e
        have := hlo 0 (by omega)
        simp only [sumB] at h0
        omega
      · obtain ⟨i, h1, h2⟩ := sumB_has hlo (k := k) (by omega) (by omega)
        exact ⟨i, by omega, h2⟩
/-- what can follow weighs no more than the table says -/
theorem rest_le (D : Dp l nx n N (at2 B)) (hN : N = 2 ^ n) {o : List Int} (P : Pf n o) (hl : o.length = n) : ∀ d j, j + d = n → 1 ≤ j → midW f nx o n + l.getD (o.getD (n - 1) 0).toNat 0 - midW f nx o j ≤ at2 B (su o j) (o.getD (j - 1) 0).toNat := by
  intro d
  induction d with
  | zero =>
    intro j h1 h2
    have e : j = n := by omega
    have r := P.rng (n - 1) (by omega)
    have h3 := D.last (o.getD (n - 1) 0).toNat (by omega)
    rw [e, P.full hl, ← hN, h3]
    omega
  | succ d ih =>
    intro j h1 h2
    have h3 := ih (j + 1) (by omega) (by omega)
    have r1 := P.rng (j - 1) (by omega)
    have r2 := P.rng j (by omega)
    have h4 := D.step (su o j) (o.getD (j - 1) 0).toNat (o.getD j 0).toNat (by rw [hN]; exact P.lt (by omega)) (by omega) (by omega) (P.new j (by omega))
    have e1 : midW f nx o (j + 1) = midW f nx o j + stepW f nx o j := rfl
    have e2 : stepW f nx o j = at2 nx (o.getD (j - 1) 0).toNat (o.getD j 0).toNat := if_neg (by omega)
    have e3 : su o (j + 1) = su o j ||| 2 ^ (o.getD j 0).toNat := rfl
    rw [e1, e2, e3] at h3
    simp only [Nat.add_sub_cancel] at h3
    omega
theorem weight_le (D : Dp l nx n N (at2 B)) (hN : N = 2 ^ n) {o : List Int} (P : Pf n o) (hl : o.length = n) (hpos : 0 < n) : weight f l nx o ≤ sumB f B n := by
  have h1 := rest_le (f := f) D hN P hl (n - 1) 1 (by omega) (Nat.le_refl _)
  have r := P.rng 0 (by omega)
  have h2 := sumB_le (f := f) (B := B) (k := n) (i := (o.getD 0 0).toNat) (by omega)
  have e1 : midW f nx o 1 = 0 + stepW f nx o 0 := rfl
  have e2 : stepW f nx o 0 = f.getD (o.getD 0 0).toNat 0 := if_pos rfl
  have e3 : su o 1 = 0 ||| 2 ^ (o.getD 0 0).toNat := rfl
  rw [e1, e2, e3, Nat.zero_or] at h1
  unfold weight
  rw [hl]
  simp only [Nat.sub_self] at h1
  omega
/-- how the search stands -/
structure Run (f : List Int) (nx B : Mat) (n j : Nat) (st : BS) : Prop where
  pf : Pf n st.1
  ol : st.1.length = j
  us : st.2.1 = su st.1 j
  lf : st.2.2 = sumB f B n - midW f nx st.1 j
  eq : 0 < j → st.2.2 = at2 B st.2.1 (st.1.getD (j - 1) 0).toNat
theorem wOf_step {o r : List Int} {x : Nat} : wOf f nx o x = stepW f nx (o ++ [(x : Int)] ++ r) o.length := by
  have e : (o ++ [(x : Int)] ++ r).getD o.length 0 = (x : Int) := by simp [List.getD]
  unfold wOf stepW
  by_cases h : o.length = 0
  · rw [if_pos h, if_pos h]
    rw [h] at e
    rw [e]
    simp
  · rw [if_neg h, if_neg h, e, List.append_assoc, getD_append_left' (by omega)]
    simp
theorem Run.found (D : Dp l nx n N (at2 B)) (hN : N = 2 ^ n) (hlo : ∀ i, i < n → low < f.getD i 0 + at2 B (2 ^ i) i) {j : Nat} {st : BS} (R : Run f nx B n j st) (hj : j < n) : ∃ i, firstOk f nx B st n = some i := by
  have : ∃ k, k < n ∧ okAt f nx B st k = true := by
    by_cases h0 : j = 0
    · obtain ⟨i, h1, h2⟩ := sumB_has hlo (k := n) (by omega) (Nat.le_refl _)
      refine ⟨i, h1, ?_⟩
      have e1 : st.2.1 = 0 := by rw [R.us, h0]; rfl
      have e2 : st.2.2 = sumB f B n := by
        rw [R.lf, h0]
        show _ - 0 = _
        omega
      unfold okAt wOf
      rw [e1, e2, R.ol, if_pos h0, Nat.zero_or, h2]
      simp
    · have h1 := R.eq (by omega)
      have hs : st.2.1 < N := by rw [R.us, hN]; exact R.pf.lt (by rw [R.ol]; omega)
      have hnf : ¬ st.2.1 = N - 1 := by rw [R.us, hN]; exact R.pf.notFull (by rw [R.ol]; omega) hj
      have r := R.pf.rng (j - 1) (by rw [R.ol]; omega)
      obtain ⟨k, h2, h3, h4⟩ := D.has st.2.1 (st.1.getD (j - 1) 0).toNat hs hnf (by omega)
      refine ⟨k, h2, ?_⟩
      unfold okAt wOf
      rw [R.ol, if_neg h0, h1, h3]
      simp only [Bool.not_false, Bool.true_and, decide_eq_true_eq]
      exact h4.symm
  obtain ⟨k, h1, h2⟩ := this
  cases hf : firstOk f nx B st n with
  | some i => exact ⟨i, rfl⟩
  | none => rw [firstOk_none.1 hf k h1] at h2; cases h2
theorem Run.next {j : Nat} {st : BS} (R : Run f nx B n j st) {i : Nat} (hi : firstOk f nx B st n = some i) : Run f nx B n (j + 1) (st.1 ++ [(i : Int)], st.2.1 ||| 2 ^ i, st.2.2 - wOf f nx st.1 i) := by
  obtain ⟨hin, hok⟩ := firstOk_some hi
  unfold okAt at hok
  simp only [Bool.and_eq_true, Bool.not_eq_true', decide_eq_true_eq] at hok
  obtain ⟨hb, hw⟩ := hok
  obtain ⟨o, u, lf⟩ := st
  obtain ⟨P, ol, us, hlf, _⟩ := R
  dsimp only at *
  have eg : (o ++ [(i : Int)]).getD j 0 = (i : Int) := by rw [← ol]; simp [List.getD]
  have es : su (o ++ [(i : Int)]) (j + 1) = u ||| 2 ^ i := by
    show su (o ++ [(i : Int)]) j ||| 2 ^ ((o ++ [(i : Int)]).getD j 0).toNat = _
    rw [su_append (by omega), eg, us, Int.toNat_natCast]
  refine ⟨⟨fun k hk => ?_, fun k hk => ?_⟩, by simp [ol], es.symm, ?_, fun _ => ?_⟩ <;> dsimp only at *
  · by_cases e : k = j
    · subst e; rw [eg]; omega
    · simp only [List.length_append, List.length_cons, List.length_nil] at hk
      rw [getD_append_left' (by omega)]
      exact P.rng k (by omega)
  · by_cases e : k = j
    · subst e
      rw [eg, su_append (by omega), Int.toNat_natCast, ← us]
      exact hb
    · simp only [List.length_append, List.length_cons, List.length_nil] at hk
      rw [getD_append_left' (by omega), su_append (by omega)]
      exact P.new k (by omega)
  · have e1 : midW f nx (o ++ [(i : Int)]) (j + 1) = midW f nx (o ++ [(i : Int)]) j + stepW f nx (o ++ [(i : Int)]) j := rfl
    have e2 := wOf_step (f := f) (nx := nx) (o := o) (r := []) (x := i)
    rw [List.append_nil, ol] at e2
    rw [e1, midW_append (by omega), ← e2, hlf]
    omega
  · rw [Nat.add_sub_cancel, eg, Int.toNat_natCast, ← hw]
    omega
theorem Run.zero : Run f nx B n 0 (runB f nx B n 0) := ⟨⟨fun j hj => absurd hj (Nat.not_lt_zero _), fun j hj => absurd hj (Nat.not_lt_zero _)⟩, rfl, rfl, (by show sumB f B n = sumB f B n - 0; omega), fun h => absurd h (Nat.lt_irrefl _)⟩
theorem run (D : Dp l nx n N (at2 B)) (hN : N = 2 ^ n) (hlo : ∀ i, i < n → low < f.getD i 0 + at2 B (2 ^ i) i) : ∀ j, j ≤ n → Run f nx B n j (runB f nx B n j)
  | 0, _ => Run.zero
  | j + 1, hj => by
    have ih := run D hN hlo j (by omega)
    obtain ⟨i, hi⟩ := ih.found D hN hlo (by omega)
    show Run f nx B n (j + 1) (stepB f nx B n (runB f nx B n j))
    unfold stepB
    rw [hi]
    exact ih.next hi
theorem run_take (D : Dp l nx n N (at2 B)) (hN : N = 2 ^ n) (hlo : ∀ i, i < n → low < f.getD i 0 + at2 B (2 ^ i) i) : ∀ d j, j + d ≤ n → (runB f nx B n (j + d)).1.take j = (runB f nx B n j).1
  | 0, j, hj => by
    have := (run (f := f) D hN hlo j hj).ol
    exact List.take_of_length_le (by show (runB f nx B n j).1.length ≤ j; omega)
  | d + 1, j, hj => by
    have ih := run_take D hN hlo d j (by omega)
    have R := run (f := f) D hN hlo (j + d) (by omega)
    obtain ⟨i, hi⟩ := R.found D hN hlo (by omega)
    rw [← ih]
    show (stepB f nx B n (runB f nx B n (j + d))).1.take j = _
    unfold stepB
    rw [hi]
    dsimp only
    rw [List.take_append_of_le_length (by rw [R.ol]; omega)]
/-- the order that is found weighs what it should -/
theorem got_weight (D : Dp l nx n N (at2 B)) (hN : N = 2 ^ n) (hlo : ∀ i, i < n → low < f.getD i 0 + at2 B (2 ^ i) i) (hpos : 0 < n) : weight f l nx (runB f nx B n n).1 = sumB f B n := by
  have R := run (f := f) D hN hlo n (Nat.le_refl _)
  have h1 := R.eq hpos
  have r := R.pf.rng (n - 1) (by rw [R.ol]; omega)
  have h2 := D.last ((runB f nx B n n).1.getD (n - 1) 0).toNat (by omega)
  have h3 := R.lf
  rw [R.us, R.pf.full R.ol, ← hN, h2] at h1
  unfold weight
  rw [R.ol]
  omega
/-- it is the first one of those with this weight -/
theorem got_first (D : Dp l nx n N (at2 B)) (hN : N = 2 ^ n) (hlo : ∀ i, i < n → low < f.getD i 0 + at2 B (2 ^ i) i) {o : List Int} (P : Pf n o) (hl : o.length = n) (hw : weight f l nx o = sumB f B n) {j : Nat} (hj : j < n)
    (ht : o.take j = (runB f nx B n n).1.take j) : (runB f nx B n n).1.getD j 0 ≤ o.getD j 0 := by
  have R := run (f := f) D hN hlo j (by omega)
  have hrt := run_take (f := f) D hN hlo (n - j) j (by omega)
  rw [show j + (n - j) = n by omega] at hrt
  rw [hrt] at ht
  obtain ⟨i, hi⟩ := R.found D hN hlo hj
  have hrt1 := run_take (f := f) D hN hlo (n - (j + 1)) (j + 1) (by omega)
  rw [show j + 1 + (n - (j + 1)) = n by omega] at hrt1
  have hg : (runB f nx B n n).1.getD j 0 = (i : Int) := by
    have h1 : (runB f nx B n n).1.getD j 0 = ((runB f nx B n n).1.take (j + 1)).getD j 0 := by simp [List.getD, List.getElem?_take]
    rw [h1, hrt1]
    show (stepB f nx B n (runB f nx B n j)).1.getD j 0 = _
    unfold stepB
    rw [hi]
    dsimp only
    have := R.ol
    generalize (runB f nx B n j).1 = q at *
    rw [← this]
    simp [List.getD]
  rw [hg]
  have r := P.rng j (by omega)
  have hoe : o = (o.take j) ++ [o.getD j 0] ++ o.drop (j + 1) := by
    have h1 := take_next o j 0 (by omega)
    rw [← h1, List.take_append_drop]
  have hok : okAt f nx B (runB f nx B n j) (o.getD j 0).toNat = true := by
    have hu : (runB f nx B n j).2.1 = su o j := by
      rw [R.us, ← ht]
      have := su_append (o := o.take j) (r := o.drop j) (j := j) (by rw [List.length_take]; omega)
      rw [List.take_append_drop] at this
      exact this.symm
    have hlf : (runB f nx B n j).2.2 = sumB f B n - midW f nx o j := by
      rw [R.lf, ← ht]
      have := midW_append (f := f) (nx := nx) (o := o.take j) (r := o.drop j) (k := j) (by rw [List.length_take]; omega)
      rw [List.take_append_drop] at this
      rw [this]
    have hwo : wOf f nx (runB f nx B n j).1 (o.getD j 0).toNat = stepW f nx o j := by
      have := wOf_step (f := f) (nx := nx) (o := o.take j) (r := o.drop (j + 1)) (x := (o.getD j 0).toNat)
      rw [show (((o.getD j 0).toNat : Nat) : Int) = o.getD j 0 by omega, ← hoe, List.length_take, show min j o.length = j by omega] at this
      rw [← ht]
      exact this
    have h1 := rest_le (f := f) D hN P hl (n - (j + 1)) (j + 1) (by omega) (by omega)
    have e1 : midW f nx o (j + 1) = midW f nx o j + stepW f nx o j := rfl
    have e3 : su o (j + 1) = su o j ||| 2 ^ (o.getD j 0).toNat := rfl
    have hw' : midW f nx o n + l.getD (o.getD (n - 1) 0).toNat 0 = sumB f B n := by
      unfold weight at hw
      rw [hl] at hw
      exact hw
    rw [e1, e3, hw'] at h1
    simp only [Nat.add_sub_cancel] at h1
    have h2 : stepW f nx o j + at2 B (su o j ||| 2 ^ (o.getD j 0).toNat) (o.getD j 0).toNat ≤ sumB f B n - midW f nx o j := by
      by_cases h0 : j = 0
      · subst h0
        have h3 := sumB_le (f := f) (B := B) (k := n) (i := (o.getD 0 0).toNat) (by omega)
        have e2 : stepW f nx o 0 = f.getD (o.getD 0 0).toNat 0 := if_pos rfl
        have e4 : su o 0 = 0 := rfl
        have e5 : midW f nx o 0 = 0 := rfl
        rw [e2, e4, Nat.zero_or, e5]
        omega
      · have h3 := R.eq (by omega)
        have r1 := P.rng (j - 1) (by omega)
        have e2 : stepW f nx o j = at2 nx (o.getD (j - 1) 0).toNat (o.getD j 0).toNat := if_neg h0
        have h4 := D.step (su o j) (o.getD (j - 1) 0).toNat (o.getD j 0).toNat (by rw [hN]; exact P.lt (by omega)) (by omega) (by omega) (P.new j (by omega))
        have e6 : (runB f nx B n j).1.getD (j - 1) 0 = o.getD (j - 1) 0 := by
          rw [← ht]
          simp [List.getD, List.getElem?_take, show j - 1 < j by omega]
        rw [hlf, hu, e6] at h3
        rw [e2, h3]
        exact h4
    unfold okAt
    rw [hu, P.new j (by omega), hwo, hlf]
    simp only [Bool.not_false, Bool.true_and, decide_eq_true_eq]
    omega
  refine Int.not_lt.1 fun hlt => ?_
  have := firstOk_min hi (o.getD j 0).toNat (by omega)
  rw [hok] at this
  cases this
end
end Go.Vc.Pc
