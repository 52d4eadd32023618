/- Best: the search finds the best order, and of several the first. -/
import Derived.Test.YtmikejeohdleeaaPI
set_option linter.unusedVariables false
set_option linter.unusedSimpArgs false
namespace Go.Vc.Pc
open Go.Proofs Go.IntWalk
set_option maxRecDepth 100000
theorem restsM_keep {l : List Int} {nx : Mat} {n N s : Nat} : ∀ {m j : Nat}, j ≤ m → m ≤ N → N - j ≤ s → s < N → (restsM l nx n N m).getD s [] = (restsM l nx n N j).getD s []
  | 0, j, h1, _, _, _ => by rw [show j = 0 by omega]
  | m + 1, j, h1, h2, h3, h4 => by
    by_cases e : j = m + 1
    · rw [e]
    · rw [← restsM_keep (m := m) (j := j) (by omega) (by omega) h3 h4]
      simp only [restsM, List.getD, List.getElem?_set]
      rw [if_neg (by omega)]
theorem vcell_congr {l : List Int} {nx M M' : Mat} {n N s i : Nat} (h : ∀ k, k < n → s.testBit k = false → at2 M (s ||| 2 ^ k) k = at2 M' (s ||| 2 ^ k) k) : ∀ m, m ≤ n → vcell l nx M N s i m = vcell l nx M' N s i m
  | 0, _ => rfl
  | m + 1, hm => by
    unfold vcell
    rw [vcell_congr h m (by omega)]
    split
    · rfl
    · rename_i hb
      rw [h m (by omega) (by simpa using hb)]
theorem best_rec {l : List Int} {nx : Mat} {n N s i : Nat} (hN : N = 2 ^ n) (hs : s < N) (hi : i < n) : at2 (restsM l nx n N N) s i = vcell l nx (restsM l nx n N N) N s i n := by
  have hl := restsM_len l nx n N (N - 1 - s)
  have e1 : (restsM l nx n N N).getD s [] = vrow l nx (restsM l nx n N (N - 1 - s)) n N s := by
    rw [restsM_keep (m := N) (j := N - 1 - s + 1) (by omega) (Nat.le_refl _) (by omega) hs]
    have : N - 1 - (N - 1 - s) = s := by omega
    simp only [restsM, this, List.getD, List.getElem?_set]
    rw [if_pos trivial, if_pos (by omega)]
    rfl
  show (List.getD _ s []).getD i 0 = _
  rw [e1, vrow_get hi]
  refine vcell_congr (n := n) (fun k hk hb => ?_) n (Nat.le_refl _)
  have h1 := or_gt hb
  have h2 : s ||| 2 ^ k < N := by rw [hN] at hs ⊢; exact or_lt hs hk
  unfold at2
  rw [restsM_keep (m := N) (j := N - 1 - s) (by omega) (Nat.le_refl _) (by omega) h2]
theorem maxI_le (a b : Int) : a ≤ maxI a b ∧ b ≤ maxI a b := by unfold maxI; split <;> omega
theorem vcell_le {l : List Int} {nx M : Mat} {N s i : Nat} : ∀ {m k : Nat}, k < m → s.testBit k = false → at2 nx i k + at2 M (s ||| 2 ^ k) k ≤ vcell l nx M N s i m
  | m + 1, k, h, hb => by
    unfold vcell
    have hx := maxI_le (vcell l nx M N s i m) (at2 nx i m + at2 M (s ||| 2 ^ m) m)
    by_cases e : k = m
    · subst e
      rw [hb]
      exact hx.2
    · have ih := vcell_le (l := l) (nx := nx) (M := M) (N := N) (s := s) (i := i) (m := m) (k := k) (by omega) hb
      split <;> omega
theorem vcell_has {l : List Int} {nx M : Mat} {N s i : Nat} : ∀ m : Nat, vcell l nx M N s i m = (if s + 1 = N then l.getD i 0 else low) ∨ ∃ k, k < m ∧ s.testBit k = false ∧ vcell l nx M N s i m = at2 nx i k + at2 M (s ||| 2 ^ k) k
  | 0 => .inl rfl
  | m + 1 => by
    unfold vcell
    have ih := vcell_has (l := l) (nx := nx) (M := M) (N := N) (s := s) (i := i) m
    split
    · rcases ih with h | ⟨k, h1, h2, h3⟩
      · exact .inl h
      · exact .inr ⟨k, by omega, h2, h3⟩
    · rename_i hb
      rcases maxI_cases (vcell l nx M N s i m) (at2 nx i m + at2 M (s ||| 2 ^ m) m) with ⟨_, h⟩ | ⟨_, h⟩ <;> rw [h]
      · exact .inr ⟨m, by omega, by simpa using hb, rfl⟩
      · rcases ih with h | ⟨k, h1, h2, h3⟩
        · exact .inl h
        · exact .inr ⟨k, by omega, h2, h3⟩
theorem full_eq {s n : Nat} (hs : s < 2 ^ n) (h : ∀ k, k < n → s.testBit k = true) : s = 2 ^ n - 1 := by
  apply Nat.eq_of_testBit_eq
  intro i
  rw [Nat.testBit_two_pow_sub_one]
  by_cases hi : i < n
  · rw [h i hi]; simp [hi]
  · have : s < 2 ^ i := Nat.lt_of_lt_of_le hs (Nat.pow_le_pow_right (by decide) (by omega))
    rw [Nat.testBit_lt_two_pow this]; simp [hi]
theorem unset {s n : Nat} (hs : s < 2 ^ n) (h : ¬ s = 2 ^ n - 1) : ∃ k, k < n ∧ s.testBit k = false := by
  refine Classical.byContradiction fun hc => h (full_eq hs fun k hk => ?_)
  cases hb : s.testBit k with
  | true => rfl
  | false => exact absurd ⟨k, hk, hb⟩ hc
structure Dp (l : List Int) (nx : Mat) (n N : Nat) (G : Nat → Nat → Int) : Prop where
  last : ∀ i, i < n → G (N - 1) i = l.getD i 0
  step : ∀ s i k, s < N → i < n → k < n → s.testBit k = false → at2 nx i k + G (s ||| 2 ^ k) k ≤ G s i
  has : ∀ s i, s < N → ¬ s = N - 1 → i < n → ∃ k, k < n ∧ s.testBit k = false ∧ G s i = at2 nx i k + G (s ||| 2 ^ k) k
  lo : ∀ s i, s < N → i < n → -1000000 * ((N - s : Nat) : Int) ≤ G s i
theorem dp {l : List Int} {nx : Mat} {n N : Nat} (hN : N = 2 ^ n) (hn : N ≤ 4096) (ht : Tame l nx n) : Dp l nx n N (at2 (restsM l nx n N N)) := by
  have hor : ∀ s k, s < N → k < n → s ||| 2 ^ k < N := fun s k h1 h2 => by rw [hN] at h1 ⊢; exact or_lt h1 h2
  have hpos : 0 < N := by rw [hN]; exact Nat.two_pow_pos n
  have step : ∀ s i k, s < N → i < n → k < n → s.testBit k = false → at2 nx i k + at2 (restsM l nx n N N) (s ||| 2 ^ k) k ≤ at2 (restsM l nx n N N) s i := fun s i k h1 h2 h3 h4 => by
    rw [best_rec hN h1 h2]
    exact vcell_le h3 h4
  have hun : ∀ s, s < N → ¬ s = N - 1 → ∃ k, k < n ∧ s.testBit k = false := fun s h1 h2 => by rw [hN] at h1 h2; exact unset h1 h2
  have last : ∀ i, i < n → at2 (restsM l nx n N N) (N - 1) i = l.getD i 0 := fun i hi => by
    rw [best_rec hN (by omega) hi]
    rcases vcell_has (l := l) (nx := nx) (M := restsM l nx n N N) (N := N) (s := N - 1) (i := i) n with h | ⟨k, h1, h2, h3⟩
    · rw [h, if_pos (by omega)]
    · rw [hN, Nat.testBit_two_pow_sub_one] at h2
      simp [h1] at h2
  have lo : ∀ d s i, N - s ≤ d → s < N → i < n → -1000000 * ((N - s : Nat) : Int) ≤ at2 (restsM l nx n N N) s i := by
    intro d
    induction d with
    | zero => intro s i h1 h2; omega
    | succ d ih =>
      intro s i h1 h2 hi
      by_cases e : s = N - 1
      · have h3 := last i hi
        have h4 := ht.lb i hi
        rw [e, h3]
        omega
      · obtain ⟨k, h3, h4⟩ := hun s h2 e
        have h5 := or_gt h4
        have h6 := hor s k h2 h3
        have h7 := ih (s ||| 2 ^ k) k (by omega) h6 h3
        have h8 := step s i k h2 hi h3 h4
        have h9 := ht.nb i k hi h3
        generalize s ||| 2 ^ k = t at *
        omega
  refine ⟨last, step, fun s i h1 h2 h3 => ?_, fun s i h1 h2 => lo _ s i (Nat.le_refl _) h1 h2⟩
  rcases vcell_has (l := l) (nx := nx) (M := restsM l nx n N N) (N := N) (s := s) (i := i) n with h | ⟨k, h4, h5, h6⟩
  · have h7 := lo _ s i (Nat.le_refl _) h1 h3
    rw [best_rec hN h1 h3, h, if_neg (by omega)] at h7
    unfold low at h7
    omega
  · exact ⟨k, h4, h5, by rw [best_rec hN h1 h3]; exact h6⟩
/-! ### sets as bits -/
def cnt (s : Nat) : Nat → Nat
  | 0 => 0
  | m + 1 => cnt s m + if s.testBit m = true then 1 else 0
theorem cnt_or {s k : Nat} (hb : s.testBit k = false) : ∀ m, cnt (s ||| 2 ^ k) m = cnt s m + if k < m then 1 else 0
  | 0 => by simp [cnt]
  | m + 1 => by
    unfold cnt
    rw [cnt_or hb m, Nat.testBit_or, Nat.testBit_two_pow]
    by_cases e : k = m
    · subst e
      simp [hb]
    · by_cases h : k < m
      · simp [e, h, show k < m + 1 by omega]; omega
      · simp [e, h, show ¬ k < m + 1 by omega]
theorem cnt_le (s : Nat) : ∀ m, cnt s m ≤ m
  | 0 => Nat.le_refl _
  | m + 1 => by
    have := cnt_le s m
    unfold cnt
    split <;> omega
theorem cnt_full {s : Nat} : ∀ {m : Nat}, cnt s m = m → ∀ k, k < m → s.testBit k = true
  | m + 1, h, k, hk => by
    have hle := cnt_le s m
    unfold cnt at h
    split at h
    · rename_i hb
      by_cases e : k = m
      · rw [e]; exact hb
      · exact cnt_full (m := m) (by omega) k (by omega)
    · omega
theorem cnt_all {s : Nat} : ∀ {m : Nat}, (∀ k, k < m → s.testBit k = true) → cnt s m = m
  | 0, _ => rfl
  | m + 1, h => by
    unfold cnt
    rw [cnt_all (fun k hk => h k (by omega)), if_pos (h m (by omega))]
theorem cnt_zero (m : Nat) : cnt 0 m = 0 := by
  induction m with
  | zero => rfl
  | succ m ih => unfold cnt; rw [ih]; simp
/-- the set of the first j -/
def su (o : List Int) : Nat → Nat
  | 0 => 0
  | j + 1 => su o j ||| 2 ^ (o.getD j 0).toNat
theorem su_bit {o : List Int} : ∀ {j k : Nat}, (su o j).testBit k = true ↔ ∃ i, i < j ∧ (o.getD i 0).toNat = k
  | 0, k => by simp [su]
  | j + 1, k => by
    unfold su
    rw [Nat.testBit_or, Nat.testBit_two_pow, Bool.or_eq_true, su_bit]
    constructor
    · rintro (⟨i, h1, h2⟩ | h)
      · exact ⟨i, by omega, h2⟩
      · exact ⟨j, by omega, by simpa using h⟩
    · rintro ⟨i, h1, h2⟩
      by_cases e : i = j
      · subst e; exact .inr (by simpa using h2)
      · exact .inl ⟨i, by omega, h2⟩
theorem getD_append_left' {o r : List Int} {k : Nat} (h : k < o.length) : (o ++ r).getD k 0 = o.getD k 0 := by simp [List.getD, List.getElem?_append_left h]
theorem su_append {o r : List Int} : ∀ {j : Nat}, j ≤ o.length → su (o ++ r) j = su o j
  | 0, _ => rfl
  | j + 1, h => by
    unfold su
    rw [su_append (by omega), getD_append_left' (by omega)]
theorem stepW_append {f : List Int} {nx : Mat} {o r : List Int} {k : Nat} (h : k < o.length) : stepW f nx (o ++ r) k = stepW f nx o k := by
  unfold stepW
  by_cases e : k = 0
  · rw [if_pos e, if_pos e, getD_append_left' (by omega)]
  · rw [if_neg e, if_neg e, getD_append_left' (by omega), getD_append_left' (by omega)]
theorem midW_append {f : List Int} {nx : Mat} {o r : List Int} : ∀ {k : Nat}, k ≤ o.length → midW f nx (o ++ r) k = midW f nx o k
  | 0, _ => rfl
  | k + 1, h => by
    unfold midW
    rw [midW_append (by omega), stepW_append (by omega)]
/-- a beginning of an order without repeats -/
structure Pf (n : Nat) (o : List Int) : Prop where
  rng : ∀ j, j < o.length → 0 ≤ o.getD j 0 ∧ o.getD j 0 < (n : Int)
  new : ∀ j, j < o.length → (su o j).testBit (o.getD j 0).toNat = false
theorem Pf.lt {n : Nat} {o : List Int} (h : Pf n o) : ∀ {j : Nat}, j ≤ o.length → su o j < 2 ^ n
  | 0, _ => Nat.two_pow_pos n
  | j + 1, hj => or_lt (h.lt (by omega)) (by have := h.rng j (by omega); omega)
theorem Pf.cnt {n : Nat} {o : List Int} (h : Pf n o) : ∀ {j : Nat}, j ≤ o.length → cnt (su o j) n = j
  | 0, _ => cnt_zero n
  | j + 1, hj => by
    have h1 := h.rng j (by omega)
    unfold su
    rw [cnt_or (h.new j (by omega)), h.cnt (by omega), if_pos (by omega)]
theorem Pf.full {n : Nat} {o : List Int} (h : Pf n o) (hl : o.length = n) : su o n = 2 ^ n - 1 := full_eq (h.lt (by omega)) (cnt_full (h.cnt (by omega)))
theorem Pf.notFull {n : Nat} {o : List Int} (h : Pf n o) {j : Nat} (hj : j ≤ o.length) (hn : j < n) : ¬ su o j = 2 ^ n - 1 := fun e => by
  have h1 := h.cnt hj
  rw [e, cnt_all fun k hk => by rw [Nat.testBit_two_pow_sub_one]; simpa using hk] at h1
  omega
theorem ordE_all {n : Int} {o : List Int} (h : ordE n [] o = 0) : ∀ i, i ≤ o.length → ordE n (o.take i) (o.drop i) = 0
  | 0, _ => h
  | i + 1, hi => by
    have ih := ordE_all h i (by omega)
    rw [ordE_step (by omega)] at ih
    split at ih
    · cases ih
    · split at ih
      · cases ih
      · exact ih
theorem Pf.of {n : Nat} {o : List Int} (h : ordE n [] o = 0) : Pf n o := by
  have rng : ∀ j, j < o.length → 0 ≤ o.getD j 0 ∧ o.getD j 0 < (n : Int) := fun j hj => ordE_ok h _ (getD_mem' hj)
  refine ⟨rng, fun j hj => ?_⟩
  have h1 := ordE_all h j (by omega)
  rw [ordE_step hj] at h1
  split at h1
  · cases h1
  split at h1
  · cases h1
  rename_i h2
  cases hb : (su o j).testBit (o.getD j 0).toNat with
  | false => rfl
  | true =>
    obtain ⟨i, hi, e⟩ := su_bit.1 hb
    have r1 := rng i (by omega)
    have r2 := rng j hj
    have : o.getD i 0 = o.getD j 0 := by omega
    exact absurd (this ▸ mem_take hi (by omega)) h2
theorem Pf.ordE {n : Nat} {o : List Int} (h : Pf n o) : ordE n [] o = 0 := by
  have : ∀ d i, i + d = o.length → Pc.ordE n (o.take i) (o.drop i) = 0 := by
    intro d
    induction d with
    | zero => intro i hi; rw [List.drop_of_length_le (by omega)]; rfl
    | succ d ih =>
      intro i hi
      have r := h.rng i (by omega)
      rw [ordE_step (by omega), if_neg (by omega), if_neg, ih (i + 1) (by omega)]
      intro hm
      obtain ⟨k, hk, e⟩ := List.getElem_of_mem hm
      have hk' : k < i := by simp at hk; omega
      have : (su o i).testBit (o.getD i 0).toNat = true := su_bit.2 ⟨k, hk', by rw [← e]; simp [List.getD, show k < o.length by omega]⟩
      rw [h.new i (by omega)] at this
      cases this
  exact this o.length 0 (by omega)
end Go.Vc.Pc
