/- The law of the counts. -/
import Derived.Test.YtmikejeohdleeaaVJ
set_option linter.unusedVariables false
set_option linter.unusedSimpArgs false
namespace Go.Vc
open Go.Proofs Go.IntWalk
set_option maxRecDepth 100000
theorem sum_set (f : Int → Int) : ∀ (l : List Int) (i : Nat) (v : Int), i < l.length → sumF f (l.set i v) = sumF f l - f (l.getD i 0) + f v
  | [], i, v, h => by simp at h
  | x :: l, 0, v, h => by simp [sumF]; omega
  | x :: l, i + 1, v, h => by
    have := sum_set f l i v (by simpa using h)
    simp only [sumF, List.set_cons_succ, List.map_cons, List.sum_cons, List.getD_cons_succ] at this ⊢
    omega
theorem sum_zeros (f : Int → Int) (h : f 0 = 0) (n : Nat) : sumF f (List.replicate n 0) = 0 := by
  induction n with
  | zero => rfl
  | succ n ih => simp only [List.replicate_succ, sumF, List.map_cons, List.sum_cons, h] at ih ⊢; omega
theorem repF_succ (k : Int) (h : 0 ≤ k) : repF (k + 1) = repF k + k := by
  unfold repF
  have h1 : (k + 1) * (k + 1 - 1) = k * (k - 1) + 2 * k := by
    rw [show k + 1 - 1 = k by omega, Int.add_mul, Int.mul_sub]; omega
  have h2 : 0 ≤ k * (k - 1) := by
    rcases Int.lt_or_le 0 k with h | h
    · exact Int.mul_nonneg (by omega) (by omega)
    · have : k = 0 := by omega
      subst this; decide
  rw [h1, Int.tdiv_eq_ediv_of_nonneg (by omega), Int.tdiv_eq_ediv_of_nonneg h2]
  omega
theorem reps_pairs (xs : List Int) (h8 : U8s xs) (i : Nat) (hi : i ≤ xs.length) : sumF repF (counts (xs.take i)) = pairs xs i := by
  induction i with
  | zero =>
    rw [List.take_zero, counts_nil]
    exact sum_zeros repF rfl 256
  | succ i ih =>
    have hx := h8.get (i := i) (by omega) 0
    rw [← take_snoc xs i (by omega), ← counts_snoc _ _ hx.1 hx.2, sum_set _ _ _ _ (by rw [counts_len]; omega), ih (by omega)]
    have e : (counts (xs.take i)).getD (xs.getD i 0).toNat 0 = ((xs.take i).count (xs.getD i 0) : Int) := by
      rw [counts_get _ _ (by omega), Int.toNat_of_nonneg hx.1]
    rw [e, repF_succ _ (by omega)]
    simp only [pairs, pairsAt]
    omega
/-- a sum over the bytes is a sum over the places -/
def byteSum (n : Int) (h : Int → Int) (xs : List Int) : Nat → Int
  | 0 => 0
  | i + 1 => byteSum n h xs i + h (xs.getD i 0)
def wsum (h : Int → Int) (l : List Int) : Int := ((List.range 256).map fun (c : Nat) => l.getD c 0 * h c).sum
theorem wsum_set (h : Int → Int) (l : List Int) (c : Nat) (hc : c < 256) (hl : l.length = 256) : wsum h (l.set c (l.getD c 0 + 1)) = wsum h l + h c := by
  unfold wsum
  have key : ∀ (n : Nat), ((List.range n).map fun (k : Nat) => (l.set c (l.getD c 0 + 1)).getD k 0 * h k).sum = ((List.range n).map fun (k : Nat) => l.getD k 0 * h k).sum + (if c < n then h c else 0) := by
    intro n
    induction n with
    | zero => simp
    | succ n ih =>
      simp only [List.range_succ, List.map_append, List.sum_append, List.map_cons, List.map_nil, List.sum_cons, List.sum_nil] at ih ⊢
      rw [ih]
      by_cases e : c = n
      · subst e
        rw [getD_set_eq (by omega), if_neg (by omega), if_pos (by omega), Int.add_mul]
        omega
      · rw [getD_set_ne e]
        by_cases h2 : c < n
        · rw [if_pos h2, if_pos (by omega)]; omega
        · rw [if_neg h2, if_neg (by omega)]; omega
  rw [key 256, if_pos hc]
theorem wsum_byte (n : Int) (h : Int → Int) (xs : List Int) (h8 : U8s xs) (i : Nat) (hi : i ≤ xs.length) : wsum h (counts (xs.take i)) = byteSum n h xs i := by
  induction i with
  | zero =>
    rw [List.take_zero, counts_nil]
    unfold wsum
    have : ∀ l : List Nat, (l.map fun (c : Nat) => (zeros 256 (0 : Int)).getD c 0 * h c).sum = 0 := by
      intro l
      induction l with
      | nil => rfl
      | cons c l ih =>
        have e : (zeros 256 (0 : Int)).getD c 0 = 0 := by
          simp only [zeros, List.getD_eq_getElem?_getD, List.getElem?_replicate]
          split <;> rfl
        simp only [List.map_cons, List.sum_cons, e, Int.zero_mul] at ih ⊢
        omega
    exact this _
  | succ i ih =>
    have hx := h8.get (i := i) (by omega) 0
    rw [← take_snoc xs i (by omega), ← counts_snoc _ _ hx.1 hx.2, wsum_set _ _ _ (by omega) (counts_len _), ih (by omega)]
    simp only [byteSum, Int.toNat_of_nonneg hx.1]
theorem ent_at (xs : List Int) (h8 : U8s xs) : ent xs = entAt xs xs.length := by
  have h1 : ∀ i, byteSum xs.length (fun c => log4 xs.length - log4 (xs.count c : Int)) xs i = entAt xs i := by
    intro i
    induction i with
    | zero => rfl
    | succ i ih => simp only [byteSum, entAt, ih]
  rw [← h1, ← wsum_byte _ _ _ h8 _ (Nat.le_refl _), List.take_length]
  unfold ent sumF wsum counts
  rw [List.map_map]
  congr 1
  apply List.map_congr_left
  intro c hc
  have hc' : c < 256 := by simpa using hc
  have e := counts_get xs c hc'
  unfold counts at e
  rw [e]
  simp only [Function.comp, entF]
  split
  · rfl
  · rename_i h
    have : (xs.count (c : Int) : Int) = 0 := by omega
    rw [this]; omega
end Go.Vc
