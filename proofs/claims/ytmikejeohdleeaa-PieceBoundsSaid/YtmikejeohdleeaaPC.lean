/- Rests: what can follow a set of fragments. -/
import Derived.Test.YtmikejeohdleeaaPB
import Derived.Laws.BitsLemmas
set_option linter.unusedVariables false
set_option linter.unusedSimpArgs false
namespace Go.Vc.Pc
open Go.Proofs Go.IntWalk
set_option maxRecDepth 100000
theorem wraps_i64 (n : Int) (h₀ : 0 ≤ n) (h₁ : n < 2 ^ 62) : IntKind.i64.wrap n = n := by rw [IntKind.wrap_i64]; omega
theorem i64_bit {m k : Nat} (hm : m < 2 ^ 62) (hk : k < 62) : bits .and .i64 (shr .i64 (m : Int) (k : Int)) 1 = if m.testBit k = true then 1 else 0 := by
  have e1 : shr .i64 (m : Int) (k : Int) = ((m / 2 ^ k : Nat) : Int) := by
    unfold shr
    have : min (k : Int).toNat IntKind.i64.bits = k := by
      rw [Int.toNat_natCast]
      show min k 64 = k
      omega
    rw [this]
    have h2 : ((2 : Int) ^ k) = ((2 ^ k : Nat) : Int) := by simp
    rw [h2, Int.fdiv_eq_ediv_of_nonneg _ (Int.natCast_nonneg _)]
    rfl
  rw [e1]
  have h1 := (bits_nat .i64 62 (by decide) wraps_i64 (m / 2 ^ k) 1 (Nat.lt_of_le_of_lt (Nat.div_le_self _ _) hm) (by decide)).1
  show Go.bits .and .i64 _ 1 = _
  have h1' : Go.bits .and .i64 ((m / 2 ^ k : Nat) : Int) 1 = ((m / 2 ^ k &&& 1 : Nat) : Int) := h1
  rw [h1', Nat.and_one_is_mod]
  have e3 : m.testBit k = decide (m / 2 ^ k % 2 = 1) := by rw [Nat.testBit_eq_decide_div_mod_eq]
  rw [e3]
  by_cases h : m / 2 ^ k % 2 = 1
  · simp [h]
  · have : m / 2 ^ k % 2 = 0 := by omega
    simp [this]
theorem i64_one {k : Nat} (hk : k < 62) : shl .i64 1 (k : Int) = ((2 ^ k : Nat) : Int) := by
  unfold shl
  have : min (k : Int).toNat IntKind.i64.bits = k := by
    rw [Int.toNat_natCast]
    show min k 64 = k
    omega
  rw [this, Int.one_mul]
  have h2 : ((2 : Int) ^ k) = ((2 ^ k : Nat) : Int) := by simp
  rw [h2]
  have : 2 ^ k < 2 ^ 62 := Nat.pow_lt_pow_right (by omega) hk
  exact wraps_i64 _ (Int.natCast_nonneg _) (by exact_mod_cast this)
theorem i64_or {a b : Nat} (ha : a < 2 ^ 62) (hb : b < 2 ^ 62) : bits .or .i64 (a : Int) (b : Int) = ((a ||| b : Nat) : Int) := (bits_nat .i64 62 (by decide) wraps_i64 a b ha hb).2

/-! ### the table of rests -/
def low : Int := -1099511627776
abbrev Mat := List (List Int)
def at2 (M : Mat) (s k : Nat) : Int := (M.getD s []).getD k 0
def maxI (a b : Int) : Int := if b > a then b else a
/-- the greatest weight behind s and i, with the first k fragments tried -/
def vcell (l : List Int) (nx M : Mat) (N s i : Nat) : Nat → Int
  | 0 => if s + 1 = N then l.getD i 0 else low
  | k + 1 => if s.testBit k = true then vcell l nx M N s i k else maxI (vcell l nx M N s i k) (at2 nx i k + at2 M (s ||| 2 ^ k) k)
def vrow (l : List Int) (nx M : Mat) (n N s : Nat) : List Int := (List.range n).map fun i => vcell l nx M N s i n
/-- the last j sets done -/
def restsM (l : List Int) (nx : Mat) (n N : Nat) : Nat → Mat
  | 0 => List.replicate N []
  | j + 1 => (restsM l nx n N j).set (N - 1 - j) (vrow l nx (restsM l nx n N j) n N (N - 1 - j))
theorem restsM_len (l : List Int) (nx : Mat) (n N : Nat) : ∀ j, (restsM l nx n N j).length = N
  | 0 => by simp [restsM]
  | j + 1 => by simp [restsM, restsM_len l nx n N j]
theorem vrow_len {l : List Int} {nx M : Mat} {n N s : Nat} : (vrow l nx M n N s).length = n := by simp [vrow]
theorem vrow_get {l : List Int} {nx M : Mat} {n N s i : Nat} (hi : i < n) : (vrow l nx M n N s).getD i 0 = vcell l nx M N s i n := by simp [vrow, List.getD, hi]
/-- rows that are done have all their cells -/
theorem restsM_row {l : List Int} {nx : Mat} {n N : Nat} : ∀ {j s : Nat}, j ≤ N → N - j ≤ s → s < N → ((restsM l nx n N j).getD s []).length = n
  | 0, s, _, h1, h2 => by omega
  | j + 1, s, hj, h1, h2 => by
    have hl := restsM_len l nx n N j
    simp only [restsM, List.getD, List.getElem?_set]
    by_cases e : N - 1 - j = s
    · rw [if_pos e, if_pos (by omega)]
      exact vrow_len
    · rw [if_neg e]
      exact restsM_row (by omega) (by omega) h2
/-- weights within bounds -/
structure Tame (l : List Int) (nx : Mat) (n : Nat) : Prop where
  ll : l.length = n
  nl : nx.length = n
  rl : ∀ i, i < n → (nx.getD i []).length = n
  lb : ∀ i, i < n → -1000000 ≤ l.getD i 0 ∧ l.getD i 0 ≤ 1000000
  nb : ∀ i k, i < n → k < n → -1000000 ≤ at2 nx i k ∧ at2 nx i k ≤ 1000000
theorem maxI_cases (a b : Int) : (a < b ∧ maxI a b = b) ∨ (b ≤ a ∧ maxI a b = a) := by
  unfold maxI
  split
  · exact .inl ⟨by omega, rfl⟩
  · exact .inr ⟨by omega, rfl⟩
theorem or_gt {s k : Nat} (h : s.testBit k = false) : s < s ||| 2 ^ k := by
  have h1 : s ≤ s ||| 2 ^ k := Nat.left_le_or
  rcases Nat.lt_or_eq_of_le h1 with h2 | h2
  · exact h2
  · have h3 : (s ||| 2 ^ k).testBit k = true := by simp
    rw [← h2, h] at h3
    cases h3
theorem or_lt {s k n : Nat} (hs : s < 2 ^ n) (hk : k < n) : s ||| 2 ^ k < 2 ^ n := Nat.or_lt_two_pow hs (Nat.pow_lt_pow_right (by omega) hk)
theorem vcell_bounds {l : List Int} {nx M : Mat} {n s i : Nat} (ht : Tame l nx n) (hs : s < 2 ^ n) (hi : i < n) (B : Int) (hB : 1000000 ≤ B)
    (hM : ∀ t k, s < t → t < 2 ^ n → k < n → low - 1000000 ≤ at2 M t k ∧ at2 M t k ≤ B - 1000000) : ∀ k, k ≤ n → low ≤ vcell l nx M (2 ^ n) s i k ∧ vcell l nx M (2 ^ n) s i k ≤ B
  | 0, _ => by
    have := ht.lb i hi
    unfold vcell low
    split <;> omega
  | k + 1, hk => by
    have ih := vcell_bounds ht hs hi B hB hM k (by omega)
    unfold vcell
    split
    · exact ih
    · rename_i hb
      have hb' : s.testBit k = false := by simpa using hb
      have h1 := hM (s ||| 2 ^ k) k (or_gt hb') (or_lt hs (by omega)) (by omega)
      have h2 := ht.nb i k hi (by omega)
      rcases maxI_cases (vcell l nx M (2 ^ n) s i k) (at2 nx i k + at2 M (s ||| 2 ^ k) k) with ⟨h3, h4⟩ | ⟨h3, h4⟩ <;> rw [h4] <;> omega
theorem at2_set_self {M : Mat} {s k : Nat} {r : List Int} (h : s < M.length) : at2 (M.set s r) s k = r.getD k 0 := by simp [at2, List.getD, h]
theorem at2_set_ne {M : Mat} {s t k : Nat} {r : List Int} (h : ¬ s = t) : at2 (M.set s r) t k = at2 M t k := by simp [at2, List.getD, List.getElem?_set, h]
theorem restsM_bounds {l : List Int} {nx : Mat} {n : Nat} (ht : Tame l nx n) : ∀ j, j ≤ 2 ^ n → ∀ t k, 2 ^ n - j ≤ t → t < 2 ^ n → k < n → low ≤ at2 (restsM l nx n (2 ^ n) j) t k ∧ at2 (restsM l nx n (2 ^ n) j) t k ≤ (j : Int) * 1000000
  | 0, _, t, k, h1, h2, _ => by omega
  | j + 1, hj, t, k, h1, h2, hk => by
    have ih := restsM_bounds ht j (by omega)
    have hl := restsM_len l nx n (2 ^ n) j
    simp only [restsM]
    by_cases e : 2 ^ n - 1 - j = t
    · rw [e, at2_set_self (by omega), vrow_get hk]
      refine vcell_bounds ht h2 hk _ (by omega) (fun u k hu hu2 hk => ?_) n (Nat.le_refl _)
      have := ih u k (by omega) hu2 hk
      unfold low at *
      omega
    · rw [at2_set_ne e]
      have := ih t k (by omega) h2 hk
      omega
/-- the cells of a row look at later rows alone -/
theorem vcell_set {l : List Int} {nx M : Mat} {N s i : Nat} {r : List Int} : ∀ k, vcell l nx (M.set s r) N s i k = vcell l nx M N s i k
  | 0 => rfl
  | k + 1 => by
    unfold vcell
    rw [vcell_set k]
    split
    · rfl
    · rename_i hb
      have hb' : s.testBit k = false := by simpa using hb
      rw [at2_set_ne (by have := or_gt hb'; omega)]
end Go.Vc.Pc
