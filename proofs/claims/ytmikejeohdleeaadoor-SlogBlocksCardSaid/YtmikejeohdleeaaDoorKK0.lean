/- Plain facts for the law on blocks. -/
import Derived.Test.YtmikejeohdleeaaDoorKA
import Derived.Test.YtmikejeohdleeaaDoorKB
import Derived.Laws.BitsLemmas
set_option linter.unusedVariables false
set_option linter.unusedSimpArgs false
namespace Go.Vc.Sb
open Go.Proofs Go.IntWalk
set_option maxRecDepth 100000
theorem wraps_i64 (n : Int) (h₀ : 0 ≤ n) (h₁ : n < 2 ^ 62) : IntKind.i64.wrap n = n := by rw [IntKind.wrap_i64]; omega
theorem i64_or {a b : Nat} (ha : a < 2 ^ 62) (hb : b < 2 ^ 62) : bits .or .i64 (a : Int) (b : Int) = ((a ||| b : Nat) : Int) := (bits_nat .i64 62 (by decide) wraps_i64 a b ha hb).2
/-- the number of two bytes is not negative -/
theorem num2 {b : List Int} {off : Nat} (h : ∀ x ∈ b, 0 ≤ x ∧ x ≤ 255) (hl : off + 1 < b.length) : 0 ≤ numF b off 2 := by
  have g : ∀ i, i < b.length → 0 ≤ b.getD i 0 ∧ b.getD i 0 ≤ 255 := fun i hi => h _ (by simp [List.getD, hi])
  have g0 := g off (by omega)
  have g1 := g (off + 1) hl
  obtain ⟨a, ha⟩ : ∃ a : Nat, b.getD off 0 = (a : Int) := ⟨(b.getD off 0).toNat, by omega⟩
  obtain ⟨c, hc⟩ : ∃ c : Nat, b.getD (off + 1) 0 = (c : Int) := ⟨(b.getD (off + 1) 0).toNat, by omega⟩
  show 0 ≤ bits .or .i64 (bits .or .i64 0 (shl .i64 (IntKind.i64.wrap (b.getD off 0)) (8 * ((0 : Nat) : Int)))) (shl .i64 (IntKind.i64.wrap (b.getD (off + 1) 0)) (8 * ((1 : Nat) : Int)))
  rw [ha] at g0 ⊢
  rw [hc] at g1 ⊢
  have s0 : shl .i64 (IntKind.i64.wrap (a : Int)) (8 * ((0 : Nat) : Int)) = ((a : Nat) : Int) := by
    rw [i64_in _ (by omega)]
    show IntKind.i64.wrap ((a : Int) * 1) = _
    rw [i64_in _ (by omega), Int.mul_one]
  have s1 : shl .i64 (IntKind.i64.wrap (c : Int)) (8 * ((1 : Nat) : Int)) = ((c * 256 : Nat) : Int) := by
    rw [i64_in _ (by omega)]
    show IntKind.i64.wrap ((c : Int) * 256) = _
    rw [i64_in _ (by omega)]
    omega
  have o1 : bits .or .i64 0 ((a : Nat) : Int) = ((0 ||| a : Nat) : Int) := i64_or (a := 0) (by decide) (by omega)
  have hoa : (0 ||| a) = a := Nat.zero_or a
  rw [s0, s1, o1, hoa, i64_or (by omega) (by omega)]
  exact Int.natCast_nonneg _
theorem pages_law {n k : Int} (hn : 0 < n) (hk : 0 < k) : pagesF n k = n.tdiv k + (if 0 < n.tmod k then 1 else 0) ∧ 0 ≤ n.tdiv k ∧ n.tdiv k ≤ n ∧ (0 < n.tmod k → n.tdiv k + 1 ≤ n) := by
  have e1 : pagesF n k = (n - 1) / k + 1 := by
    unfold pagesF
    rw [if_neg (by omega), Int.tdiv_eq_ediv_of_nonneg (by omega)]
  rw [e1, Int.tdiv_eq_ediv_of_nonneg (by omega), Int.tmod_eq_emod_of_nonneg (by omega)]
  have h1 := Int.emod_add_mul_ediv n k
  have h2 := Int.emod_nonneg n (show k ≠ 0 by omega)
  have h3 := Int.emod_lt_of_pos n hk
  have h4 : 0 ≤ n / k := Int.ediv_nonneg (by omega) (by omega)
  have h5 : n / k ≤ n := Int.ediv_le_self _ (by omega)
  have h6 : (n - 1) / k ≤ n - 1 := Int.ediv_le_self _ (by omega)
  by_cases hr : 0 < n % k
  · have hd : (n - 1) / k = n / k := ((Int.ediv_emod_unique (a := n - 1) (q := n / k) (r := n % k - 1) hk).2 ⟨by omega, by omega, by omega⟩).1
    rw [if_pos hr]
    refine ⟨by omega, h4, h5, fun _ => by omega⟩
  · have hd : (n - 1) / k = n / k - 1 := ((Int.ediv_emod_unique (a := n - 1) (q := n / k - 1) (r := k - 1) hk).2 ⟨by rw [Int.mul_sub, Int.mul_one]; omega, by omega, by omega⟩).1
    rw [if_neg hr]
    refine ⟨by omega, h4, h5, fun h => absurd h hr⟩
theorem pages_none {n k : Int} (h : ¬ (0 < n ∧ 0 < k)) : pagesF n k = 0 := by
  unfold pagesF
  rw [if_pos (by omega)]
end Go.Vc.Sb
