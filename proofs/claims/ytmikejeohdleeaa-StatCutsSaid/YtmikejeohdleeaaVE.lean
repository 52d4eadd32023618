/- The reference's logarithm. -/
import Derived.Test.YtmikejeohdleeaaVD
set_option linter.unusedVariables false
set_option linter.unusedSimpArgs false
namespace Go.Vc
open Go.Proofs Go.IntWalk
set_option maxRecDepth 100000
/-- limbs of 16 bits -/
def val : List Int → Int
  | [] => 0
  | x :: xs => x + 65536 * val xs
theorem val_append (a b : List Int) : val (a ++ b) = val a + 65536 ^ a.length * val b := by
  induction a with
  | nil => simp [val]
  | cons x a ih =>
    simp only [List.cons_append, val, ih, List.length_cons, Int.pow_succ]
    rw [Int.mul_add, Int.mul_comm (65536 ^ a.length) 65536, Int.mul_assoc, Int.add_assoc]
def Limbs (l : List Int) : Prop := ∀ x ∈ l, 0 ≤ x ∧ x < 65536
theorem Limbs.get {l : List Int} (h : Limbs l) {i : Nat} (hi : i < l.length) : 0 ≤ l.getD i 0 ∧ l.getD i 0 < 65536 := h _ (getD_mem hi 0)
theorem Limbs.set {l : List Int} (h : Limbs l) (i : Nat) {x : Int} (h0 : 0 ≤ x) (h1 : x < 65536) : Limbs (l.set i x) := fun y hy => by
  rcases List.mem_or_eq_of_mem_set hy with h2 | h2
  · exact h y h2
  · subst h2; exact ⟨h0, h1⟩
theorem Limbs.snoc {l : List Int} (h : Limbs l) {x : Int} (h0 : 0 ≤ x) (h1 : x < 65536) : Limbs (l ++ [x]) := fun y hy => by
  rcases List.mem_append.1 hy with h2 | h2
  · exact h y h2
  · simp at h2; subst h2; exact ⟨h0, h1⟩
theorem take_set_succ {l : List Int} {i : Nat} (hi : i < l.length) (x : Int) : (l.set i x).take (i + 1) = l.take i ++ [x] := by
  apply List.ext_getElem?
  intro k
  rw [List.getElem?_take, List.getElem?_set, List.getElem?_append]
  simp only [List.length_take, List.getElem?_take]
  by_cases h1 : k < i
  · rw [if_pos (by omega), if_neg (by omega), if_pos (by omega), if_pos h1]
  · by_cases h2 : k = i
    · subst h2
      rw [if_pos (by omega), if_pos rfl, if_pos hi, if_neg (by omega), show k - min k l.length = 0 by omega]
      rfl
    · rw [if_neg (by omega), if_neg (by omega)]
      rw [List.getElem?_eq_none (by simp; omega)]
theorem val_lt {l : List Int} (h : Limbs l) : 0 ≤ val l ∧ val l < 65536 ^ l.length := by
  induction l with
  | nil => simp [val]
  | cons x l ih =>
    have h1 := h x (by simp)
    have h2 := ih fun y hy => h y (by simp [hy])
    simp only [val, List.length_cons, Int.pow_succ]
    omega
/-- one limb more: what was done, times n -/
theorem mul_step (n c x v v' P : Int) (h : v' + c * P = n * v) : (v' + P * ((c + x * n) % 65536)) + (c + x * n) / 65536 * (P * 65536) = n * (v + P * x) := by
  have e := Int.emod_add_mul_ediv (c + x * n) 65536
  have e2 : P * ((c + x * n) % 65536) + (c + x * n) / 65536 * (P * 65536) = P * (c + x * n) := by
    conv => rhs; rw [← e]
    rw [Int.mul_add]
    congr 1
    rw [Int.mul_comm P 65536, ← Int.mul_assoc, Int.mul_comm _ 65536, Int.mul_comm _ P]
  have e3 : P * (c + x * n) = c * P + n * (P * x) := by
    rw [Int.mul_add, Int.mul_comm P c, Int.mul_left_comm n P x, Int.mul_comm n x]
  rw [Int.mul_add, ← h]
  omega
theorem band1 (x : Int) (h0 : 0 ≤ x) (h1 : x < 65536) : bits .and .i64 x 1 = x % 2 :=
  bits_mask .i64 63 (by decide) (fun n h0 h1 => i64_in n (by omega)) 1 (by decide) x h0 (by omega)
theorem shr_i64 (x : Int) (b : Nat) (hb : b < 64) : shr .i64 x (b : Int) = x / 2 ^ b := by
  unfold shr
  rw [show min (b : Int).toNat IntKind.i64.bits = b by simp [IntKind.bits]; omega]
  rw [Int.fdiv_eq_ediv_of_nonneg _ (Int.le_of_lt (Int.pow_pos (by decide)))]
theorem emod_two (x : Int) (h : 0 ≤ x) (b : Nat) : x % 2 ^ (b + 1) = x % 2 ^ b + 2 ^ b * (x / 2 ^ b % 2) := by
  obtain ⟨m, rfl⟩ := Int.eq_ofNat_of_zero_le h
  have := Nat.mod_mul (x := m) (a := 2 ^ b) (b := 2)
  rw [← Nat.pow_succ] at this
  have h2 := congrArg (fun (k : Nat) => (k : Int)) this
  simpa using h2
theorem bit_set (low x : Int) (i b : Nat) (h0 : 0 ≤ low) (h1 : low < 65536 ^ i) (hx : 0 ≤ x) (hb : x / 2 ^ b % 2 = 1) : bl (low + 65536 ^ i * (x % 2 ^ (b + 1))) = ((16 * i + b : Nat) : Int) + 1 := by
  have e : (65536 : Int) ^ i = 2 ^ (16 * i) := by rw [Int.pow_mul]; rfl
  have hp : (0 : Int) < 2 ^ b := Int.pow_pos (by decide)
  have e2 := emod_two x hx b
  rw [hb] at e2
  have h3 : 0 ≤ x % 2 ^ b := Int.emod_nonneg _ (by omega)
  have h4 : x % 2 ^ b < 2 ^ b := Int.emod_lt_of_pos _ hp
  have hP : (0 : Int) < 65536 ^ i := Int.pow_pos (by decide)
  have h5 : (65536 : Int) ^ i * 2 ^ b ≤ 65536 ^ i * (x % 2 ^ (b + 1)) := Int.mul_le_mul_of_nonneg_left (by omega) (by omega)
  have h6 : (65536 : Int) ^ i * (x % 2 ^ (b + 1) + 1) ≤ 65536 ^ i * (2 ^ b * 2) := Int.mul_le_mul_of_nonneg_left (by omega) (by omega)
  rw [Int.mul_add, Int.mul_one] at h6
  refine bl_of ?_ ?_
  · rw [Int.pow_add, ← e]; omega
  · have e9 : (2 : Int) ^ (16 * i + b + 1) = 65536 ^ i * (2 ^ b * 2) := by rw [show 16 * i + b + 1 = 16 * i + (b + 1) by omega, Int.pow_add, ← e, Int.pow_succ]
    rw [e9]; omega
theorem bit_clear (x : Int) (b : Nat) (hx : 0 ≤ x) (hb : ¬ x / 2 ^ b % 2 = 1) : x % 2 ^ (b + 1) = x % 2 ^ b := by
  rw [emod_two x hx b]
  have : x / 2 ^ b % 2 = 0 := by omega
  rw [this]
  omega
end Go.Vc
