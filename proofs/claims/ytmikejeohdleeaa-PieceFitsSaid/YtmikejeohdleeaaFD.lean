/- Fit, Overlaps and Join are what the reference says. -/
import Derived.Test.YtmikejeohdleeaaFC
set_option linter.unusedVariables false
set_option linter.unusedSimpArgs false
namespace Go.Vc.Pc
open Go.Proofs Go.IntWalk
set_option maxRecDepth 100000
theorem ovRow_len {ls : List (List Int)} {most : Int} {i : Nat} : (ovRow ls most i).length = ls.length := by simp [ovRow]
theorem ovRow_get {ls : List (List Int)} {most : Int} {i k : Nat} (h : k < ls.length) : (ovRow ls most i).getD k 0 = ovCell ls most i k := by simp [ovRow, List.getD, h]
theorem ovCell_bounds {ls : List (List Int)} {most : Int} (h0 : ovErr ls most = 0) {i k : Nat} : 0 ≤ ovCell ls most i k ∧ ovCell ls most i k ≤ 64 := by
  have hm : 1 ≤ most ∧ most ≤ 64 := by
    unfold ovErr at h0
    split at h0
    · cases h0
    · split at h0
      · cases h0
      · omega
  unfold ovCell
  split
  · omega
  · have h := fitTo_le (ls.getD i []) (ls.getD k []) (minL (ls.getD i []) (ls.getD k []) most)
    unfold fitF
    have : (minL (ls.getD i []) (ls.getD k []) most : Int) ≤ 64 := by unfold minL; omega
    omega
theorem bad_ok {w : Int} (h : 0 ≤ w ∧ w ≤ 64) : ¬ bad w := by unfold bad; omega
theorem zeros_get {n i : Nat} : (zeros n (0 : Int)).getD i 0 = 0 := by
  simp only [zeros, List.getD, List.getElem?_replicate]
  split <;> rfl
/-- the table of overlaps is right -/
theorem ov_check {ls : List (List Int)} {most : Int} (h0 : ovErr ls most = 0) : tchk (zeros ls.length 0) (zeros ls.length 0) (ovM ls most) = 0 := by
  have hn : ls.length ≤ 12 := by
    unfold ovErr at h0
    split at h0
    · cases h0
    · omega
  have hz : (zeros ls.length (0 : Int)).length = ls.length := zeros_len _ _
  unfold tchk
  rw [if_neg (by rw [hz]; omega), if_neg (by rw [hz, ovM_len]; omega), hz]
  have hr : ∀ i, i < ls.length → rowE (zeros ls.length 0) (zeros ls.length 0) (ovM ls most) i = 0 := fun i hi => by
    unfold rowE
    rw [ovM_get hi, ovRow_len, hz, if_neg (by omega), if_neg]
    rintro (hb | hb | ⟨w, hw, hb⟩)
    · rw [zeros_get] at hb; exact bad_ok (by omega) hb
    · rw [zeros_get] at hb; exact bad_ok (by omega) hb
    · simp only [ovRow, List.mem_map, List.mem_range] at hw
      obtain ⟨k, hk, rfl⟩ := hw
      exact bad_ok (ovCell_bounds h0) hb
  have : ∀ k, k ≤ ls.length → firstE (zeros ls.length 0) (zeros ls.length 0) (ovM ls most) k = 0 := fun k => by
    induction k with
    | zero => intro _; rfl
    | succ k ih =>
      intro hk
      rw [firstE_next (ih (by omega))]
      exact hr k (by omega)
  exact this _ (Nat.le_refl _)
theorem getD_u8 {ls : List (List Int)} (h8 : ∀ r ∈ ls, U8s r) (t : Nat) : U8s (ls.getD t []) := by
  by_cases h : t < ls.length
  · exact h8 _ (by simp [List.getD, h])
  · simp only [List.getD, List.getElem?_eq_none (show ls.length ≤ t by omega), Option.getD_none]
    intro x hx
    cases hx
theorem outTo_u8 {ls : List (List Int)} {o : List Int} {most : Int} (h8 : ∀ r ∈ ls, U8s r) : ∀ k, U8s (outTo ls o most k)
  | 0 => fun x hx => by cases hx
  | k + 1 => fun x hx => by
    unfold outTo at hx
    rcases List.mem_append.1 hx with h | h
    · exact outTo_u8 h8 k x h
    · exact getD_u8 h8 _ x (List.mem_of_mem_drop h)
theorem firstJ_le {ls : List (List Int)} {o : List Int} {most : Int} {n : Nat} (h : firstJ ls o most n = 0) {k : Nat} (hk : k ≤ n) : firstJ ls o most k = 0 := by
  by_cases h0 : firstJ ls o most k = 0
  · exact h0
  · have := firstJ_stick h0 (n - k)
    rw [show k + (n - k) = n by omega, h] at this
    exact absurd this.symm h0
theorem fit0 : fitF [97, 98] [98, 99] 3 = 1 := by decide +kernel
end Go.Vc.Pc
