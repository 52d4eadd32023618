/- The best order: what the search computes. -/
import Derived.Test.YtmikejeohdleeaaPD
set_option linter.unusedVariables false
set_option linter.unusedSimpArgs false
namespace Go.Vc.Pc
open Go.Proofs Go.IntWalk
set_option maxRecDepth 100000
theorem tchk_ok {f l : List Int} {nx : List (List Int)} (h : tchk f l nx = 0) : f.length ≤ 12 ∧ Tame l nx f.length ∧ ∀ i, i < f.length → -1000000 ≤ f.getD i 0 ∧ f.getD i 0 ≤ 1000000 := by
  unfold tchk at h
  split at h
  · cases h
  rename_i h1
  split at h
  · cases h
  rename_i h2
  have h3 := firstE_zero h
  have hrow : ∀ i, i < f.length → (nx.getD i []).length = f.length ∧ ¬ (bad (f.getD i 0) ∨ bad (l.getD i 0) ∨ ∃ w ∈ nx.getD i [], bad w) := fun i hi => by
    have h4 := h3 i hi
    unfold rowE at h4
    split at h4
    · cases h4
    rename_i h5
    split at h4
    · cases h4
    rename_i h6
    exact ⟨by omega, h6⟩
  have nb : ∀ {w}, ¬ bad w → -1000000 ≤ w ∧ w ≤ 1000000 := fun {w} h => by
    unfold bad at h
    omega
  refine ⟨by omega, ⟨by omega, by omega, fun i hi => (hrow i hi).1, fun i hi => nb fun hb => (hrow i hi).2 (.inr (.inl hb)), fun i k hi hk => nb fun hb => (hrow i hi).2 (.inr (.inr ⟨_, ?_, hb⟩))⟩, fun i hi => nb fun hb => (hrow i hi).2 (.inl hb)⟩
  have := (hrow i hi).1
  have hk' : k < (nx.getD i []).length := by omega
  show (nx.getD i []).getD k 0 ∈ nx.getD i []
  generalize nx.getD i [] = r at *
  simp [List.getD, hk']
abbrev BS := List Int × Nat × Int
def wOf (f : List Int) (nx : Mat) (o : List Int) (i : Nat) : Int := if o.length = 0 then f.getD i 0 else at2 nx (o.getD (o.length - 1) 0).toNat i
def okAt (f : List Int) (nx B : Mat) (st : BS) (i : Nat) : Bool := !st.2.1.testBit i && decide (wOf f nx st.1 i + at2 B (st.2.1 ||| 2 ^ i) i = st.2.2)
def firstOk (f : List Int) (nx B : Mat) (st : BS) : Nat → Option Nat
  | 0 => none
  | k + 1 => match firstOk f nx B st k with
    | some i => some i
    | none => if okAt f nx B st k = true then some k else none
def stepB (f : List Int) (nx B : Mat) (n : Nat) (st : BS) : BS := match firstOk f nx B st n with
  | some i => (st.1 ++ [(i : Int)], st.2.1 ||| 2 ^ i, st.2.2 - wOf f nx st.1 i)
  | none => st
def sumB (f : List Int) (B : Mat) : Nat → Int
  | 0 => low
  | k + 1 => maxI (sumB f B k) (f.getD k 0 + at2 B (2 ^ k) k)
def runB (f : List Int) (nx B : Mat) (n : Nat) : Nat → BS
  | 0 => ([], 0, sumB f B n)
  | j + 1 => stepB f nx B n (runB f nx B n j)
theorem firstOk_none {f : List Int} {nx B : Mat} {st : BS} : ∀ {k}, firstOk f nx B st k = none ↔ ∀ i, i < k → okAt f nx B st i = false
  | 0 => ⟨fun _ i hi => by omega, fun _ => rfl⟩
  | k + 1 => by
    constructor
    · intro h i hi
      unfold firstOk at h
      cases hf : firstOk f nx B st k with
      | some j => rw [hf] at h; cases h
      | none =>
        rw [hf] at h
        have h' := firstOk_none.1 hf
        by_cases e : i = k
        · subst e
          cases hok : okAt f nx B st i with
          | false => rfl
          | true => simp [hok] at h
        · exact h' i (by omega)
    · intro h
      have h' : firstOk f nx B st k = none := firstOk_none.2 fun i hi => h i (by omega)
      unfold firstOk
      rw [h']
      simp [h k (by omega)]
theorem firstOk_at {f : List Int} {nx B : Mat} {st : BS} {i n : Nat} (h : ∀ i', i' < i → okAt f nx B st i' = false) (hi : okAt f nx B st i = true) (hn : i < n) : firstOk f nx B st n = some i := by
  induction n with
  | zero => omega
  | succ n ih =>
    unfold firstOk
    by_cases e : i = n
    · subst e
      rw [firstOk_none.2 h]
      simp [hi]
    · rw [ih (by omega)]
theorem firstOk_some {f : List Int} {nx B : Mat} {st : BS} {i : Nat} : ∀ {n}, firstOk f nx B st n = some i → i < n ∧ okAt f nx B st i = true
  | 0, h => by cases h
  | n + 1, h => by
    unfold firstOk at h
    cases hf : firstOk f nx B st n with
    | some j =>
      rw [hf] at h
      cases h
      have := firstOk_some hf
      exact ⟨by omega, this.2⟩
    | none =>
      rw [hf] at h
      dsimp only at h
      split at h
      · cases h
        rename_i hok
        exact ⟨by omega, hok⟩
      · cases h
/-- the search is within bounds -/
structure StOK (n : Nat) (j : Nat) (st : BS) : Prop where
  ol : st.1.length = j
  om : ∀ x ∈ st.1, 0 ≤ x ∧ x < (n : Int)
  us : st.2.1 < 2 ^ n
  lb : -2199023255552 - (j : Int) * 1000000 ≤ st.2.2 ∧ st.2.2 ≤ 2199023255552 + (j : Int) * 1000000
theorem wOf_bounds {f l : List Int} {nx : Mat} (ht : Tame l nx f.length) (hf : ∀ i, i < f.length → -1000000 ≤ f.getD i 0 ∧ f.getD i 0 ≤ 1000000) {o : List Int} (ho : ∀ x ∈ o, 0 ≤ x ∧ x < (f.length : Int)) {i : Nat} (hi : i < f.length) :
    -1000000 ≤ wOf f nx o i ∧ wOf f nx o i ≤ 1000000 := by
  unfold wOf
  split
  · exact hf i hi
  · rename_i h
    have hm : o.getD (o.length - 1) 0 ∈ o := by simp [List.getD, show o.length - 1 < o.length by omega]
    have := ho _ hm
    exact ht.nb _ i (by omega) hi
theorem stepB_ok {f l : List Int} {nx B : Mat} (ht : Tame l nx f.length) (hf : ∀ i, i < f.length → -1000000 ≤ f.getD i 0 ∧ f.getD i 0 ≤ 1000000) {j : Nat} {st : BS} (h : StOK f.length j st) {i : Nat} (hi : i < f.length) :
    StOK f.length (j + 1) (st.1 ++ [(i : Int)], st.2.1 ||| 2 ^ i, st.2.2 - wOf f nx st.1 i) := by
  have hw := wOf_bounds ht hf h.om hi
  have h4 := h.lb
  refine ⟨by simp [h.ol], fun x hx => ?_, or_lt h.us hi, ?_⟩
  · rcases List.mem_append.1 hx with hx | hx
    · exact h.om x hx
    · simp only [List.mem_singleton] at hx
      subst hx
      omega
  · dsimp only
    omega
end Go.Vc.Pc
