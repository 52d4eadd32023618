/- Sorted lists without repeats against sets. -/
import Derived.Test.YtcjcfpbbhmhlbaaMF
set_option linter.unusedVariables false
set_option linter.unusedSimpArgs false
namespace Go.Vc.Ne
open Go.Proofs Go.IntWalk
set_option maxRecDepth 100000
theorem cpt_mem {xs : List ByteArray} {t : ByteArray} : ∀ {j : Nat}, j ≤ xs.length → (t ∈ cpt xs j ↔ t ∈ xs.take j)
  | 0, _ => by simp [cpt]
  | j + 1, hj => by
    have ih := cpt_mem (xs := xs) (t := t) (j := j) (by omega)
    rw [take_next xs j eS (by omega), List.mem_append, List.mem_singleton]
    unfold cpt
    split
    · rename_i h
      rw [ih]
      refine ⟨.inl, fun h' => h'.elim id fun e => ?_⟩
      rw [e, h.2]
      have hl : j - 1 < (xs.take j).length := by rw [List.length_take]; omega
      have : (xs.take j)[j - 1] = xs.getD (j - 1) eS := by simp [List.getD, show j - 1 < xs.length by omega]
      rw [← this]
      exact List.getElem_mem hl
    · rw [List.mem_append, List.mem_singleton, ih]
abbrev leS (a b : ByteArray) : Prop := ¬ ltS b a
theorem leS_lt {a b : ByteArray} (h : leS a b) (hn : ¬ a = b) : ltS a b := ltS_total (fun e => hn e.symm) h
theorem ltS_of {a b c : ByteArray} (h1 : leS a b) (h2 : ltS b c) : ltS a c := by
  by_cases e : a = b
  · rw [e]; exact h2
  · exact ltS_trans (leS_lt h1 e) h2
theorem cpt_sorted {xs : List ByteArray} (hs : xs.Pairwise leS) : ∀ {j : Nat}, j ≤ xs.length → (cpt xs j).Pairwise ltS
  | 0, _ => by simp [cpt]
  | j + 1, hj => by
    have ih := cpt_sorted hs (j := j) (by omega)
    unfold cpt
    split
    · exact ih
    · rename_i h
      rw [List.pairwise_append]
      refine ⟨ih, by simp, fun y hy z hz => ?_⟩
      simp only [List.mem_singleton] at hz
      subst hz
      rw [cpt_mem (by omega)] at hy
      obtain ⟨i, hi, ei⟩ := List.getElem_of_mem hy
      have hi' : i < j := by rw [List.length_take] at hi; omega
      have hp := List.pairwise_iff_getElem.1 hs
      have e1 : y = xs.getD i eS := by rw [← ei]; simp [List.getD, show i < xs.length by omega]
      have gd : ∀ k (hk : k < xs.length), xs.getD k eS = xs[k] := fun k hk => by simp [List.getD, hk]
      have h1 : leS y (xs.getD (j - 1) eS) := by
        rw [e1]
        by_cases e : i = j - 1
        · rw [← e]; exact ltS_irrefl _
        · rw [gd i (by omega), gd (j - 1) (by omega)]
          exact hp i (j - 1) (by omega) (by omega) (by omega)
      have h2 : ltS (xs.getD (j - 1) eS) (xs.getD j eS) := by
        refine leS_lt ?_ (fun e => h ⟨by omega, e.symm⟩)
        rw [gd (j - 1) (by omega), gd j (by omega)]
        exact hp (j - 1) j (by omega) (by omega) (by omega)
      exact ltS_of h1 h2
theorem keyD (s : ByteArray) : keyS s = s.data.toList := by unfold keyS; rw [ByteArray.toList_eq]
theorem sortS_sorted (xs : List ByteArray) : (sortS xs).Pairwise leS := by
  unfold sortS
  rw [List.pairwise_map]
  have h := List.pairwise_mergeSort (le := fun (x y : List UInt8) => decide (x ≤ y)) (fun a b c h1 h2 => by
    simp only [decide_eq_true_eq] at *
    exact List.le_trans h1 h2) (fun a b => by
    simp only [Bool.or_eq_true, decide_eq_true_eq]
    exact List.le_total a b) (xs.map fun s => s.data.toList)
  refine h.imp fun {a b} hab => ?_
  simp only [decide_eq_true_eq] at hab
  unfold leS ltS
  rw [keyD, keyD]
  exact List.not_lt.2 hab
theorem sortS_mem {xs : List ByteArray} {t : ByteArray} : t ∈ sortS xs ↔ t ∈ xs := by
  unfold sortS
  rw [List.mem_map]
  constructor
  · rintro ⟨l, hl, rfl⟩
    rw [(List.mergeSort_perm _ _).mem_iff, List.mem_map] at hl
    obtain ⟨s, hs, rfl⟩ := hl
    exact hs
  · intro h
    exact ⟨t.data.toList, by rw [(List.mergeSort_perm _ _).mem_iff]; exact List.mem_map_of_mem (f := fun s : ByteArray => s.data.toList) h, by simp⟩
theorem shS_sorted (xs : List Int) : (shS xs).Pairwise ltS := by
  unfold shS
  split
  · simp
  · exact cpt_sorted (sortS_sorted _) (Nat.le_refl _)
theorem shS_mem {xs : List Int} {t : ByteArray} : t ∈ shS xs ↔ t ∈ refS xs := by
  unfold shS refS
  rw [refU_mem]
  split
  · rename_i h
    have e0 : xs.length - 3 = 0 := by omega
    rw [e0]
    unfold refU
    rw [if_pos h]
    simp [shU]
  · rename_i h
    rw [cpt_mem (Nat.le_refl _), List.take_length, sortS_mem]
    unfold refU
    rw [if_neg h]
    simp
theorem sorted_nodup {xs : List ByteArray} (h : xs.Pairwise ltS) : xs.Nodup := h.imp fun {a b} hab e => by subst e; exact ltS_irrefl _ hab
theorem com_inB : ∀ (xs ys : List ByteArray), xs.Pairwise ltS → ys.Pairwise ltS → com xs ys = inB ys xs
  | [], ys, _, _ => by simp [com, inB]
  | x :: xs, [], _, _ => by
    have : ((x :: xs).filter fun s => decide (s ∈ ([] : List ByteArray))) = [] := List.filter_eq_nil_iff.2 (fun a _ => by simp)
    rw [com_nil]
    unfold inB
    rw [this]
    rfl
  | x :: xs, y :: ys, h1, h2 => by
    have h1' := List.pairwise_cons.1 h1
    have h2' := List.pairwise_cons.1 h2
    have cons : ∀ (B : List ByteArray), inB B (x :: xs) = inB B xs + if x ∈ B then 1 else 0 := fun B => by
      unfold inB
      by_cases hv : x ∈ B <;> simp [hv]
    have cong : ∀ (B B' vs : List ByteArray), (∀ s ∈ vs, s ∈ B ↔ s ∈ B') → inB B vs = inB B' vs := fun B B' vs h => by
      unfold inB
      congr 1
      apply List.filter_congr
      intro s hs
      simp [h s hs]
    rw [com_cons]
    split
    · rename_i hlt
      rw [com_inB xs (y :: ys) h1'.2 h2, cons, if_neg]
      · rfl
      · intro hm
        rcases List.mem_cons.1 hm with e | hm
        · rw [e] at hlt; exact ltS_irrefl _ hlt
        · exact ltS_irrefl _ (ltS_trans hlt (h2'.1 x hm))
    · rename_i hlt
      split
      · rename_i he
        rw [com_inB xs ys h1'.2 h2'.2, cons, if_pos (by rw [he]; exact List.mem_cons_self)]
        congr 1
        refine cong _ _ _ fun s hs => ?_
        rw [List.mem_cons]
        refine ⟨.inr, fun h => h.resolve_left fun e => ?_⟩
        have := h1'.1 s hs
        rw [e, he] at this
        exact ltS_irrefl _ this
      · rename_i he
        rw [com_inB (x :: xs) ys h1 h2'.2]
        refine cong _ _ _ fun s hs => ?_
        rw [List.mem_cons]
        refine ⟨.inr, fun h => h.resolve_left fun e => ?_⟩
        have hyx : ltS y x := ltS_total he hlt
        rcases List.mem_cons.1 hs with e2 | hs
        · rw [e2] at e; exact he e
        · have := ltS_trans hyx (h1'.1 s hs)
          rw [e] at this
          exact ltS_irrefl _ this
termination_by xs ys => xs.length + ys.length
theorem com_ref (a b : List Int) : com (shS a) (shS b) = inB (refS b) (refS a) ∧ (shS a).length = (refS a).length := by
  rw [com_inB _ _ (shS_sorted a) (shS_sorted b)]
  have h1 := inB_same (B := refS b) (sorted_nodup (shS_sorted a)) refS_nodup (fun s => shS_mem)
  refine ⟨?_, h1.2⟩
  rw [← h1.1]
  unfold inB
  congr 1
  apply List.filter_congr
  intro s hs
  simp [shS_mem]
end Go.Vc.Ne
