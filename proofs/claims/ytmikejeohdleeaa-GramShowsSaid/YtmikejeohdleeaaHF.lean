/- Maps of numbers as sets of bits. -/
import Derived.Test.YtmikejeohdleeaaHE
set_option linter.unusedVariables false
set_option linter.unusedSimpArgs false
namespace Go.Vc
open Go.Proofs Go.IntWalk
abbrev SE := List (Nat × List KA × Bool)
abbrev kI (n : Int) : List KA := [.int .i64 n]
structure SetM (es : SE) (m : Nat) : Prop where
  get : ∀ i : Nat, mfind (kI i) es = if m.testBit i = true then some true else none
  key : ∀ e ∈ es, ∃ i : Nat, e.2.1 = kI i ∧ e.2.2 = true ∧ m.testBit i = true
theorem SetM.empty : SetM [] 0 := ⟨fun i => by simp [mfind], by simp⟩
theorem kI_inj {a b : Int} : kI a = kI b ↔ a = b := by simp [kI]
theorem mset_mem {β : Type} {k : List KA} {v : β} : ∀ {es : List (Nat × List KA × β)} {e : Nat × List KA × β}, e ∈ mset k v es → e ∈ es ∨ e.2 = (k, v)
  | [], e, h => by simp [mset] at h
  | x :: es, e, h => by
    unfold mset at h
    split at h
    · rcases List.mem_cons.1 h with rfl | h
      · exact .inr rfl
      · exact .inl (by simp [h])
    · rcases List.mem_cons.1 h with rfl | h
      · exact .inl (by simp)
      · rcases mset_mem h with h | h
        · exact .inl (by simp [h])
        · exact .inr h
theorem mput_mem {β : Type} {c : Nat} {k : List KA} {v : β} {es : List (Nat × List KA × β)} {e : Nat × List KA × β} (h : e ∈ mput c es k v) : e ∈ es ∨ e.2 = (k, v) := by
  unfold mput at h
  split at h
  · exact mset_mem h
  · rcases List.mem_append.1 h with h | h
    · exact .inl h
    · simp only [List.mem_singleton] at h
      subst h
      exact .inr rfl
theorem SetM.put {es : SE} {m : Nat} (h : SetM es m) (c : Nat) (n : Int) (h0 : 0 ≤ n) : SetM (mput c es (kI n) true) (m ||| 2 ^ n.toNat) := by
  refine ⟨fun i => ?_, fun e he => ?_⟩
  · rw [mfind_put]
    by_cases e : (i : Int) = n
    · have : n.toNat = i := by omega
      rw [if_pos (by rw [e]), this, if_pos (by rw [Nat.testBit_or, Nat.testBit_two_pow]; simp)]
    · rw [if_neg (fun h => e (kI_inj.1 h)), h.get]
      have : (m ||| 2 ^ n.toNat).testBit i = m.testBit i := by
        rw [Nat.testBit_or, Nat.testBit_two_pow]
        have : decide (n.toNat = i) = false := by simp; omega
        rw [this, Bool.or_false]
      rw [this]
  · rcases mput_mem he with he | he
    · obtain ⟨i, h1, h2, h3⟩ := h.key e he
      exact ⟨i, h1, h2, by rw [Nat.testBit_or, h3]; rfl⟩
    · refine ⟨n.toNat, ?_, by rw [he], by rw [Nat.testBit_or, Nat.testBit_two_pow]; simp⟩
      rw [he]
      show kI n = kI _
      rw [Int.toNat_of_nonneg h0]
theorem SetM.mget {es : SE} {m : Nat} (h : SetM es m) {n : Int} (h0 : 0 ≤ n) : Vc.mget false es [.int .i64 n] = m.testBit n.toNat := by
  have := h.get n.toNat
  rw [Int.toNat_of_nonneg h0] at this
  have e : mfind [KA.int IntKind.i64 n] es = mfind (kI n) es := rfl
  unfold Vc.mget
  rw [e, this]
  cases m.testBit n.toNat <;> rfl
theorem SetM.len {es : SE} {m : Nat} (h : SetM es m) : es.length = 0 ↔ m = 0 := by
  constructor
  · intro e
    have : es = [] := List.eq_nil_of_length_eq_zero e
    subst this
    apply Classical.byContradiction
    intro hne
    obtain ⟨i, hi⟩ := mask_ne.1 hne
    have := h.get i
    rw [if_pos hi] at this
    cases this
  · intro e
    subst e
    cases es with
    | nil => rfl
    | cons x es =>
      obtain ⟨i, _, _, h3⟩ := h.key x (by simp)
      simp at h3
theorem mfind_ex {β : Type} {k : List KA} {v : β} : ∀ {es : List (Nat × List KA × β)}, mfind k es = some v → ∃ e ∈ es, e.2.1 = k
  | [], h => by cases h
  | x :: es, h => by
    unfold mfind at h
    split at h
    · rename_i hk; exact ⟨x, by simp, hk⟩
    · obtain ⟨e, he, hk⟩ := mfind_ex h
      exact ⟨e, by simp [he], hk⟩
/-- what of a map a range has gone through -/
structure GoneM (es : SE) (m : Nat) (seen : List Nat) (v : Nat) : Prop where
  sub : ∀ i, v.testBit i = true → m.testBit i = true
  vis : ∀ e ∈ es, ∀ i : Nat, e.2.1 = kI i → (e.1 ∈ seen ↔ v.testBit i = true)
theorem GoneM.zero {es : SE} {m : Nat} : GoneM es m [] 0 := ⟨fun i h => by simp at h, fun e _ i _ => by simp⟩
theorem GoneM.next {es : SE} {m : Nat} {seen : List Nat} {v c : Nat} (h : GoneM es m seen v) (hs : SetM es m) (hw : mwf c es) {e : Nat × List KA × Bool} (he : e ∈ es) (hn : e.1 ∉ seen) {i : Nat} (hk : e.2.1 = kI i) :
    v.testBit i = false ∧ GoneM es m (seen ++ [e.1]) (v ||| 2 ^ i) := by
  obtain ⟨_, h2, h3⟩ := hw
  have hv : v.testBit i = false := by
    cases hb : v.testBit i with
    | false => rfl
    | true => exact absurd ((h.vis e he i hk).2 hb) hn
  refine ⟨hv, fun j hj => ?_, fun e' he' j hj => ?_⟩
  · rw [Nat.testBit_or, Bool.or_eq_true, Nat.testBit_two_pow, decide_eq_true_eq] at hj
    rcases hj with hj | rfl
    · exact h.sub j hj
    · obtain ⟨i', g1, _, g3⟩ := hs.key e he
      have : i' = i := by have := kI_inj.1 (g1.symm.trans hk); omega
      subst this
      exact g3
  · rw [List.mem_append, List.mem_singleton, h.vis e' he' j hj, Nat.testBit_or, Bool.or_eq_true, Nat.testBit_two_pow, decide_eq_true_eq]
    have inj1 : ∀ {a b : Nat × List KA × Bool}, a ∈ es → b ∈ es → a.1 = b.1 → a = b := by
      intro a b ha hb hab
      obtain ⟨x, hx⟩ := List.mem_iff_getElem?.1 ha
      obtain ⟨y, hy⟩ := List.mem_iff_getElem?.1 hb
      have hxl := (List.getElem?_eq_some_iff.1 hx)
      have hyl := (List.getElem?_eq_some_iff.1 hy)
      rcases Nat.lt_trichotomy x y with hl | hl | hl
      · have := List.pairwise_iff_getElem.1 h2 x y hxl.1 hyl.1 hl
        rw [hxl.2, hyl.2] at this
        exact absurd hab this
      · subst hl; rw [hx] at hy; exact Option.some.inj hy
      · have := List.pairwise_iff_getElem.1 h2 y x hyl.1 hxl.1 hl
        rw [hxl.2, hyl.2] at this
        exact absurd hab.symm this
    have inj2 : ∀ {a b : Nat × List KA × Bool}, a ∈ es → b ∈ es → a.2.1 = b.2.1 → a = b := by
      intro a b ha hb hab
      obtain ⟨x, hx⟩ := List.mem_iff_getElem?.1 ha
      obtain ⟨y, hy⟩ := List.mem_iff_getElem?.1 hb
      have hxl := (List.getElem?_eq_some_iff.1 hx)
      have hyl := (List.getElem?_eq_some_iff.1 hy)
      rcases Nat.lt_trichotomy x y with hl | hl | hl
      · have := List.pairwise_iff_getElem.1 h3 x y hxl.1 hyl.1 hl
        rw [hxl.2, hyl.2] at this
        exact absurd hab this
      · subst hl; rw [hx] at hy; exact Option.some.inj hy
      · have := List.pairwise_iff_getElem.1 h3 y x hyl.1 hxl.1 hl
        rw [hxl.2, hyl.2] at this
        exact absurd hab.symm this
    constructor
    · rintro (h | h)
      · exact .inl h
      · have := inj1 he' he h
        subst this
        have := kI_inj.1 (hk.symm.trans hj)
        exact .inr (by omega)
    · rintro (h | rfl)
      · exact .inl h
      · exact .inr (by rw [inj2 he' he (hj.trans hk.symm)])
theorem GoneM.all {es : SE} {m : Nat} {seen : List Nat} {v : Nat} (h : GoneM es m seen v) (hs : SetM es m) (ha : ∀ e ∈ es, e.1 ∈ seen) : v = m := by
  apply Nat.eq_of_testBit_eq
  intro i
  refine Bool.eq_iff_iff.2 ⟨h.sub i, fun hm => ?_⟩
  have := hs.get i
  rw [if_pos hm] at this
  obtain ⟨e, he, hk⟩ := mfind_ex this
  exact (h.vis e he i hk).1 (ha e he)
theorem cnt_put {v i : Nat} (h : v.testBit i = false) (hi : i < 32) : 32 - cnt 32 (v ||| 2 ^ i) < 32 - cnt 32 v := by
  have h1 := cnt_lt (n := 32) (m := v) (m' := v ||| 2 ^ i) (fun j hj => by rw [Nat.testBit_or, hj]; rfl) hi h (by rw [Nat.testBit_or, Nat.testBit_two_pow]; simp)
  have h2 := cnt_le 32 (v ||| 2 ^ i)
  omega
theorem or_and_pow {v i R : Nat} : ((v ||| 2 ^ i) &&& R) = if R.testBit i = true then (v &&& R) ||| 2 ^ i else v &&& R := by
  apply Nat.eq_of_testBit_eq
  intro j
  by_cases hR : R.testBit i = true
  · rw [if_pos hR, Nat.testBit_and, Nat.testBit_or, Nat.testBit_or, Nat.testBit_and, Nat.testBit_two_pow]
    by_cases e : i = j
    · subst e; rw [hR]; simp
    · simp [e]
  · rw [if_neg hR, Nat.testBit_and, Nat.testBit_or, Nat.testBit_and, Nat.testBit_two_pow]
    by_cases e : i = j
    · subst e
      have : R.testBit i = false := by simpa using hR
      rw [this]; simp
    · simp [e]
end Go.Vc
