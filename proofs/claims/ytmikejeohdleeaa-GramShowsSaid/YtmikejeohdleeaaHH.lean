/- What Show looks for, in the program and in the reference. -/
import Derived.Test.YtmikejeohdleeaaHG
set_option linter.unusedVariables false
set_option linter.unusedSimpArgs false
namespace Go.Vc
open Go.Proofs Go.IntWalk
theorem stepF_union (ms : List Mv) (m : Nat) (c : Int) (i : Nat) : (stepF ms m c).testBit i = true ↔ ∃ s, m.testBit s = true ∧ (stepF ms (2 ^ s) c).testBit i = true := by
  constructor
  · intro h
    obtain ⟨p, hp, h1, h2, h3⟩ := stepF_bit.1 h
    exact ⟨frm p, h1, stepF_bit.2 ⟨p, hp, by rw [Nat.testBit_two_pow]; simp, h2, h3⟩⟩
  · rintro ⟨s, h0, h⟩
    obtain ⟨p, hp, h1, h2, h3⟩ := stepF_bit.1 h
    rw [Nat.testBit_two_pow] at h1
    have e : s = frm p := by simpa using h1
    subst e
    exact stepF_bit.2 ⟨p, hp, h0, h2, h3⟩
theorem runF_union (ms : List Mv) : ∀ (text : List Int) (m i : Nat), (runF ms m text).testBit i = true ↔ ∃ s, m.testBit s = true ∧ (wayF ms text s).testBit i = true
  | [], m, i => by
    constructor
    · intro h; exact ⟨i, h, by simp [wayF, runF, Nat.testBit_two_pow]⟩
    · rintro ⟨s, h0, h⟩
      have : s = i := by simpa [wayF, runF, Nat.testBit_two_pow] using h
      subst this; exact h0
  | c :: text, m, i => by
    have ih := runF_union ms text
    have e1 : runF ms m (c :: text) = runF ms (stepF ms m c) text := rfl
    rw [e1, ih]
    constructor
    · rintro ⟨s, h0, h⟩
      obtain ⟨t, h1, h2⟩ := (stepF_union ms m c s).1 h0
      refine ⟨t, h1, ?_⟩
      have e2 : wayF ms (c :: text) t = runF ms (stepF ms (2 ^ t) c) text := rfl
      rw [e2, ih]
      exact ⟨s, h2, h⟩
    · rintro ⟨t, h1, h⟩
      have e2 : wayF ms (c :: text) t = runF ms (stepF ms (2 ^ t) c) text := rfl
      rw [e2, ih] at h
      obtain ⟨s, h2, h3⟩ := h
      exact ⟨s, (stepF_union ms m c s).2 ⟨t, h1, h2⟩, h3⟩
theorem runF_mono {ms : List Mv} {text : List Int} {a b : Nat} (h : ∀ i, a.testBit i = true → b.testBit i = true) : ∀ i, (runF ms a text).testBit i = true → (runF ms b text).testBit i = true := fun i hi => by
  rw [runF_union] at hi ⊢
  obtain ⟨s, h1, h2⟩ := hi
  exact ⟨s, h s h1, h2⟩
/-- the closure towards the ends, told from each state -/
theorem lead_iff {n : Nat} {ms : List Mv} {es : List Int} {q : Nat} (hn : n ≤ 32) (ho : MOK ms) (ht : ∀ p ∈ ms, tgt p < n) (he : ∀ i, (endsF es).testBit i = true → i < n) (hq : Clos tgt frm ms (endsF es) q) {t : Nat} (htn : t < n) :
    q.testBit t = true ↔ swN ms n (2 ^ t) &&& endsF es ≠ 0 := by
  have hsw : ∀ s, s < n → Clos frm tgt ms (2 ^ s) (swN ms n (2 ^ s)) := fun s hs => swN_clos hn ho ht hs
  constructor
  · intro h
    have : t < n → swN ms n (2 ^ t) &&& endsF es ≠ 0 := hq.least (fun t => t < n → swN ms n (2 ^ t) &&& endsF es ≠ 0) (fun i hi hin => and_ne.2 ⟨i, (hsw _ hin).sub _ (by rw [Nat.testBit_two_pow]; simp), hi⟩) (fun p hp hC hin => by
      obtain ⟨e, h1, h2⟩ := and_ne.1 (hC (ht p hp))
      have hcl := hsw _ hin
      have hmv : (swN ms n (2 ^ frm p)).testBit (tgt p) = true := hcl.closed p hp (hcl.sub _ (by rw [Nat.testBit_two_pow]; simp))
      refine and_ne.2 ⟨e, ?_, h2⟩
      exact (hsw _ (ht p hp)).least (fun i => (swN ms n (2 ^ frm p)).testBit i = true) (fun i hi => by
        rw [Nat.testBit_two_pow] at hi
        have : tgt p = i := by simpa using hi
        rw [← this]; exact hmv) hcl.closed _ h1) t h
    exact this htn
  · intro h
    obtain ⟨e, h1, h2⟩ := and_ne.1 h
    have hback : ∀ i, (swN ms n (2 ^ t)).testBit i = true → q.testBit i = true → q.testBit t = true := fun i hi => (hsw t htn).least (fun i => q.testBit i = true → q.testBit t = true) (fun i hi hq' => by
      rw [Nat.testBit_two_pow] at hi
      have : t = i := by simpa using hi
      rw [this]; exact hq') (fun p hp hC hq' => hC (hq.closed p hp hq')) i hi
    exact hback e h1 (hq.sub _ h2)
/-- a shortest text leads there -/
theorem walk_leads {ms : List Mv} {to : Nat} (hb : ∀ p ∈ ms, 0 ≤ p.2.2.1 ∧ p.2.2.1 ≤ p.2.2.2 ∧ p.2.2.2 < 256) : ∀ (k A hit : Nat), hit ≠ 0 → (∀ i, hit.testBit i = true → (reachF ms to k).testBit i = true) → (∀ i, hit.testBit i = true → A.testBit i = true) →
    runF ms A (walkW (nxR ms (reachF ms to)) k hit) &&& to ≠ 0
  | 0, A, hit, hne, hR, hA => by
    obtain ⟨i, hi⟩ := mask_ne.1 hne
    exact and_ne.2 ⟨i, hA i hi, hR i hi⟩
  | k + 1, A, hit, hne, hR, hA => by
    unfold walkW
    cases hf : firstC (fun c => decide (nxR ms (reachF ms to) k hit c ≠ 0)) with
    | some c =>
      dsimp only
      have hcne : nxR ms (reachF ms to) k hit c ≠ 0 := by
        have := List.find?_some hf
        simpa using this
      have e : runF ms A ((c : Int) :: walkW (nxR ms (reachF ms to)) k (nxR ms (reachF ms to) k hit c)) = runF ms (stepF ms A c) (walkW (nxR ms (reachF ms to)) k (nxR ms (reachF ms to) k hit c)) := rfl
      rw [e]
      refine walk_leads hb k _ _ hcne (fun i hi => ?_) (fun i hi => ?_)
      · obtain ⟨p, _, _, _, h, rfl⟩ := nxR_bit.1 hi
        exact h
      · obtain ⟨p, h1, h2, h3, _, h4⟩ := nxR_bit.1 hi
        exact stepF_bit.2 ⟨p, h1, hA _ h2, h3, h4⟩
    | none =>
      exfalso
      obtain ⟨i, hi⟩ := mask_ne.1 hne
      obtain ⟨p, h1, h2, h3⟩ := preF_bit.1 (hR i hi)
      obtain ⟨g1, g2, g3⟩ := hb p h1
      unfold firstC at hf
      rw [List.find?_eq_none] at hf
      have := hf p.2.2.1.toNat (by simp; omega)
      simp only [decide_eq_true_eq, Classical.not_not] at this
      have hbit : (nxR ms (reachF ms to) k hit (p.2.2.1.toNat : Nat)).testBit (tgt p) = true := by
        refine nxR_bit.2 ⟨p, h1, by rw [h3]; exact hi, ?_, h2, rfl⟩
        unfold lbl
        rw [Int.toNat_of_nonneg g1]
        simp
        omega
      rw [this] at hbit
      simp at hbit
theorem short_leads {n : Nat} {ms : List Mv} {from' to : Nat} (hb : ∀ p ∈ ms, 0 ≤ p.2.2.1 ∧ p.2.2.1 ≤ p.2.2.2 ∧ p.2.2.2 < 256) {t : List Int} (h : shortF n ms from' to = some t) : runF ms from' t &&& to ≠ 0 := by
  unfold shortF at h
  split at h
  · rename_i d hd
    cases h
    have := List.find?_some hd
    refine walk_leads hb d from' _ (by simpa using this) (fun i hi => ?_) (fun i hi => ?_)
    · rw [Nat.testBit_and, Bool.and_eq_true] at hi; exact hi.2
    · rw [Nat.testBit_and, Bool.and_eq_true] at hi; exact hi.1
  · cases h
/-- behind the fragment the ends can be come to -/
theorem here_some {n : Nat} {ms : List Mv} {es part before : List Int} {q : Nat} (hb : ∀ p ∈ ms, 0 ≤ p.2.2.1 ∧ p.2.2.1 ≤ p.2.2.2 ∧ p.2.2.2 < 256) (ho : ∀ p ∈ ms, frm p < n ∧ tgt p < n) (h1 : Below n 1) (hq : Clos tgt frm ms (endsF es) q)
    (h : shortF n ms 1 (goodF n ms part q) = some before) : shortF n ms (hereF ms (goodF n ms part q) part before) (endsF es) ≠ none := by
  refine short_some ho (runF_below (fun p hp => (ho p hp).2) (and_below (runF_below (fun p hp => (ho p hp).2) h1 before)) part) hq ?_
  obtain ⟨s, hs1, hs2⟩ := and_ne.1 (short_leads hb h)
  obtain ⟨t, ht1, ht2⟩ := and_ne.1 (goodF_bit.1 hs2).2
  refine and_ne.2 ⟨t, ?_, ht2⟩
  unfold hereF
  rw [runF_union]
  exact ⟨s, by rw [Nat.testBit_and, hs1, hs2]; rfl, ht1⟩
def bitIf (b : Bool) (s : Nat) : Nat := if b = true then 2 ^ s else 0
theorem bitIf_put {m s : Nat} {b : Bool} : (m ||| bitIf b s) ||| 2 ^ s = m ||| bitIf true s := by
  apply Nat.eq_of_testBit_eq
  intro i
  cases b <;> simp [bitIf, Nat.testBit_or]
theorem goodF_next {n : Nat} {ms : List Mv} {part : List Int} {q : Nat} {b : Bool} (h : b = true ↔ runF ms (2 ^ n) part &&& q ≠ 0) : goodF (n + 1) ms part q = goodF n ms part q ||| bitIf b n := by
  have : goodF (n + 1) ms part q = if decide (runF ms (2 ^ n) part &&& q ≠ 0) = true then goodF n ms part q ||| 2 ^ n else goodF n ms part q := rfl
  rw [this]
  simp only [decide_eq_true_eq]
  unfold bitIf
  by_cases hb : b = true
  · rw [if_pos (h.1 hb), if_pos hb]
  · rw [if_neg (fun e => hb (h.2 e)), if_neg hb, Nat.or_zero]
end Go.Vc
