/- Shortest texts of small automata, told with sets of bits. -/
import Derived.Test.YtmikejeohdleeaaGH
import Derived.Test.YtmikejeohdleeaaV28
set_option linter.unusedVariables false
set_option linter.unusedSimpArgs false
namespace Go.Vc
open Go.Proofs Go.IntWalk

/-- the states with a move into a set -/
def preF (ms : List Mv) (R : Nat) : Nat := orF (fun p => R.testBit (tgt p)) frm ms 0
def reachF (ms : List Mv) (to : Nat) : Nat → Nat
  | 0 => to
  | d + 1 => preF ms (reachF ms to d)
theorem preF_bit {ms : List Mv} {R i : Nat} : (preF ms R).testBit i = true ↔ ∃ p ∈ ms, R.testBit (tgt p) = true ∧ frm p = i := by
  unfold preF
  rw [orF_bit]
  simp
theorem reachF_lt {ms : List Mv} (ho : MOK ms) {to : Nat} (ht : to < 2 ^ 32) : ∀ d, reachF ms to d < 2 ^ 32
  | 0 => ht
  | d + 1 => orF_lt (by decide) ho.frm
/-- d moves lead from s into the set, and no fewer do -/
def AtD (R : Nat → Nat) (d s : Nat) : Prop := (R d).testBit s = true ∧ ∀ j, j < d → (R j).testBit s = false
theorem AtD.uniq {R : Nat → Nat} {d e s : Nat} (h : AtD R d s) (k : AtD R e s) : d = e := by
  rcases Nat.lt_trichotomy d e with hl | hl | hl
  · have := k.2 d hl; rw [h.1] at this; cases this
  · exact hl
  · have := h.2 e hl; rw [k.1] at this; cases this
theorem AtD.le {R : Nat → Nat} {d j s : Nat} (h : AtD R d s) (k : (R j).testBit s = true) : d ≤ j := by
  rcases Nat.lt_or_ge j d with hl | hl
  · have := h.2 j hl; rw [k] at this; cases this
  · exact hl
theorem AtD.ex {R : Nat → Nat} {s : Nat} : ∀ {d : Nat}, (R d).testBit s = true → ∃ e, e ≤ d ∧ AtD R e s := by
  intro d
  induction d using Nat.strongRecOn with
  | ind d ih =>
    intro h
    by_cases hj : ∃ j, j < d ∧ (R j).testBit s = true
    · obtain ⟨j, h1, h2⟩ := hj
      obtain ⟨e, h3, h4⟩ := ih j h1 h2
      exact ⟨e, by omega, h4⟩
    · refine ⟨d, Nat.le_refl _, h, fun j hjd => ?_⟩
      cases hb : (R j).testBit s with
      | false => rfl
      | true => exact absurd ⟨j, hjd, hb⟩ hj

/-! ### masks by a condition -/
def maskOf (f : Nat → Bool) : Nat → Nat
  | 0 => 0
  | n + 1 => if f n = true then maskOf f n ||| 2 ^ n else maskOf f n
theorem maskOf_bit (f : Nat → Bool) : ∀ (n i : Nat), (maskOf f n).testBit i = (decide (i < n) && f i)
  | 0, i => by simp [maskOf]
  | n + 1, i => by
    unfold maskOf
    have ih := maskOf_bit f n i
    by_cases hin : i = n
    · subst hin
      have e0 : (maskOf f i).testBit i = false := by rw [ih]; simp
      cases hf : f i with
      | true => rw [if_pos rfl, Nat.testBit_or, Nat.testBit_two_pow]; simp
      | false => rw [if_neg (by simp), e0]; simp
    · have hd : decide (i < n + 1) = decide (i < n) := by simp; omega
      rw [hd, ← ih]
      split
      · rw [Nat.testBit_or, Nat.testBit_two_pow]
        have : decide (n = i) = false := by simp; omega
        rw [this, Bool.or_false]
      · rfl
theorem maskOf_lt (f : Nat → Bool) : ∀ {n : Nat}, n ≤ 32 → maskOf f n < 2 ^ 32
  | 0, _ => by simp [maskOf]
  | n + 1, h => by
    unfold maskOf
    split
    · exact Nat.or_lt_two_pow (maskOf_lt f (by omega)) (pow_lt32 (by omega))
    · exact maskOf_lt f (by omega)
theorem mask_ne {a : Nat} : a ≠ 0 ↔ ∃ i, a.testBit i = true := ⟨fun h => Nat.exists_testBit_of_ne_zero h, fun ⟨i, h⟩ e => by subst e; simp at h⟩

/-! ### distances -/
def Dist (n : Nat) (R : Nat → Nat) (dl : List Int) : Prop :=
  dl.length = n ∧ ∀ s, s < n → (dl.getD s 0 = -1 ∧ ∀ d, d ≤ n → (R d).testBit s = false) ∨ ∃ d : Nat, d ≤ n ∧ dl.getD s 0 = d ∧ AtD R d s
/-- in pass k, before move j -/
def DistP (n : Nat) (ms : List Mv) (R : Nat → Nat) (k j : Nat) (dl : List Int) : Prop :=
  dl.length = n ∧ ∀ s, s < n → (dl.getD s 0 = -1 ∧ (∀ d, d ≤ k → (R d).testBit s = false) ∧ ∀ p ∈ ms.take j, frm p = s → (R k).testBit (tgt p) = false) ∨
    (∃ d : Nat, d ≤ k ∧ dl.getD s 0 = d ∧ AtD R d s) ∨ (0 < j ∧ dl.getD s 0 = (k : Int) + 1 ∧ AtD R (k + 1) s)
theorem getD_set_int {l : List Int} {i j : Nat} {x : Int} (h : i < l.length) : (l.set i x).getD j 0 = if j = i then x else l.getD j 0 := by
  simp only [List.getD_eq_getElem?_getD, List.getElem?_set]
  by_cases e : j = i
  · subst e; simp [h]
  · rw [if_neg (fun h => e h.symm), if_neg e]
theorem DistP.step {n k j : Nat} {ms : List Mv} {to : Nat} {dl : List Int} (h : DistP n ms (reachF ms to) k j dl) (hj : j < ms.length) (ha : frm (ms.getD j mZ) < n) (hb : tgt (ms.getD j mZ) < n) :
    (dl.getD (tgt (ms.getD j mZ)) 0 = k → dl.getD (frm (ms.getD j mZ)) 0 < 0 → DistP n ms (reachF ms to) k (j + 1) (dl.set (frm (ms.getD j mZ)) ((k : Int) + 1))) ∧
    (¬ (dl.getD (tgt (ms.getD j mZ)) 0 = k ∧ dl.getD (frm (ms.getD j mZ)) 0 < 0) → DistP n ms (reachF ms to) k (j + 1) dl) := by
  obtain ⟨hl, hd⟩ := h
  have hmem : ms.getD j mZ ∈ ms := by simp [List.getD, hj]
  have htk : ms.take (j + 1) = ms.take j ++ [ms.getD j mZ] := take_next ms j mZ hj
  generalize ms.getD j mZ = p at *
  refine ⟨fun h1 h2 => ⟨by simpa using hl, fun s hs => ?_⟩, fun hn => ⟨hl, fun s hs => ?_⟩⟩
  · rw [getD_set_int (by omega)]
    by_cases e : s = frm p
    · rw [if_pos e]
      subst e
      refine .inr (.inr ⟨by omega, rfl, ?_, fun i hi => ?_⟩)
      · have hR : (reachF ms to k).testBit (tgt p) = true := by
          rcases hd (tgt p) hb with ⟨g, _⟩ | ⟨d, g1, g2, g3⟩ | ⟨_, g, _⟩
          · omega
          · have : d = k := by omega
            subst this
            exact g3.1
          · omega
        exact preF_bit.2 ⟨p, hmem, hR, rfl⟩
      · rcases hd (frm p) ha with ⟨_, g, _⟩ | ⟨d, g1, g2, g3⟩ | ⟨_, g, _⟩
        · exact g i (by omega)
        · omega
        · omega
    · rw [if_neg e]
      rcases hd s hs with ⟨g1, g2, g3⟩ | g | g
      · refine .inl ⟨g1, g2, fun q hq hf => ?_⟩
        rw [htk] at hq
        rcases List.mem_append.1 hq with hq | hq
        · exact g3 q hq hf
        · simp only [List.mem_singleton] at hq
          subst hq
          exact absurd hf.symm e
      · exact .inr (.inl g)
      · exact .inr (.inr ⟨by omega, g.2⟩)
  · rcases hd s hs with ⟨g1, g2, g3⟩ | g | g
    · refine .inl ⟨g1, g2, fun q hq hf => ?_⟩
      rw [htk] at hq
      rcases List.mem_append.1 hq with hq | hq
      · exact g3 q hq hf
      · simp only [List.mem_singleton] at hq
        subst hq
        subst hf
        rcases hd (tgt q) hb with ⟨_, f, _⟩ | ⟨d, f1, f2, f3⟩ | ⟨_, f1, f2⟩
        · exact f k (Nat.le_refl _)
        · have hdk : d < k := by
            rcases Nat.lt_or_ge d k with h | h
            · exact h
            · exact absurd ⟨by omega, by omega⟩ hn
          have : (reachF ms to (d + 1)).testBit (frm q) = true := preF_bit.2 ⟨q, hmem, f3.1, rfl⟩
          rw [g2 (d + 1) (by omega)] at this
          cases this
        · exact f2.2 k (by omega)
    · exact .inr (.inl g)
    · exact .inr (.inr ⟨by omega, g.2⟩)
theorem DistP.next {n k : Nat} {ms : List Mv} {to : Nat} {dl : List Int} (h : DistP n ms (reachF ms to) k ms.length dl) : DistP n ms (reachF ms to) (k + 1) 0 dl := by
  refine ⟨h.1, fun s hs => ?_⟩
  rcases h.2 s hs with ⟨g1, g2, g3⟩ | ⟨d, g1, g2, g3⟩ | ⟨_, g1, g2⟩
  · rw [List.take_length] at g3
    refine .inl ⟨g1, fun d hd => ?_, by simp⟩
    rcases Nat.lt_or_ge d (k + 1) with h | h
    · exact g2 d (by omega)
    · have : d = k + 1 := by omega
      subst this
      cases hb : (reachF ms to (k + 1)).testBit s with
      | false => rfl
      | true =>
        obtain ⟨p, h1, h2, h3⟩ := preF_bit.1 hb
        rw [g3 p h1 h3] at h2
        cases h2
  · exact .inr (.inl ⟨d, by omega, g2, g3⟩)
  · exact .inr (.inl ⟨k + 1, Nat.le_refl _, by omega, g2⟩)
theorem DistP.dist {n : Nat} {ms : List Mv} {to : Nat} {dl : List Int} (h : DistP n ms (reachF ms to) n 0 dl) : Dist n (reachF ms to) dl := by
  refine ⟨h.1, fun s hs => ?_⟩
  rcases h.2 s hs with ⟨g1, g2, g3⟩ | g | ⟨g1, g2⟩
  · exact .inl ⟨g1, g2⟩
  · exact .inr g
  · omega

/-! ### the texts -/
def firstC (P : Int → Bool) : Option Nat := (List.range 256).find? fun c => P c
theorem firstC_some {P : Int → Bool} {c : Nat} (hc : c < 256) (hP : P c = true) (hb : ∀ i, i < c → P (i : Nat) = false) : firstC P = some c := by
  unfold firstC
  rw [List.find?_eq_some_iff_getElem]
  refine ⟨hP, c, by simpa using hc, by simp, fun j hj => ?_⟩
  simp [hb j hj]
theorem firstC_none {P : Int → Bool} (h : ∀ i : Nat, i < 256 → P (i : Nat) = false) : firstC P = none := by
  unfold firstC
  rw [List.find?_eq_none]
  intro x hx
  simp [h x (by simpa using hx)]
theorem firstC_congr {P Q : Int → Bool} (h : ∀ c, P c = Q c) : firstC P = firstC Q := by
  have : P = Q := funext h
  rw [this]
def walkW (nx : Nat → Nat → Int → Nat) : Nat → Nat → List Int
  | 0, _ => []
  | k + 1, hit => match firstC (fun c => decide (nx k hit c ≠ 0)) with
    | some c => (c : Int) :: walkW nx k (nx k hit c)
    | none => walkW nx k hit
theorem walkW_len (nx : Nat → Nat → Int → Nat) : ∀ (k hit : Nat), (walkW nx k hit).length ≤ k
  | 0, _ => by simp [walkW]
  | k + 1, hit => by
    unfold walkW
    split
    · rename_i c _
      rw [List.length_cons]; have := walkW_len nx k (nx k hit c); omega
    · have := walkW_len nx k hit; omega
theorem walkW_byte (nx : Nat → Nat → Int → Nat) : ∀ (k hit : Nat), ∀ x ∈ walkW nx k hit, 0 ≤ x ∧ x < 256
  | 0, _ => by simp [walkW]
  | k + 1, hit => by
    intro x hx
    unfold walkW at hx
    split at hx
    · rename_i c hc
      rcases List.mem_cons.1 hx with rfl | hx
      · have := List.mem_of_find?_eq_some hc
        simp at this
        omega
      · exact walkW_byte nx k _ x hx
    · exact walkW_byte nx k _ x hx
/-- as the reference goes on -/
def nxR (ms : List Mv) (R : Nat → Nat) (k hit : Nat) (c : Int) : Nat := orF (fun p => (hit.testBit (frm p) && lbl p c) && (R k).testBit (tgt p)) tgt ms 0
theorem nxR_bit {ms : List Mv} {R : Nat → Nat} {k hit : Nat} {c : Int} {i : Nat} : (nxR ms R k hit c).testBit i = true ↔ ∃ p ∈ ms, hit.testBit (frm p) = true ∧ lbl p c = true ∧ (R k).testBit (tgt p) = true ∧ tgt p = i := by
  unfold nxR
  rw [orF_bit]
  simp [and_assoc]
theorem stepF_bit {ms : List Mv} {m : Nat} {c : Int} {i : Nat} : (stepF ms m c).testBit i = true ↔ ∃ p ∈ ms, m.testBit (frm p) = true ∧ lbl p c = true ∧ tgt p = i := by
  unfold stepF
  rw [orF_bit]
  simp [and_assoc]
def withinF (dl : List Int) (m : Nat) (d : Int) : Nat := maskOf (fun i => m.testBit i && decide (dl.getD i 0 = d)) dl.length
theorem withinF_bit {dl : List Int} {m : Nat} {d : Int} {i : Nat} : (withinF dl m d).testBit i = true ↔ i < dl.length ∧ m.testBit i = true ∧ dl.getD i 0 = d := by
  unfold withinF
  rw [maskOf_bit]
  simp
/-- as the program goes on -/
def nxP (ms : List Mv) (dl : List Int) (k hit : Nat) (c : Int) : Nat := withinF dl (stepF ms (withinF dl hit ((k : Int) + 1)) c) k
def Below (n m : Nat) : Prop := ∀ i, m.testBit i = true → i < n
structure RelW (R : Nat → Nat) (k A B : Nat) : Prop where
  a : ∀ s, A.testBit s = true → ∀ j, j < k → (R j).testBit s = false
  b : ∀ s, B.testBit s = true → ∀ j, j < k → (R j).testBit s = false
  same : ∀ s, (R k).testBit s = true → (A.testBit s = true ↔ B.testBit s = true)
theorem Dist.at {n : Nat} {R : Nat → Nat} {dl : List Int} (h : Dist n R dl) {s k : Nat} (hs : s < n) (hk : k ≤ n) : dl.getD s 0 = k ↔ AtD R k s := by
  rcases h.2 s hs with ⟨g1, g2⟩ | ⟨d, g1, g2, g3⟩
  · constructor
    · intro e; omega
    · intro e; have := g2 k hk; rw [e.1] at this; cases this
  · constructor
    · intro e
      have : d = k := by omega
      subst this
      exact g3
    · intro e
      rw [g2, g3.uniq e]
theorem walk_next {n : Nat} {ms : List Mv} {to : Nat} {dl : List Int} (h : Dist n (reachF ms to) dl) (ho : ∀ p ∈ ms, frm p < n ∧ tgt p < n) {k A B : Nat} (hk : k + 1 ≤ n) (hr : RelW (reachF ms to) (k + 1) A B) (c : Int) :
    nxP ms dl k A c = nxR ms (reachF ms to) k B c := by
  apply Nat.eq_of_testBit_eq
  intro i
  refine Bool.eq_iff_iff.2 ?_
  rw [nxR_bit]
  unfold nxP
  rw [withinF_bit, stepF_bit]
  constructor
  · rintro ⟨h1, ⟨p, h2, h3, h4, rfl⟩, h5⟩
    rw [withinF_bit] at h3
    rw [h.1] at h1 h3
    have ha := (h.at h1 (by omega)).1 h5
    have hb := (h.at (k := k + 1) h3.1 hk).1 (by have := h3.2.2; omega)
    exact ⟨p, h2, (hr.same _ hb.1).1 h3.2.1, h4, ha.1, rfl⟩
  · rintro ⟨p, h1, h2, h3, h4, rfl⟩
    obtain ⟨g1, g2⟩ := ho p h1
    have hin : (reachF ms to (k + 1)).testBit (frm p) = true := preF_bit.2 ⟨p, h1, h4, rfl⟩
    have hA : AtD (reachF ms to) (k + 1) (frm p) := ⟨hin, hr.b _ h2⟩
    have hT : AtD (reachF ms to) k (tgt p) := by
      refine ⟨h4, fun j hj => ?_⟩
      cases hb : (reachF ms to j).testBit (tgt p) with
      | false => rfl
      | true =>
        have : (reachF ms to (j + 1)).testBit (frm p) = true := preF_bit.2 ⟨p, h1, hb, rfl⟩
        rw [hA.2 (j + 1) (by omega)] at this
        cases this
    refine ⟨by rw [h.1]; exact g2, ⟨p, h1, ?_, h3, rfl⟩, (h.at g2 (by omega)).2 hT⟩
    rw [withinF_bit, h.1]
    exact ⟨g1, (hr.same _ hin).2 h2, by have := (h.at g1 hk).2 hA; omega⟩
theorem walk_same {n : Nat} {ms : List Mv} {to : Nat} {dl : List Int} (h : Dist n (reachF ms to) dl) (ho : ∀ p ∈ ms, frm p < n ∧ tgt p < n) : ∀ {k A B : Nat}, k ≤ n → RelW (reachF ms to) k A B →
    walkW (nxP ms dl) k A = walkW (nxR ms (reachF ms to)) k B
  | 0, A, B, _, _ => rfl
  | k + 1, A, B, hk, hr => by
    have e : ∀ c, nxP ms dl k A c = nxR ms (reachF ms to) k B c := fun c => walk_next h ho hk hr c
    unfold walkW
    rw [firstC_congr (Q := fun c => decide (nxR ms (reachF ms to) k B c ≠ 0)) (fun c => by rw [e])]
    cases hf : firstC (fun c => decide (nxR ms (reachF ms to) k B c ≠ 0)) with
    | some c =>
      dsimp only
      rw [e]
      congr 1
      have hn : ∀ s, (nxR ms (reachF ms to) k B c).testBit s = true → ∀ j, j < k → (reachF ms to j).testBit s = false := fun s hs j hj => by
        rw [← e, nxP, withinF_bit, h.1] at hs
        exact ((h.at hs.1 (by omega)).1 hs.2.2).2 j hj
      exact walk_same h ho (by omega) ⟨hn, hn, fun s _ => Iff.rfl⟩
    | none =>
      dsimp only
      refine walk_same h ho (by omega) ⟨fun s hs j hj => hr.a s hs j (by omega), fun s hs j hj => hr.b s hs j (by omega), fun s hs => ⟨fun ha => ?_, fun hb => ?_⟩⟩
      · rw [hr.a s ha k (by omega)] at hs; cases hs
      · rw [hr.b s hb k (by omega)] at hs; cases hs

def firstD (n : Nat) (P : Nat → Bool) : Option Nat := (List.range (n + 1)).find? P
theorem firstD_some {n : Nat} {P : Nat → Bool} {d : Nat} (hd : d ≤ n) (hP : P d = true) (hb : ∀ i, i < d → P i = false) : firstD n P = some d := by
  unfold firstD
  rw [List.find?_eq_some_iff_getElem]
  refine ⟨hP, d, by simp; omega, by simp, fun j hj => ?_⟩
  simp [hb j hj]
theorem firstD_none {n : Nat} {P : Nat → Bool} (h : ∀ i, i ≤ n → P i = false) : firstD n P = none := by
  unfold firstD
  rw [List.find?_eq_none]
  intro x hx
  simp [h x (by simp at hx; omega)]
/-- the first one of the shortest texts -/
def shortF (n : Nat) (ms : List Mv) (from' to : Nat) : Option (List Int) :=
  match firstD n (fun d => decide (from' &&& reachF ms to d ≠ 0)) with
  | some d => some (walkW (nxR ms (reachF ms to)) d (from' &&& reachF ms to d))
  | none => none
/-- what the search for the least distance has found -/
def BestQ (dl : List Int) (m i : Nat) (b : Int) : Prop :=
  (b = -1 ∧ ∀ s, s < i → m.testBit s = true → dl.getD s 0 < 0) ∨ (0 ≤ b ∧ (∃ s, s < i ∧ m.testBit s = true ∧ dl.getD s 0 = b) ∧ ∀ s, s < i → m.testBit s = true → 0 ≤ dl.getD s 0 → b ≤ dl.getD s 0)
theorem BestQ.step {dl : List Int} {m i : Nat} {b : Int} (h : BestQ dl m i b) :
    (m.testBit i = true → 0 ≤ dl.getD i 0 → (b < 0 ∨ dl.getD i 0 < b) → BestQ dl m (i + 1) (dl.getD i 0)) ∧ (¬ (m.testBit i = true ∧ 0 ≤ dl.getD i 0 ∧ (b < 0 ∨ dl.getD i 0 < b)) → BestQ dl m (i + 1) b) := by
  refine ⟨fun h1 h2 h3 => .inr ⟨h2, ⟨i, by omega, h1, rfl⟩, fun s hs hm h0 => ?_⟩, fun hn => ?_⟩
  · by_cases e : s = i
    · subst e; exact Int.le_refl _
    · rcases h with ⟨_, g⟩ | ⟨g1, _, g2⟩
      · have := g s (by omega) hm; omega
      · have := g2 s (by omega) hm h0; omega
  · rcases h with ⟨g1, g2⟩ | ⟨g1, ⟨s, f1, f2, f3⟩, g2⟩
    · refine .inl ⟨g1, fun s hs hm => ?_⟩
      by_cases e : s = i
      · subst e
        rcases Int.lt_or_le (dl.getD s 0) 0 with h | h
        · exact h
        · exact absurd ⟨hm, h, .inl (by omega)⟩ hn
      · exact g2 s (by omega) hm
    · refine .inr ⟨g1, ⟨s, by omega, f2, f3⟩, fun s hs hm h0 => ?_⟩
      by_cases e : s = i
      · subst e
        rcases Int.lt_or_le (dl.getD s 0) b with h | h
        · exact absurd ⟨hm, h0, .inr h⟩ hn
        · exact h
      · exact g2 s (by omega) hm h0
theorem BestQ.none {n : Nat} {ms : List Mv} {from' to : Nat} {dl : List Int} (h : Dist n (reachF ms to) dl) (hf : Below n from') (hq : BestQ dl from' n (-1)) : shortF n ms from' to = none := by
  unfold shortF
  rw [firstD_none]
  intro d hd
  rcases hq with ⟨_, g⟩ | ⟨g, _⟩
  · simp only [decide_eq_false_iff_not, Classical.not_not]
    apply Classical.byContradiction
    intro hne
    obtain ⟨s, hs⟩ := mask_ne.1 hne
    rw [Nat.testBit_and, Bool.and_eq_true] at hs
    have hsn := hf s hs.1
    have := g s hsn hs.1
    rcases h.2 s hsn with ⟨_, f⟩ | ⟨e, f1, f2, f3⟩
    · rw [f d hd] at hs; cases hs.2
    · omega
  · omega
theorem BestQ.some {n : Nat} {ms : List Mv} {from' to : Nat} {dl : List Int} (h : Dist n (reachF ms to) dl) (ho : ∀ p ∈ ms, frm p < n ∧ tgt p < n) (hf : Below n from') {b : Nat} (hq : BestQ dl from' n b) :
    b ≤ n ∧ shortF n ms from' to = some (walkW (nxP ms dl) b from') := by
  rcases hq with ⟨g, _⟩ | ⟨_, ⟨s, f1, f2, f3⟩, g⟩
  · omega
  · have hbn : b ≤ n := by
      rcases h.2 s f1 with ⟨e, _⟩ | ⟨d, e1, e2, _⟩
      · omega
      · omega
    have hs := (h.at f1 hbn).1 f3
    have hlow : ∀ t, from'.testBit t = true → ∀ j, j < b → (reachF ms to j).testBit t = false := fun t ht j hj => by
      cases hb : (reachF ms to j).testBit t with
      | false => rfl
      | true =>
        obtain ⟨e, he, ha⟩ := AtD.ex hb
        have htn := hf t ht
        have hd := (h.at htn (by omega)).2 ha
        have := g t htn ht (by omega)
        omega
    refine ⟨hbn, ?_⟩
    unfold shortF
    rw [firstD_some (d := b) hbn]
    · dsimp only
      congr 1
      refine (walk_same h ho hbn ⟨hlow, fun t ht => hlow t ?_, fun t ht => ?_⟩).symm
      · rw [Nat.testBit_and, Bool.and_eq_true] at ht; exact ht.1
      · rw [Nat.testBit_and, Bool.and_eq_true]; exact ⟨fun h => ⟨h, ht⟩, fun h => h.1⟩
    · simp only [decide_eq_true_eq]
      exact mask_ne.2 ⟨s, by rw [Nat.testBit_and, f2, hs.1]; rfl⟩
    · intro j hj
      simp only [decide_eq_false_iff_not, Classical.not_not]
      apply Classical.byContradiction
      intro hne
      obtain ⟨t, ht⟩ := mask_ne.1 hne
      rw [Nat.testBit_and, Bool.and_eq_true] at ht
      rw [hlow t ht.1 j hj] at ht
      cases ht.2

/-! ### some road to the ends is short -/
theorem AtD.prev {ms : List Mv} {to d s : Nat} (h : AtD (reachF ms to) (d + 1) s) : ∃ p ∈ ms, frm p = s ∧ AtD (reachF ms to) d (tgt p) := by
  obtain ⟨p, h1, h2, h3⟩ := preF_bit.1 h.1
  refine ⟨p, h1, h3, h2, fun j hj => ?_⟩
  cases hb : (reachF ms to j).testBit (tgt p) with
  | false => rfl
  | true =>
    have : (reachF ms to (j + 1)).testBit s = true := preF_bit.2 ⟨p, h1, hb, h3⟩
    rw [h.2 (j + 1) (by omega)] at this
    cases this
theorem AtD.chain {n : Nat} {ms : List Mv} {to : Nat} (ho : ∀ p ∈ ms, frm p < n ∧ tgt p < n) : ∀ {d s : Nat}, s < n → AtD (reachF ms to) d s → ∃ l : List Nat, l.length = d + 1 ∧ l.Nodup ∧ (∀ x ∈ l, x < n) ∧ ∀ x ∈ l, ∃ e, e ≤ d ∧ AtD (reachF ms to) e x
  | 0, s, hs, h => ⟨[s], rfl, by simp, by simpa using hs, fun x hx => by simp at hx; subst hx; exact ⟨0, Nat.le_refl _, h⟩⟩
  | d + 1, s, hs, h => by
    obtain ⟨p, hp, hf, ht⟩ := h.prev
    obtain ⟨l, h1, h2, h3, h4⟩ := AtD.chain ho (ho p hp).2 ht
    refine ⟨s :: l, by simp [h1], List.nodup_cons.2 ⟨fun hm => ?_, h2⟩, fun x hx => ?_, fun x hx => ?_⟩
    · obtain ⟨e, he, ha⟩ := h4 s hm
      have := ha.uniq h
      omega
    · rcases List.mem_cons.1 hx with rfl | hx
      · exact hs
      · exact h3 x hx
    · rcases List.mem_cons.1 hx with rfl | hx
      · exact ⟨d + 1, Nat.le_refl _, h⟩
      · obtain ⟨e, he, ha⟩ := h4 x hx
        exact ⟨e, by omega, ha⟩
theorem AtD.short {n : Nat} {ms : List Mv} {to : Nat} (ho : ∀ p ∈ ms, frm p < n ∧ tgt p < n) {d s : Nat} (hs : s < n) (h : AtD (reachF ms to) d s) : d ≤ n := by
  obtain ⟨l, h1, h2, h3, _⟩ := AtD.chain ho hs h
  have := nodup_lt n l h2 h3
  omega
/-- from where the ends can be come to at all, a short text leads there -/
theorem short_some {n : Nat} {ms : List Mv} {from' to q : Nat} (ho : ∀ p ∈ ms, frm p < n ∧ tgt p < n) (hf : Below n from') (hq : Clos tgt frm ms to q) (hne : from' &&& q ≠ 0) : shortF n ms from' to ≠ none := by
  obtain ⟨s, hs⟩ := mask_ne.1 hne
  rw [Nat.testBit_and, Bool.and_eq_true] at hs
  obtain ⟨d, hd⟩ := hq.least (fun i => ∃ d, (reachF ms to d).testBit i = true) (fun i h => ⟨0, h⟩) (fun p hp ⟨d, h⟩ => ⟨d + 1, preF_bit.2 ⟨p, hp, h, rfl⟩⟩) s hs.2
  obtain ⟨e, _, ha⟩ := AtD.ex hd
  have hen := ha.short ho (hf s hs.1)
  intro hnone
  unfold shortF at hnone
  split at hnone
  · cases hnone
  · rename_i hfd
    unfold firstD at hfd
    rw [List.find?_eq_none] at hfd
    have := hfd e (by simp; omega)
    simp only [ne_eq, decide_not, Bool.not_eq_eq_eq_not, Bool.not_true, Bool.not_eq_false', decide_eq_true_eq, decide_eq_false_iff_not, Classical.not_not] at this
    have hc : (from' &&& reachF ms to e).testBit s = true := by rw [Nat.testBit_and, hs.1, ha.1]; rfl
    rw [this] at hc
    simp at hc
end Go.Vc
