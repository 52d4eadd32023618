/- Sets of states as bits; small automata over numbers. -/
import Derived.Test.YtmikejeohdleeaaVT
import Derived.IntWalk
import Derived.Laws.BitsLemmas
set_option linter.unusedVariables false
set_option linter.unusedSimpArgs false
namespace Go.Vc
open Go.Proofs Go.IntWalk
theorem wraps_u32 (n : Int) (h₀ : 0 ≤ n) (h₁ : n < 2 ^ 32) : IntKind.u32.wrap n = n := by rw [IntKind.wrap_u32]; omega
theorem u32_bit {m k : Nat} (hm : m < 2 ^ 32) (hk : k < 32) : bits .and .u32 (shr .u32 (m : Int) (k : Int)) 1 = if m.testBit k = true then 1 else 0 := by
  have e1 : shr .u32 (m : Int) (k : Int) = ((m / 2 ^ k : Nat) : Int) := by
    unfold shr
    have : min (k : Int).toNat IntKind.u32.bits = k := by
      rw [Int.toNat_natCast]
      show min k 32 = k
      omega
    rw [this]
    have h2 : ((2 : Int) ^ k) = ((2 ^ k : Nat) : Int) := by simp
    rw [h2, Int.fdiv_eq_ediv_of_nonneg _ (Int.natCast_nonneg _)]
    rfl
  rw [e1]
  have h1 := (bits_nat .u32 32 (by decide) wraps_u32 (m / 2 ^ k) 1 (Nat.lt_of_le_of_lt (Nat.div_le_self _ _) hm) (by decide)).1
  show Go.bits .and .u32 _ 1 = _
  have h1' : Go.bits .and .u32 ((m / 2 ^ k : Nat) : Int) 1 = ((m / 2 ^ k &&& 1 : Nat) : Int) := h1
  rw [h1', Nat.and_one_is_mod]
  have e3 : m.testBit k = decide (m / 2 ^ k % 2 = 1) := by rw [Nat.testBit_eq_decide_div_mod_eq]
  rw [e3]
  by_cases h : m / 2 ^ k % 2 = 1
  · simp [h]
  · have : m / 2 ^ k % 2 = 0 := by omega
    simp [this]
theorem u32_one {k : Nat} (hk : k < 32) : shl .u32 1 (k : Int) = ((2 ^ k : Nat) : Int) := by
  unfold shl
  have : min (k : Int).toNat IntKind.u32.bits = k := by
    rw [Int.toNat_natCast]
    show min k 32 = k
    omega
  rw [this, Int.one_mul]
  have h2 : ((2 : Int) ^ k) = ((2 ^ k : Nat) : Int) := by simp
  rw [h2]
  have : 2 ^ k < 2 ^ 32 := Nat.pow_lt_pow_right (by omega) hk
  exact wraps_u32 _ (Int.natCast_nonneg _) (by exact_mod_cast this)
theorem u32_or {a b : Nat} (ha : a < 2 ^ 32) (hb : b < 2 ^ 32) : bits .or .u32 (a : Int) (b : Int) = ((a ||| b : Nat) : Int) := (bits_nat .u32 32 (by decide) wraps_u32 a b ha hb).2
theorem u32_and {a b : Nat} (ha : a < 2 ^ 32) (hb : b < 2 ^ 32) : bits .and .u32 (a : Int) (b : Int) = ((a &&& b : Nat) : Int) := (bits_nat .u32 32 (by decide) wraps_u32 a b ha hb).1
theorem pow_lt32 {k : Nat} (hk : k < 32) : 2 ^ k < 2 ^ 32 := Nat.pow_lt_pow_right (by omega) hk

/-! ### moves -/
abbrev Mv := Int × Int × Int × Int
def mEnc : Mv → List DV := fun p => [.int .i64 p.1, .int .i64 p.2.1, .int .u8 p.2.2.1, .int .u8 p.2.2.2]
def mZ : Mv := (0, 0, 0, 0)
def lbl (p : Mv) (c : Int) : Bool := decide (p.2.2.1 ≤ c) && decide (c ≤ p.2.2.2)
def orF (cond : Mv → Bool) (tgt : Mv → Nat) (ms : List Mv) (init : Nat) : Nat := ms.foldl (fun out p => if cond p = true then out ||| 2 ^ tgt p else out) init
theorem orF_snoc {cond : Mv → Bool} {tgt : Mv → Nat} {ms : List Mv} {p : Mv} {init : Nat} : orF cond tgt (ms ++ [p]) init = if cond p = true then orF cond tgt ms init ||| 2 ^ tgt p else orF cond tgt ms init := by
  simp [orF, List.foldl_append]
theorem take_next {β : Type} (l : List β) (i : Nat) (z : β) (h : i < l.length) : l.take (i + 1) = l.take i ++ [l.getD i z] := by
  rw [List.take_add_one, List.getElem?_eq_getElem h]
  simp [List.getD, h]
theorem orF_bit {cond : Mv → Bool} {tgt : Mv → Nat} : ∀ {ms : List Mv} {init i : Nat}, (orF cond tgt ms init).testBit i = true ↔ init.testBit i = true ∨ ∃ p ∈ ms, cond p = true ∧ tgt p = i
  | [], init, i => by simp [orF]
  | p :: ms, init, i => by
    have : orF cond tgt (p :: ms) init = orF cond tgt ms (if cond p = true then init ||| 2 ^ tgt p else init) := rfl
    rw [this, orF_bit]
    by_cases hc : cond p = true
    · rw [if_pos hc, Nat.testBit_or, Bool.or_eq_true, Nat.testBit_two_pow]
      constructor
      · rintro ((h | h) | ⟨q, hq, h⟩)
        · exact .inl h
        · exact .inr ⟨p, by simp, hc, by simpa using h⟩
        · exact .inr ⟨q, by simp [hq], h⟩
      · rintro (h | ⟨q, hq, h1, h2⟩)
        · exact .inl (.inl h)
        · rcases List.mem_cons.1 hq with rfl | hq
          · exact .inl (.inr (by simpa using h2))
          · exact .inr ⟨q, hq, h1, h2⟩
    · rw [if_neg hc]
      constructor
      · rintro (h | ⟨q, hq, h⟩)
        · exact .inl h
        · exact .inr ⟨q, by simp [hq], h⟩
      · rintro (h | ⟨q, hq, h1, h2⟩)
        · exact .inl h
        · rcases List.mem_cons.1 hq with rfl | hq
          · exact absurd h1 hc
          · exact .inr ⟨q, hq, h1, h2⟩
theorem orF_lt {cond : Mv → Bool} {tgt : Mv → Nat} : ∀ {ms : List Mv} {init : Nat}, init < 2 ^ 32 → (∀ p ∈ ms, tgt p < 32) → orF cond tgt ms init < 2 ^ 32
  | [], init, h, _ => h
  | p :: ms, init, h, ht => by
    have : orF cond tgt (p :: ms) init = orF cond tgt ms (if cond p = true then init ||| 2 ^ tgt p else init) := rfl
    rw [this]
    refine orF_lt ?_ fun q hq => ht q (by simp [hq])
    split
    · exact Nat.or_lt_two_pow h (pow_lt32 (ht p (by simp)))
    · exact h
/-- moves between states below 32 -/
def MOK (ms : List Mv) : Prop := ∀ p ∈ ms, 0 ≤ p.1 ∧ p.1 < 32 ∧ 0 ≤ p.2.1 ∧ p.2.1 < 32
def frm (p : Mv) : Nat := p.1.toNat
def tgt (p : Mv) : Nat := p.2.1.toNat
theorem MOK.at {ms : List Mv} (h : MOK ms) {i : Nat} (hi : i < ms.length) : 0 ≤ (ms.getD i mZ).1 ∧ (ms.getD i mZ).1 < 32 ∧ 0 ≤ (ms.getD i mZ).2.1 ∧ (ms.getD i mZ).2.1 < 32 := by
  refine h _ ?_
  simp [List.getD, hi]
theorem MOK.tgt {ms : List Mv} (h : MOK ms) : ∀ p ∈ ms, tgt p < 32 := fun p hp => by have := h p hp; unfold Vc.tgt; omega
theorem MOK.frm {ms : List Mv} (h : MOK ms) : ∀ p ∈ ms, frm p < 32 := fun p hp => by have := h p hp; unfold Vc.frm; omega
theorem MOK.take {ms : List Mv} (h : MOK ms) (i : Nat) : MOK (ms.take i) := fun p hp => h p (List.mem_of_mem_take hp)
def stepF (ms : List Mv) (m : Nat) (c : Int) : Nat := orF (fun p => m.testBit (frm p) && lbl p c) tgt ms 0
def runF (ms : List Mv) (m : Nat) (text : List Int) : Nat := text.foldl (stepF ms) m
theorem stepF_lt {ms : List Mv} (h : MOK ms) (m : Nat) (c : Int) : stepF ms m c < 2 ^ 32 := orF_lt (by decide) h.tgt
theorem runF_snoc (ms : List Mv) (m : Nat) (text : List Int) (c : Int) : runF ms m (text ++ [c]) = stepF ms (runF ms m text) c := by simp [runF]
theorem runF_lt {ms : List Mv} (h : MOK ms) {m : Nat} (hm : m < 2 ^ 32) (text : List Int) : runF ms m text < 2 ^ 32 := by
  unfold runF
  induction text generalizing m with
  | nil => exact hm
  | cons c text ih => exact ih (stepF_lt h m c)
theorem runF_take (ms : List Mv) (m : Nat) (text : List Int) (i : Nat) (hi : i < text.length) : runF ms m (text.take (i + 1)) = stepF ms (runF ms m (text.take i)) (text.getD i 0) := by
  rw [take_next text i 0 hi, runF_snoc]
def endsF (es : List Int) : Nat := es.foldl (fun out e => out ||| 2 ^ e.toNat) 0
theorem endsF_snoc (es : List Int) (e : Int) : endsF (es ++ [e]) = endsF es ||| 2 ^ e.toNat := by simp [endsF]
theorem endsF_gen (es : List Int) (m i : Nat) : (es.foldl (fun out (e : Int) => out ||| 2 ^ e.toNat) m).testBit i = true ↔ m.testBit i = true ∨ ∃ e ∈ es, e.toNat = i := by
  induction es generalizing m with
  | nil => simp
  | cons e es ih =>
    simp only [List.foldl_cons]
    rw [ih, Nat.testBit_or, Bool.or_eq_true, Nat.testBit_two_pow]
    simp [or_assoc]
theorem endsF_bit (es : List Int) (i : Nat) : (endsF es).testBit i = true ↔ ∃ e ∈ es, e.toNat = i := by
  unfold endsF
  rw [endsF_gen]
  simp
theorem endsF_lt {es : List Int} (h : ∀ e ∈ es, 0 ≤ e ∧ e < 32) : endsF es < 2 ^ 32 := by
  have gen : ∀ (es : List Int) (m : Nat), m < 2 ^ 32 → (∀ e ∈ es, 0 ≤ e ∧ e < 32) → es.foldl (fun out (e : Int) => out ||| 2 ^ e.toNat) m < 2 ^ 32 := by
    intro es
    induction es with
    | nil => intro m hm _; exact hm
    | cons e es ih =>
      intro m hm h
      have := h e (by simp)
      exact ih _ (Nat.or_lt_two_pow hm (pow_lt32 (by omega))) fun e he => h e (by simp [he])
  exact gen es 0 (by decide) h
/-- r is the least set with m in it that is closed against the moves (cl: from what to what) -/
structure Clos (a b : Mv → Nat) (ms : List Mv) (m r : Nat) : Prop where
  lt : r < 2 ^ 32
  sub : ∀ i, m.testBit i = true → r.testBit i = true
  closed : ∀ p ∈ ms, r.testBit (a p) = true → r.testBit (b p) = true
  least : ∀ C : Nat → Prop, (∀ i, m.testBit i = true → C i) → (∀ p ∈ ms, C (a p) → C (b p)) → ∀ i, r.testBit i = true → C i
theorem le_of_bits {a b : Nat} (h : ∀ i, a.testBit i = true → b.testBit i = true) : a ≤ b := by
  have : a ||| b = b := by
    apply Nat.eq_of_testBit_eq
    intro i
    rw [Nat.testBit_or]
    cases ha : a.testBit i with
    | false => simp
    | true => simp [h i ha]
  rw [← this]
  exact Nat.left_le_or
theorem orF_fix {cond : Mv → Bool} {t : Mv → Nat} {ms : List Mv} {m : Nat} (h : orF cond t ms m = m) : ∀ p ∈ ms, cond p = true → m.testBit (t p) = true := fun p hp hc => by
  rw [← h, orF_bit]
  exact .inr ⟨p, hp, hc, rfl⟩
theorem and_ne {a b : Nat} : a &&& b ≠ 0 ↔ ∃ i, a.testBit i = true ∧ b.testBit i = true := by
  constructor
  · intro h
    obtain ⟨i, hi⟩ := Nat.exists_testBit_of_ne_zero h
    rw [Nat.testBit_and, Bool.and_eq_true] at hi
    exact ⟨i, hi⟩
  · rintro ⟨i, h1, h2⟩ h
    have : (a &&& b).testBit i = true := by rw [Nat.testBit_and, h1, h2]; rfl
    rw [h] at this
    simp at this
theorem bitI {m : Nat} {k : Int} (hm : m < 2 ^ 32) (h0 : 0 ≤ k) (h1 : k < 32) : bits .and .u32 (shr .u32 (m : Int) k) 1 = if m.testBit k.toNat = true then 1 else 0 := by
  have := u32_bit (m := m) (k := k.toNat) hm (by omega)
  rwa [Int.toNat_of_nonneg h0] at this
theorem bitI1 {m : Nat} {k : Int} (hm : m < 2 ^ 32) (h0 : 0 ≤ k) (h1 : k < 32) : (bits .and .u32 (shr .u32 (m : Int) k) 1 = 1) ↔ m.testBit k.toNat = true := by
  rw [bitI hm h0 h1]
  split <;> simp_all
theorem orI {a : Nat} {k : Int} (ha : a < 2 ^ 32) (h0 : 0 ≤ k) (h1 : k < 32) : bits .or .u32 (a : Int) (shl .u32 1 k) = ((a ||| 2 ^ k.toNat : Nat) : Int) := by
  have e := u32_one (k := k.toNat) (by omega)
  rw [Int.toNat_of_nonneg h0] at e
  rw [e]
  exact u32_or ha (pow_lt32 (by omega))
end Go.Vc
