/- Groups by chains of pairs: two ways to the least of each. Plain. -/
import Derived.Test.YtcjcfpbbhmhlbaaV0
set_option linter.unusedVariables false
set_option linter.unusedSimpArgs false
namespace Go.Vc.Ng
/-- one pair's two groups become one -/
def mrg (r : List Nat) (p : Nat × Nat) : List Nat := r.map fun x => if x = max (r.getD p.1 0) (r.getD p.2 0) then min (r.getD p.1 0) (r.getD p.2 0) else x
def stp (w : List Nat) (p : Nat × Nat) : List Nat := (w.set p.1 (min (w.getD p.1 0) (w.getD p.2 0))).set p.2 (min (w.getD p.1 0) (w.getD p.2 0))
def mrgs (l : List (Nat × Nat)) (n : Nat) : List Nat := l.foldl mrg (List.range n)
def rnd (l : List (Nat × Nat)) (w : List Nat) : List Nat := l.foldl stp w
def rnds (l : List (Nat × Nat)) (n : Nat) : Nat → List Nat
  | 0 => List.range n
  | k + 1 => rnd l (rnds l n k)
/-- told numbers are no greater, and of the same chain -/
structure Ok (E : List (Nat × Nat)) (n : Nat) (r : List Nat) : Prop where
  len : r.length = n
  le : ∀ i, i < n → r.getD i 0 ≤ i
  same : ∀ f : Nat → Nat, (∀ p ∈ E, f p.1 = f p.2) → ∀ i, i < n → f (r.getD i 0) = f i
theorem range_get {n i : Nat} (h : i < n) : (List.range n).getD i 0 = i := by simp [List.getD, h]
theorem Ok.zero {E : List (Nat × Nat)} {n : Nat} : Ok E n (List.range n) := ⟨by simp, fun i h => by rw [range_get h]; exact Nat.le_refl _, fun f _ i h => by rw [range_get h]⟩
theorem map_get {r : List Nat} {f : Nat → Nat} {i : Nat} (h : i < r.length) : (r.map f).getD i 0 = f (r.getD i 0) := by simp [List.getD, h]
theorem set_get {r : List Nat} {i j x : Nat} (h : i < r.length) : (r.set j x).getD i 0 = if j = i then x else r.getD i 0 := by
  by_cases e : j = i
  · subst e; simp [List.getD, h]
  · simp [List.getD, List.getElem?_set, e]
section
variable {E : List (Nat × Nat)} {n : Nat} (hE : ∀ p ∈ E, p.1 < n ∧ p.2 < n)
include hE
theorem Ok.mrg {r : List Nat} (h : Ok E n r) {p : Nat × Nat} (hp : p ∈ E) : Ok E n (mrg r p) := by
  have hl := h.len
  refine ⟨by simp [Ng.mrg, hl], fun i hi => ?_, fun f hf i hi => ?_⟩
  · unfold Ng.mrg
    rw [map_get (by omega)]
    have := h.le i hi
    split <;> omega
  · unfold Ng.mrg
    rw [map_get (by omega)]
    have h1 := h.same f hf i hi
    have ha := h.same f hf p.1 (hE p hp).1
    have hb := h.same f hf p.2 (hE p hp).2
    have hab := hf p hp
    split
    · rename_i e
      rw [← h1, e]
      rcases Nat.le_total (r.getD p.1 0) (r.getD p.2 0) with hc | hc
      · rw [Nat.min_eq_left hc, Nat.max_eq_right hc, ha, hb, hab]
      · rw [Nat.min_eq_right hc, Nat.max_eq_left hc, ha, hb, hab]
    · exact h1
theorem mrg_eq {r : List Nat} (h : Ok E n r) {p q : Nat × Nat} (hp : p ∈ E) (hq : q ∈ E) (he : r.getD q.1 0 = r.getD q.2 0 ∨ q = p) : (mrg r p).getD q.1 0 = (mrg r p).getD q.2 0 := by
  have hl := h.len
  have h1 := hE q hq
  unfold mrg
  rw [map_get (by omega), map_get (by omega)]
  rcases he with he | rfl
  · rw [he]
  · rcases Nat.le_total (r.getD q.1 0) (r.getD q.2 0) with hc | hc
    · rw [Nat.min_eq_left hc, Nat.max_eq_right hc, if_pos (rfl : r.getD q.2 0 = r.getD q.2 0)]
      split <;> rfl
    · rw [Nat.min_eq_right hc, Nat.max_eq_left hc, if_pos (rfl : r.getD q.1 0 = r.getD q.1 0)]
      split <;> rfl
theorem mrgs_aux : ∀ (l done : List (Nat × Nat)) (r : List Nat), (∀ p ∈ l, p ∈ E) → (∀ p ∈ done, p ∈ E) → Ok E n r → (∀ q ∈ done, r.getD q.1 0 = r.getD q.2 0) →
    Ok E n (l.foldl mrg r) ∧ ∀ q, q ∈ done ∨ q ∈ l → (l.foldl mrg r).getD q.1 0 = (l.foldl mrg r).getD q.2 0
  | [], done, r, _, _, h, hd => ⟨h, fun q hq => hd q (hq.resolve_right (by simp))⟩
  | p :: l, done, r, hl, hdn, h, hd => by
    have hp := hl p List.mem_cons_self
    obtain ⟨h1, h2⟩ := mrgs_aux l (done ++ [p]) (mrg r p) (fun q hq => hl q (List.mem_cons_of_mem _ hq)) (fun q hq => by
      rcases List.mem_append.1 hq with hq | hq
      · exact hdn q hq
      · simp at hq; rw [hq]; exact hp) (h.mrg hE hp) (fun q hq => by
      rcases List.mem_append.1 hq with hq | hq
      · exact mrg_eq hE h hp (hdn q hq) (.inl (hd q hq))
      · simp at hq; rw [hq]; exact mrg_eq hE h hp hp (.inr rfl))
    refine ⟨h1, fun q hq => h2 q ?_⟩
    rcases hq with hq | hq
    · exact .inl (List.mem_append_left _ hq)
    · rcases List.mem_cons.1 hq with rfl | hq
      · exact .inl (by simp)
      · exact .inr hq
theorem mrgs_ok : Ok E n (mrgs E n) ∧ ∀ q ∈ E, (mrgs E n).getD q.1 0 = (mrgs E n).getD q.2 0 := by
  obtain ⟨h1, h2⟩ := mrgs_aux hE E [] (List.range n) (fun _ h => h) (fun _ h => by cases h) Ok.zero (fun _ h => by cases h)
  exact ⟨h1, fun q hq => h2 q (.inr hq)⟩
theorem stp_le {w : List Nat} (hl : w.length = n) {p : Nat × Nat} (hp : p ∈ E) {i : Nat} (hi : i < n) : (stp w p).getD i 0 ≤ w.getD i 0 := by
  have h1 := hE p hp
  unfold stp
  rw [set_get (by simp; omega), set_get (by omega)]
  split
  · subst_vars; omega
  · split
    · subst_vars; omega
    · exact Nat.le_refl _
theorem stp_both {w : List Nat} (hl : w.length = n) {p : Nat × Nat} (hp : p ∈ E) : (stp w p).getD p.1 0 ≤ w.getD p.2 0 ∧ (stp w p).getD p.2 0 ≤ w.getD p.1 0 := by
  have h1 := hE p hp
  unfold stp
  rw [set_get (by simp; omega), set_get (by omega), set_get (by simp; omega)]
  refine ⟨?_, ?_⟩
  · split
    · omega
    · rw [if_pos rfl]; omega
  · rw [if_pos rfl]; omega
theorem Ok.stp {w : List Nat} (h : Ok E n w) {p : Nat × Nat} (hp : p ∈ E) : Ok E n (stp w p) := by
  have hl := h.len
  have hpe := hE p hp
  refine ⟨by simp [Ng.stp, hl], fun i hi => Nat.le_trans (stp_le hE hl hp hi) (h.le i hi), fun f hf i hi => ?_⟩
  have ha := h.same f hf p.1 hpe.1
  have hb := h.same f hf p.2 hpe.2
  have hab := hf p hp
  have hm : f (min (w.getD p.1 0) (w.getD p.2 0)) = f p.1 := by
    rcases Nat.le_total (w.getD p.1 0) (w.getD p.2 0) with hc | hc
    · rw [Nat.min_eq_left hc, ha]
    · rw [Nat.min_eq_right hc, hb, hab]
  unfold Ng.stp
  rw [set_get (by simp; omega), set_get (by omega)]
  split
  · rename_i e; rw [hm, hab, e]
  · split
    · rename_i e; rw [hm, e]
    · exact h.same f hf i hi
theorem rnd_aux : ∀ (l : List (Nat × Nat)) (w : List Nat), (∀ p ∈ l, p ∈ E) → Ok E n w →
    Ok E n (rnd l w) ∧ (∀ i, i < n → (rnd l w).getD i 0 ≤ w.getD i 0) ∧ ∀ p ∈ l, (rnd l w).getD p.1 0 ≤ w.getD p.2 0 ∧ (rnd l w).getD p.2 0 ≤ w.getD p.1 0
  | [], w, _, h => ⟨h, fun _ _ => Nat.le_refl _, fun _ h => by cases h⟩
  | p :: l, w, hl, h => by
    have hp := hl p List.mem_cons_self
    obtain ⟨h1, h2, h3⟩ := rnd_aux l (Ng.stp w p) (fun q hq => hl q (List.mem_cons_of_mem _ hq)) (h.stp hE hp)
    refine ⟨h1, fun i hi => Nat.le_trans (h2 i hi) (stp_le hE h.len hp hi), fun q hq => ?_⟩
    rcases List.mem_cons.1 hq with rfl | hq'
    · have hb := stp_both hE h.len hp
      exact ⟨Nat.le_trans (h2 _ (hE _ hp).1) hb.1, Nat.le_trans (h2 _ (hE _ hp).2) hb.2⟩
    · have hqe := hE q (hl q hq)
      have h4 := h3 q hq'
      exact ⟨Nat.le_trans h4.1 (stp_le hE h.len hp hqe.2), Nat.le_trans h4.2 (stp_le hE h.len hp hqe.1)⟩
omit hE in
/-- numbers that agree along the pairs are least -/
theorem least {r w : List Nat} (hr : Ok E n r) (he : ∀ q ∈ E, r.getD q.1 0 = r.getD q.2 0) (hw : Ok E n w) {i : Nat} (hi : i < n) : r.getD i 0 ≤ w.getD i 0 := by
  have h1 := hw.same (fun x => r.getD x 0) he i hi
  have h2 := hw.le i hi
  have h3 := hr.le (w.getD i 0) (by omega)
  omega
theorem progress {r w : List Nat} (hr : Ok E n r) (he : ∀ q ∈ E, r.getD q.1 0 = r.getD q.2 0) (hw : Ok E n w) :
    (∀ i, i < n → w.getD i 0 = r.getD i 0) ∨ ∃ i, i < n ∧ ¬ w.getD i 0 = r.getD i 0 ∧ (rnd E w).getD i 0 = r.getD i 0 := by
  obtain ⟨h1, h2, h3⟩ := rnd_aux hE E w (fun _ h => h) hw
  by_cases h : ∀ p ∈ E, (w.getD p.1 0 = r.getD p.1 0 ↔ w.getD p.2 0 = r.getD p.2 0)
  · left
    intro i hi
    have hf : ∀ p ∈ E, (fun x : Nat => if w.getD x 0 = r.getD x 0 then (1 : Nat) else 0) p.1 = (fun x : Nat => if w.getD x 0 = r.getD x 0 then (1 : Nat) else 0) p.2 := fun p hp => by
      have := h p hp
      by_cases c : w.getD p.1 0 = r.getD p.1 0
      · show (if _ then _ else _) = (if _ then _ else _)
        rw [if_pos c, if_pos (this.1 c)]
      · show (if _ then _ else _) = (if _ then _ else _)
        rw [if_neg c, if_neg (fun c2 => c (this.2 c2))]
    have h4 := hr.same (fun x : Nat => if w.getD x 0 = r.getD x 0 then (1 : Nat) else 0) hf i hi
    have h5 := hr.le i hi
    have h6 : r.getD (r.getD i 0) 0 = r.getD i 0 := hr.same (fun x => r.getD x 0) he i hi
    have h7 := hw.le (r.getD i 0) (by omega)
    have h8 := least hr he hw (i := r.getD i 0) (by omega)
    have h9 : w.getD (r.getD i 0) 0 = r.getD (r.getD i 0) 0 := by omega
    rw [if_pos h9] at h4
    by_cases c : w.getD i 0 = r.getD i 0
    · exact c
    · rw [if_neg c] at h4; cases h4
  · right
    have hx : ∃ p ∈ E, ¬ (w.getD p.1 0 = r.getD p.1 0 ↔ w.getD p.2 0 = r.getD p.2 0) := by
      by_cases c : ∃ p ∈ E, ¬ (w.getD p.1 0 = r.getD p.1 0 ↔ w.getD p.2 0 = r.getD p.2 0)
      · exact c
      · exact absurd (fun p hp => Classical.byContradiction fun c2 => c ⟨p, hp, c2⟩) h
    obtain ⟨p, hp, hx⟩ := hx
    have hpe := hE p hp
    have hep := he p hp
    have h4 := h3 p hp
    have l1 := least hr he h1 hpe.1
    have l2 := least hr he h1 hpe.2
    by_cases c : w.getD p.1 0 = r.getD p.1 0
    · have c2 : ¬ w.getD p.2 0 = r.getD p.2 0 := fun c2 => hx ⟨fun _ => c2, fun _ => c⟩
      exact ⟨p.2, hpe.2, c2, by omega⟩
    · have c2 : w.getD p.2 0 = r.getD p.2 0 := Classical.byContradiction fun c2 => hx ⟨fun c3 => absurd c3 c, fun c3 => absurd c3 c2⟩
      exact ⟨p.1, hpe.1, c, by omega⟩
omit hE
def cnt (P : Nat → Bool) : Nat → Nat
  | 0 => 0
  | n + 1 => cnt P n + if P n then 1 else 0
theorem cnt_le {P : Nat → Bool} : ∀ n, cnt P n ≤ n
  | 0 => Nat.le_refl _
  | n + 1 => by
    have := cnt_le (P := P) n
    unfold cnt
    split <;> omega
theorem cnt_mono {P Q : Nat → Bool} : ∀ n, (∀ i, i < n → P i = true → Q i = true) → cnt P n ≤ cnt Q n
  | 0, _ => Nat.le_refl _
  | n + 1, h => by
    have h1 := cnt_mono n fun i hi => h i (by omega)
    have h2 := h n (by omega)
    unfold cnt
    split
    · rename_i e; rw [if_pos (h2 e)]; omega
    · split <;> omega
theorem cnt_lt {P Q : Nat → Bool} : ∀ n, (∀ i, i < n → P i = true → Q i = true) → (∃ i, i < n ∧ ¬ P i = true ∧ Q i = true) → cnt P n < cnt Q n
  | 0, _, h => by obtain ⟨i, h1, _⟩ := h; omega
  | n + 1, h, hx => by
    have h2 := h n (by omega)
    have hm := cnt_mono n fun i hi => h i (by omega)
    obtain ⟨i, hi, hp, hq⟩ := hx
    by_cases e : i = n
    · subst e
      unfold cnt
      rw [if_neg hp, if_pos hq]
      omega
    · have h1 := cnt_lt n (fun i hi => h i (by omega)) ⟨i, by omega, hp, hq⟩
      unfold cnt
      split
      · rename_i e; rw [if_pos (h2 e)]; omega
      · split <;> omega
theorem cnt_pos {P : Nat → Bool} (h0 : P 0 = true) : ∀ n, 0 < n → 1 ≤ cnt P n
  | n + 1, _ => by
    by_cases e : n = 0
    · subst e; unfold cnt; rw [if_pos h0]; omega
    · have := cnt_pos h0 n (by omega)
      unfold cnt
      omega
include hE
theorem rnds_ok : ∀ k, Ok E n (rnds E n k)
  | 0 => Ok.zero
  | k + 1 => (rnd_aux hE E _ (fun _ h => h) (rnds_ok k)).1
theorem rnds_count {r : List Nat} (hr : Ok E n r) (he : ∀ q ∈ E, r.getD q.1 0 = r.getD q.2 0) (hn : 0 < n) : ∀ k,
    (∀ i, i < n → (rnds E n k).getD i 0 = r.getD i 0) ∨ k + 1 ≤ cnt (fun i => decide ((rnds E n k).getD i 0 = r.getD i 0)) n
  | 0 => by
    right
    refine cnt_pos ?_ n hn
    have := hr.le 0 hn
    have h2 : (rnds E n 0).getD 0 0 = 0 := range_get hn
    rw [decide_eq_true_eq, h2]
    omega
  | k + 1 => by
    have hw := rnds_ok hE k
    obtain ⟨h1, h2, h3⟩ := rnd_aux hE E _ (fun _ h => h) hw
    have stay : ∀ i, i < n → (rnds E n k).getD i 0 = r.getD i 0 → (rnd E (rnds E n k)).getD i 0 = r.getD i 0 := fun i hi e => by
      have a := h2 i hi
      have b := least hr he h1 hi
      omega
    rcases rnds_count hr he hn k with ih | ih
    · exact .inl fun i hi => stay i hi (ih i hi)
    · rcases progress hE hr he hw with hp | ⟨i, hi, hp, hq⟩
      · exact .inl fun i hi => stay i hi (hp i hi)
      · right
        have := cnt_lt (P := fun i => decide ((rnds E n k).getD i 0 = r.getD i 0)) (Q := fun i => decide ((rnd E (rnds E n k)).getD i 0 = r.getD i 0)) n (fun i hi e => by
          rw [decide_eq_true_eq] at e ⊢
          exact stay i hi e) ⟨i, hi, by rw [decide_eq_true_eq]; exact hp, by rw [decide_eq_true_eq]; exact hq⟩
        show k + 1 + 1 ≤ cnt (fun i => decide ((rnd E (rnds E n k)).getD i 0 = r.getD i 0)) n
        omega
/-- both ways lead to the same numbers -/
theorem both : rnds E n n = mrgs E n := by
  obtain ⟨hr, he⟩ := mrgs_ok hE
  have hw := rnds_ok hE n
  have key : ∀ i, i < n → (rnds E n n).getD i 0 = (mrgs E n).getD i 0 := by
    by_cases hn : 0 < n
    · rcases rnds_count hE hr he hn n with h | h
      · exact h
      · have := cnt_le (P := fun i => decide ((rnds E n n).getD i 0 = (mrgs E n).getD i 0)) n
        omega
    · intro i hi; omega
  refine List.ext_getElem (by rw [hw.len, hr.len]) fun i h1 h2 => ?_
  have h3 := key i (by rw [← hw.len]; exact h1)
  simpa [List.getD, h1, h2] using h3
end
/-! pairs and groups, step by step -/
def rowTo (f : Nat → Nat → Bool) (i k : Nat) : List (Nat × Nat) := ((List.range k).filter fun j => decide (i < j) && f i j).map fun j => (i, j)
def prsTo (f : Nat → Nat → Bool) (n i : Nat) : List (Nat × Nat) := (List.range i).flatMap fun a => rowTo f a n
theorem rowTo_zero {f : Nat → Nat → Bool} {i : Nat} : ∀ {k}, k ≤ i + 1 → rowTo f i k = [] := fun {k} h => by
  unfold rowTo
  rw [List.filter_eq_nil_iff.2 (fun j hj => by
    have := List.mem_range.1 hj
    have : ¬ i < j := by omega
    simp [this])]
  rfl
theorem rowTo_next {f : Nat → Nat → Bool} {i k : Nat} (h : i < k) : rowTo f i (k + 1) = if f i k = true then rowTo f i k ++ [(i, k)] else rowTo f i k := by
  unfold rowTo
  rw [List.range_succ, List.filter_append, List.map_append]
  split <;> rename_i e
  · simp [h, e]
  · simp [h, e]
theorem prsTo_next {f : Nat → Nat → Bool} {n i : Nat} : prsTo f n (i + 1) = prsTo f n i ++ rowTo f i n := by
  unfold prsTo
  rw [List.range_succ, List.flatMap_append]
  simp
theorem rowTo_len {f : Nat → Nat → Bool} {i k : Nat} : (rowTo f i k).length ≤ k := by
  unfold rowTo
  rw [List.length_map]
  exact Nat.le_trans (List.length_filter_le _ _) (by simp)
theorem prsTo_len {f : Nat → Nat → Bool} {n : Nat} : ∀ i, (prsTo f n i).length ≤ i * n
  | 0 => by simp [prsTo]
  | i + 1 => by
    have h1 := prsTo_len (f := f) (n := n) i
    have h2 := rowTo_len (f := f) (i := i) (k := n)
    rw [prsTo_next, List.length_append, Nat.succ_mul]
    omega
theorem prsTo_mem {f : Nat → Nat → Bool} {n : Nat} {p : Nat × Nat} (h : p ∈ prsTo f n n) : p.1 < n ∧ p.2 < n := by
  unfold prsTo at h
  obtain ⟨a, ha, h⟩ := List.mem_flatMap.1 h
  unfold rowTo at h
  obtain ⟨b, hb, rfl⟩ := List.mem_map.1 h
  exact ⟨List.mem_range.1 ha, List.mem_range.1 (List.mem_filter.1 hb).1⟩
def grpTo (r : List Nat) (i k : Nat) : List Nat := (List.range k).filter fun j => decide (r.getD j 0 = i)
theorem grpTo_next {r : List Nat} {i k : Nat} : grpTo r i (k + 1) = if r.getD k 0 = i then grpTo r i k ++ [k] else grpTo r i k := by
  unfold grpTo
  rw [List.range_succ, List.filter_append]
  split <;> rename_i e
  · rw [List.filter_cons_of_pos (by rw [decide_eq_true_eq]; exact e), List.filter_nil]
  · rw [List.filter_cons_of_neg (by rw [decide_eq_true_eq]; exact e), List.filter_nil, List.append_nil]
theorem grpTo_len {r : List Nat} {i k : Nat} : (grpTo r i k).length ≤ k := by
  unfold grpTo
  exact Nat.le_trans (List.length_filter_le _ _) (by simp)
def zs (l : List Nat) : List Int := l.map fun (x : Nat) => (x : Int)
def zp (l : List (Nat × Nat)) : List (Int × Int) := l.map fun (p : Nat × Nat) => ((p.1 : Int), (p.2 : Int))
theorem zs_len {l : List Nat} : (zs l).length = l.length := by simp [zs]
theorem zp_len {l : List (Nat × Nat)} : (zp l).length = l.length := by simp [zp]
theorem zs_get {l : List Nat} {i : Nat} : (zs l).getD i 0 = ((l.getD i 0 : Nat) : Int) := by
  by_cases h : i < l.length <;> simp [zs, List.getD, h]
theorem zs_set {l : List Nat} {i x : Nat} : (zs l).set i (x : Int) = zs (l.set i x) := by simp [zs, List.map_set]
theorem zs_add {l : List Nat} {x : Nat} : zs l ++ [(x : Int)] = zs (l ++ [x]) := by simp [zs]
theorem zp_add {l : List (Nat × Nat)} {a b : Nat} : zp l ++ [((a : Int), (b : Int))] = zp (l ++ [(a, b)]) := by simp [zp]
theorem zp_get {l : List (Nat × Nat)} {i : Nat} (z : Int × Int) (h : i < l.length) : (zp l).getD i z = (((l.getD i (0, 0)).1 : Int), ((l.getD i (0, 0)).2 : Int)) := by simp [zp, List.getD, h]
def outTo (r : List Nat) (n i : Nat) : List (List Int) := ((List.range i).filter fun a => decide (0 < (grpTo r a n).length)).map fun a => zs (grpTo r a n)
theorem outTo_next {r : List Nat} {n i : Nat} : outTo r n (i + 1) = if 0 < (grpTo r i n).length then outTo r n i ++ [zs (grpTo r i n)] else outTo r n i := by
  unfold outTo
  rw [List.range_succ, List.filter_append, List.map_append]
  split <;> rename_i e
  · simp [e]
  · have e' : ¬ 0 < (grpTo r i n).length := e
    simp [e']
theorem outTo_len {r : List Nat} {n i : Nat} : (outTo r n i).length ≤ i := by
  unfold outTo
  rw [List.length_map]
  exact Nat.le_trans (List.length_filter_le _ _) (by simp)
/-- while a merge is under way: the first k are told anew -/
def mixTo (r : List Nat) (p : Nat × Nat) (k : Nat) : List Nat := (mrg r p).take k ++ r.drop k
theorem mixTo_len {r : List Nat} {p : Nat × Nat} {k : Nat} : (mixTo r p k).length = r.length := by
  simp [mixTo, mrg]
  omega
theorem mixTo_zero {r : List Nat} {p : Nat × Nat} : mixTo r p 0 = r := by simp [mixTo]
theorem mixTo_full {r : List Nat} {p : Nat × Nat} {k : Nat} (h : r.length ≤ k) : mixTo r p k = mrg r p := by
  unfold mixTo
  rw [List.take_of_length_le (by simp [mrg]; exact h), List.drop_of_length_le h, List.append_nil]
theorem mixTo_get {r : List Nat} {p : Nat × Nat} {k : Nat} (h : k < r.length) : (mixTo r p k).getD k 0 = r.getD k 0 := by
  unfold mixTo
  have hl : ((mrg r p).take k).length = k := by simp [mrg]; omega
  simp [List.getD, List.getElem?_append, hl]
theorem mixTo_next {r : List Nat} {p : Nat × Nat} {k : Nat} (h : k < r.length) : mixTo r p (k + 1) = (mixTo r p k).set k ((mrg r p).getD k 0) := by
  have hm : (mrg r p).length = r.length := by simp [mrg]
  have hl : ((mrg r p).take k).length = k := by rw [List.length_take]; omega
  show (mrg r p).take (k + 1) ++ r.drop (k + 1) = ((mrg r p).take k ++ r.drop k).set k ((mrg r p).getD k 0)
  have e1 : (mrg r p)[k]? = some ((mrg r p).getD k 0) := by simp [List.getD, hm, h]
  rw [List.set_append_right _ _ (by omega), hl, Nat.sub_self, List.drop_eq_getElem_cons h, List.set_cons_zero, List.take_add_one, e1]
  simp
theorem mrg_get {r : List Nat} {p : Nat × Nat} {k : Nat} (h : k < r.length) : (mrg r p).getD k 0 = if r.getD k 0 = max (r.getD p.1 0) (r.getD p.2 0) then min (r.getD p.1 0) (r.getD p.2 0) else r.getD k 0 := by
  unfold mrg
  rw [map_get h]
theorem set_same {r : List Nat} {k x : Nat} (h : k < r.length) (e : x = r.getD k 0) : r.set k x = r := by
  subst e
  simp [List.getD, h]
/-! the best of several fractions -/
def mstep (i : Nat) (s : Int × Int × Int) (c : Int × Int) : Int × Int × Int :=
  if s.1 < 0 ∨ s.2.1 * (if c.2 = 0 then 1 else c.2) < (if c.2 = 0 then 1 else c.1) * s.2.2 then ((i : Int), if c.2 = 0 then 1 else c.1, if c.2 = 0 then 1 else c.2) else s
def mst (c : Nat → Int × Int) : Nat → Int × Int × Int
  | 0 => (-1, 0, 1)
  | i + 1 => mstep i (mst c i) (c i)
theorem mst_bounds {c : Nat → Int × Int} {B : Int} (hB : 1 ≤ B) (hc : ∀ i, 0 ≤ (c i).1 ∧ (c i).1 ≤ B ∧ 0 ≤ (c i).2 ∧ (c i).2 ≤ B) : ∀ i : Nat, -1 ≤ (mst c i).1 ∧ (mst c i).1 ≤ i ∧ 0 ≤ (mst c i).2.1 ∧ (mst c i).2.1 ≤ B ∧ 0 ≤ (mst c i).2.2 ∧ (mst c i).2.2 ≤ B
  | 0 => by
    show -1 ≤ (-1 : Int) ∧ (-1 : Int) ≤ ((0 : Nat) : Int) ∧ (0 : Int) ≤ 0 ∧ (0 : Int) ≤ B ∧ (0 : Int) ≤ 1 ∧ (1 : Int) ≤ B
    omega
  | i + 1 => by
    have h1 := mst_bounds hB hc i
    have h2 := hc i
    show -1 ≤ (mstep i (mst c i) (c i)).1 ∧ (mstep i (mst c i) (c i)).1 ≤ ((i + 1 : Nat) : Int) ∧ 0 ≤ (mstep i (mst c i) (c i)).2.1 ∧ (mstep i (mst c i) (c i)).2.1 ≤ B ∧ 0 ≤ (mstep i (mst c i) (c i)).2.2 ∧ (mstep i (mst c i) (c i)).2.2 ≤ B
    generalize mst c i = s at *
    generalize c i = d at *
    unfold mstep
    by_cases hd : d.2 = 0
    · rw [if_pos hd, if_pos hd]
      split
      · show -1 ≤ (i : Int) ∧ (i : Int) ≤ ((i + 1 : Nat) : Int) ∧ (0 : Int) ≤ 1 ∧ (1 : Int) ≤ B ∧ (0 : Int) ≤ 1 ∧ (1 : Int) ≤ B
        omega
      · omega
    · rw [if_neg hd, if_neg hd]
      split
      · show -1 ≤ (i : Int) ∧ (i : Int) ≤ ((i + 1 : Nat) : Int) ∧ (0 : Int) ≤ d.1 ∧ d.1 ≤ B ∧ (0 : Int) ≤ d.2 ∧ d.2 ≤ B
        omega
      · omega
end Go.Vc.Ng
