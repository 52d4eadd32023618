/- Cuts: what of one window is not in the next, counted in two ways. -/
import Derived.Test.YtmikejeohdleeaaVL
import Derived.Test.YtmikejeohdleeaaV26
set_option linter.unusedVariables false
set_option linter.unusedSimpArgs false
namespace Go.Vc
/-- by greed: what of x is not in what is left of y -/
def wstep (p : List Int × Int) (c : Int) : List Int × Int := if c ∈ p.1 then (p.1.erase c, p.2) else (p.1, p.2 + 1)
def wrun (y x : List Int) : List Int × Int := x.foldl wstep (y, 0)
/-- by counts -/
def posI (d : Int) : Int := if d > 0 then d else 0
theorem posI_cases (d : Int) : (0 < d ∧ posI d = d) ∨ (d ≤ 0 ∧ posI d = 0) := by
  unfold posI
  split
  · exact .inl ⟨by omega, rfl⟩
  · exact .inr ⟨by omega, rfl⟩
def over (x y : List Int) : Nat → Int
  | 0 => 0
  | k + 1 => over x y k + posI ((x.count (k : Int) : Int) - y.count (k : Int))
theorem over_nil (y : List Int) : ∀ k, over [] y k = 0
  | 0 => rfl
  | k + 1 => by
    have h := posI_cases (([] : List Int).count (k : Int) - y.count (k : Int))
    have e : (([] : List Int).count (k : Int) : Int) = 0 := rfl
    simp only [over, over_nil y k]
    omega
theorem over_in {x y : List Int} {c : Int} (h : c ∈ y) : ∀ k, over (c :: x) y k = over x (y.erase c) k
  | 0 => rfl
  | k + 1 => by
    have h1 : 0 < y.count c := List.count_pos_iff.2 h
    simp only [over, over_in h k]
    congr 2
    rw [List.count_cons, List.count_erase]
    by_cases e : c = (k : Int)
    · subst e
      simp only [beq_self_eq_true, if_true]
      omega
    · have e1 : (c == (k : Int)) = false := by simpa using e
      have e2 : ((k : Int) == c) = false := by simpa using fun h : (k : Int) = c => e h.symm
      simp [e1, e2]
theorem over_out {x y : List Int} {c : Int} (h : ¬ c ∈ y) (h0 : 0 ≤ c) : ∀ k : Nat, ((c < k → over (c :: x) y k = over x y k + 1) ∧ (¬ c < k → over (c :: x) y k = over x y k))
  | 0 => ⟨fun h => by omega, fun _ => rfl⟩
  | k + 1 => by
    obtain ⟨i1, i2⟩ := over_out (x := x) h h0 k
    have h1 : y.count c = 0 := List.count_eq_zero.2 h
    simp only [over]
    by_cases e : c = (k : Int)
    · subst e
      have e1 : (((k : Int) :: x).count (k : Int)) = x.count (k : Int) + 1 := by rw [List.count_cons]; simp
      have p1 := posI_cases ((((k : Int) :: x).count (k : Int) : Int) - y.count (k : Int))
      have p2 := posI_cases ((x.count (k : Int) : Int) - y.count (k : Int))
      have := i2 (by omega)
      omega
    · have e1 : ((c :: x).count (k : Int)) = x.count (k : Int) := by
        rw [List.count_cons]
        have e' : (c == (k : Int)) = false := by simpa using e
        simp [e']
      rw [e1]
      constructor <;> intro hk
      · rw [i1 (by omega)]; omega
      · rw [i2 (by omega)]
theorem fold_over : ∀ (x y : List Int) (n : Int), (∀ c ∈ x, 0 ≤ c ∧ c < 256) → (x.foldl wstep (y, n)).2 = n + over x y 256
  | [], y, n, _ => by simp [over_nil]
  | c :: x, y, n, h => by
    have hc := h c (by simp)
    simp only [List.foldl_cons]
    unfold wstep
    by_cases e : c ∈ y
    · rw [if_pos e]
      show (x.foldl wstep (y.erase c, n)).2 = _
      rw [fold_over x _ n fun d hd => h d (by simp [hd]), over_in e]
    · rw [if_neg e]
      show (x.foldl wstep (y, n + 1)).2 = _
      rw [fold_over x _ _ fun d hd => h d (by simp [hd]), (over_out e hc.1 256).1 (by omega)]
      omega
theorem wrun_over (x y : List Int) (h : ∀ c ∈ x, 0 ≤ c ∧ c < 256) : (wrun y x).2 = over x y 256 := by
  have := fold_over x y 0 h
  unfold wrun
  omega
theorem over_le (x y : List Int) : ∀ k : Nat, 0 ≤ over x y k ∧ over x y k ≤ k * x.length
  | 0 => by simp [over]
  | k + 1 => by
    have h := over_le x y k
    have h1 := List.count_le_length (a := (k : Int)) (l := x)
    have e : (((k + 1 : Nat) : Int)) * (x.length : Int) = (k : Int) * x.length + x.length := by rw [Int.natCast_add, Int.add_mul]; simp
    have p1 := posI_cases ((x.count (k : Int) : Int) - y.count (k : Int))
    simp only [over, e]
    omega
theorem wrun_snoc (y x : List Int) (c : Int) : wrun y (x ++ [c]) = wstep (wrun y x) c := by simp [wrun]
theorem fold_bounds : ∀ (x L : List Int) (n : Int), n ≤ (x.foldl wstep (L, n)).2 ∧ (x.foldl wstep (L, n)).2 ≤ n + x.length ∧ (x.foldl wstep (L, n)).1.length ≤ L.length ∧ ∀ c ∈ (x.foldl wstep (L, n)).1, c ∈ L
  | [], L, n => by simp
  | c :: x, L, n => by
    simp only [List.foldl_cons]
    unfold wstep
    by_cases e : c ∈ L
    · rw [if_pos e]
      obtain ⟨h1, h2, h3, h4⟩ := fold_bounds x (L.erase c) n
      exact ⟨h1, by show (x.foldl wstep (L.erase c, n)).2 ≤ _; simp only [List.length_cons]; omega, Nat.le_trans h3 (List.length_erase_le ..), fun d hd => List.mem_of_mem_erase (h4 d hd)⟩
    · rw [if_neg e]
      obtain ⟨h1, h2, h3, h4⟩ := fold_bounds x L (n + 1)
      exact ⟨by show n ≤ (x.foldl wstep (L, n + 1)).2; omega, by show (x.foldl wstep (L, n + 1)).2 ≤ _; simp only [List.length_cons]; omega, h3, h4⟩
theorem wrun_bounds (y x : List Int) : 0 ≤ (wrun y x).2 ∧ (wrun y x).2 ≤ x.length ∧ (wrun y x).1.length ≤ y.length ∧ ∀ c ∈ (wrun y x).1, c ∈ y := by
  obtain ⟨h1, h2, h3, h4⟩ := fold_bounds x y 0
  exact ⟨h1, by unfold wrun; omega, h3, h4⟩
def win (xs : List Int) (s a : Nat) : List Int := (xs.drop a).take s
/-- the cuts among the first j places -/
def cut (xs : List Int) (s : Nat) (lim : Int) : Nat → List Int
  | 0 => []
  | j + 1 => cut xs s lim j ++ (if over (win xs s (s * j)) (win xs s (s * j + s)) 256 > lim then [((s * j + s : Nat) : Int)] else [])
theorem cut_len (xs : List Int) (s : Nat) (lim : Int) : ∀ j, (cut xs s lim j).length ≤ j
  | 0 => by simp [cut]
  | j + 1 => by
    have := cut_len xs s lim j
    simp only [cut, List.length_append]
    split <;> simp <;> omega
def cuts (xs : List Int) (s : Nat) (lim : Int) : List Int := cut xs s lim (xs.length / s - 1)
theorem cuts_end {xs : List Int} {s j : Nat} (lim : Int) (hs : 0 < s) (h1 : j = 0 ∨ s * j + s ≤ xs.length) (h2 : ¬ s * j + s + s ≤ xs.length) : cut xs s lim j = cuts xs s lim := by
  unfold cuts
  congr 1
  rcases h1 with rfl | h1
  · have : xs.length / s < 2 := Nat.div_lt_of_lt_mul (by omega)
    omega
  · have : xs.length / s = j + 1 := Nat.div_eq_of_lt_le (by rw [Nat.mul_comm, Nat.mul_succ]; omega) (by rw [Nat.mul_comm, Nat.mul_succ, Nat.mul_succ]; omega)
    omega
theorem win_len {xs : List Int} {s a : Nat} (h : a + s ≤ xs.length) : (win xs s a).length = s := by simp [win]; omega
theorem win_mem {xs : List Int} {s a : Nat} {c : Int} (h : c ∈ win xs s a) : c ∈ xs := List.mem_of_mem_drop (List.mem_of_mem_take h)
theorem le_mul_self {s j : Nat} (hs : 0 < s) : j ≤ s * j := Nat.le_mul_of_pos_left j hs
/-- one element out of the first ones: how the row changes -/
theorem delete_row' (A B pad : List Int) (x : Int) :
    splice (splice (A ++ (x :: B) ++ pad) A.length B) (A.length + B.length) [0] = (A ++ B) ++ (0 :: pad) := by
  have h1 : splice (A ++ (x :: B) ++ pad) A.length B = (A ++ B) ++ ((x :: B).drop B.length ++ pad) := by
    simp only [splice]
    rw [List.append_assoc A, List.take_left' rfl, List.drop_append, List.drop_of_length_le (by omega), List.nil_append, Nat.add_sub_cancel_left]
    rw [List.drop_append_of_le_length (by simp)]
  have h2 : ((x :: B).drop B.length).length = 1 := by simp
  rw [h1]
  simp only [splice, List.length_cons, List.length_nil]
  rw [List.take_left' (by simp), List.drop_append, List.drop_of_length_le (by simp), List.nil_append, List.length_append, Nat.add_sub_cancel_left, List.drop_left' (by simp)]
  simp
theorem delete_row (L pad : List Int) (i : Nat) (hi : i < L.length) :
    splice (splice (L ++ pad) i (((L ++ pad).drop (i + 1)).take (L.length - (i + 1)))) (L.length - 1) [0] = (L.take i ++ L.drop (i + 1)) ++ (0 :: pad) := by
  have hd : (L ++ pad).drop (i + 1) = L.drop (i + 1) ++ pad := List.drop_append_of_le_length (by omega)
  have ht : (L.drop (i + 1) ++ pad).take (L.length - (i + 1)) = L.drop (i + 1) := List.take_left' (by simp)
  rw [hd, ht]
  have e : L = L.take i ++ (L[i] :: L.drop (i + 1)) := by rw [← List.drop_eq_getElem_cons hi, List.take_append_drop]
  have h := delete_row' (L.take i) (L.drop (i + 1)) pad L[i]
  rw [← e, List.length_take, Nat.min_eq_left (by omega), List.length_drop] at h
  rw [show L.length - 1 = i + (L.length - (i + 1)) by omega]
  exact h
end Go.Vc
