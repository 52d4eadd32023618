/- Arguments of a row's function, of any shape, read as data. -/
import Derived.Test.YtcjcfpbbhmhlbaaV24
set_option linter.unusedVariables false
set_option linter.unusedSimpArgs false
namespace Go.Vc
open Go.ChangeShapes Go.WideShapes
/-- shapes of data; a struct's fields stand one behind the other -/
inductive TS
  | int (k : IntKind)
  | bool
  | str
  | list (e : TypeId) (size bytes : Nat) (s : TS)
  | struct (r : TS)
  | fcons (t : TypeId) (s r : TS)
  | flast (t : TypeId) (s : TS)
def TS.en : TS → Enc
  | .int k => eInt k
  | .bool => eBool
  | .str => eStr
  | .list _ size _ s => eList size s.en
  | .struct r => r.en
  | .fcons _ s r => ePair s.en r.en
  | .flast _ s => s.en
/-- numbers in their range; lists as long as memory bears -/
def TS.wf : (s : TS) → s.en.α → Prop
  | .int k => fun (n : Int) => (Lit.int k n).wf = true
  | .bool => fun _ => True
  | .str => fun (s : ByteArray) => s.size ≤ 140737488351232
  | .list _ _ bytes s => fun (xs : List s.en.α) => xs.length * bytes ≤ 140737488351232 ∧ xs.length ≤ maxLen ∧ ∀ x ∈ xs, s.wf x
  | .struct r => fun x => r.wf x
  | .fcons _ s r => fun (p : s.en.α × r.en.α) => s.wf p.1 ∧ r.wf p.2
  | .flast _ s => fun x => s.wf x
def TS.lenF (T : Tab) : TS → Nat
  | .fcons t _ r => (T t).size + r.lenF T
  | .flast t _ => (T t).size
  | _ => 0
mutual
/-- the shape is the type's -/
def TS.ok (T : Tab) : TS → TypeId → Prop
  | .int k, t => (T t).sh = .int k
  | .bool, t => (T t).sh = .bool
  | .str, t => (T t).sh = .str
  | .list e size bytes s, t => (T t).sh = .slice e ∧ (T e).size = size ∧ (T e).bytes = bytes ∧ 0 < size ∧ TS.ok T s e
  | .struct r, t => ∃ fs, (T t).sh = .struct fs ∧ TS.okF T r fs 0 ∧ r.lenF T = (T t).size ∧ ¬ (T t).size = 0
  | .fcons _ _ _, _ => False
  | .flast _ _, _ => False
/-- fields from an offset on -/
def TS.okF (T : Tab) : TS → List (Nat × TypeId) → Nat → Prop
  | .fcons t s r, fs, off => ∃ fs', fs = (off, t) :: fs' ∧ TS.ok T s t ∧ TS.okF T r fs' (off + (T t).size)
  | .flast t s, fs, off => fs = [(off, t)] ∧ TS.ok T s t
  | .int _, _, _ => False
  | .bool, _, _ => False
  | .str, _, _ => False
  | .list _ _ _ _, _, _ => False
  | .struct _, _, _ => False
end
def TS.isF : TS → Bool
  | .fcons .. => true
  | .flast .. => true
  | _ => false
section
variable {P : Program} {T : Tab} {H : Type} {enc : TypeId × Value → H} {W : World} {held : Bool}
theorem mapM_at {α β : Type} {f : α → Option β} : ∀ {l : List α} {r : List β}, l.mapM f = some r → r.length = l.length ∧ ∀ (i : Nat) (x : α), l[i]? = some x → ∃ y, r[i]? = some y ∧ f x = some y
  | [], r, h => by
    simp at h; subst h
    exact ⟨rfl, fun i x hx => by simp at hx⟩
  | a :: l, r, h => by
    rw [List.mapM_cons] at h
    cases ha : f a with
    | none => rw [ha] at h; cases h
    | some b =>
      rw [ha] at h
      cases hl : l.mapM f with
      | none => rw [hl] at h; cases h
      | some bs =>
        rw [hl] at h
        cases h
        obtain ⟨h1, h2⟩ := mapM_at hl
        refine ⟨by simp [h1], fun i x hx => ?_⟩
        cases i with
        | zero => simp at hx; subst hx; exact ⟨b, rfl, ha⟩
        | succ i => simpa using h2 i x (by simpa using hx)
theorem gather {α : Type} (z : α) {Q : Nat → α → Prop} : ∀ n : Nat, (∀ i, i < n → ∃ x, Q i x) → ∃ xs : List α, xs.length = n ∧ ∀ i, i < n → Q i (xs.getD i z)
  | 0, _ => ⟨[], rfl, fun i h => by omega⟩
  | n + 1, h => by
    obtain ⟨xs, h1, h2⟩ := gather z n fun i hi => h i (by omega)
    obtain ⟨x, hx⟩ := h n (by omega)
    refine ⟨xs ++ [x], by simp [h1], fun i hi => ?_⟩
    by_cases hin : i < n
    · have : (xs ++ [x]).getD i z = xs.getD i z := by simp [List.getD, List.getElem?_append, h1, hin]
      rw [this]; exact h2 i hin
    · have : i = n := by omega
      subst this
      have : (xs ++ [x]).getD i z = x := by simp [List.getD, List.getElem?_append, h1]
      rw [this]; exact hx
theorem weightsAll_mem {e : TypeId} : ∀ {ds : List (DataW H)} {d : DataW H}, d ∈ ds → ∀ n ∈ d.weights P e, n ∈ DataW.weightsAll P e ds
  | a :: ds, d, hd, n, hn => by
    unfold DataW.weightsAll
    rw [List.mem_append]
    rcases List.mem_cons.1 hd with rfl | hd
    · exact .inl hn
    · exact .inr (weightsAll_mem hd n hn)
theorem cellsOf_eq {t : TypeId} {n : Nat} (h : ∃ j, P.info? t = some j ∧ j.size = n) : P.cellsOf t = n := by
  obtain ⟨j, h1, h2⟩ := h
  simp [Program.cellsOf, h1, h2]
theorem sh_ne {s : TS} {t : TypeId} (h : TS.ok T s t) : (T t).sh ≠ .none := by
  cases s <;> simp only [TS.ok] at h <;> try exact h.elim
  case int => rw [h]; simp
  case bool => rw [h]; simp
  case str => rw [h]; simp
  case list => rw [h.1]; simp
  case struct => obtain ⟨fs, h1, _⟩ := h; rw [h1]; simp
/-- what the cells of a value read as -/
def Reads (W : World) (E : Enc) (x : E.α) (cs : List Value) : Prop := ∀ (j : Nat) (d : DV), (E.enc x)[j]? = some d → ∃ v, cs[j]? = some v ∧ RD W (fun _ => False) d v
mutual
theorem trod_len (hT : TabOK P T) : ∀ (s : TS) {t : TypeId}, TS.ok T s t → ∀ y, (s.en.enc y).length = (T t).size
  | .int k, t, hok, y => by
    have hTt := hT.of (sh_ne (s := .int k) hok)
    have h1 : (T t).size = 1 := hTt.one (by simp [TI.isAgg, show (T t).sh = .int k from hok])
    rw [h1]; rfl
  | .bool, t, hok, y => by
    have hTt := hT.of (sh_ne (s := .bool) hok)
    have h1 : (T t).size = 1 := hTt.one (by simp [TI.isAgg, show (T t).sh = .bool from hok])
    rw [h1]; rfl
  | .str, t, hok, y => by
    have hTt := hT.of (sh_ne (s := .str) hok)
    have h1 : (T t).size = 1 := hTt.one (by simp [TI.isAgg, show (T t).sh = .str from hok])
    rw [h1]; rfl
  | .list e size bytes s, t, hok, y => by
    have hTt := hT.of (sh_ne (s := .list e size bytes s) hok)
    have h1 : (T t).size = 1 := hTt.one (by simp [TI.isAgg, show (T t).sh = .slice e from hok.1])
    rw [h1]; rfl
  | .struct r, t, hok, y => by
    obtain ⟨fs, _, hr, hl, _⟩ := hok
    rw [← hl]
    exact fields_len hT r hr y
  | .fcons .., t, hok, y => hok.elim
  | .flast .., t, hok, y => hok.elim
theorem fields_len (hT : TabOK P T) : ∀ (r : TS) {fs : List (Nat × TypeId)} {off : Nat}, TS.okF T r fs off → ∀ y, (r.en.enc y).length = TS.lenF T r
  | .fcons t s r, fs, off, hok, y => by
    obtain ⟨fs', _, h1, h2⟩ := hok
    show (s.en.enc y.1 ++ r.en.enc y.2).length = _
    rw [List.length_append, trod_len hT s h1, fields_len hT r h2]
    rfl
  | .flast t s, fs, off, hok, y => trod_len hT s hok.2 y
  | .int k, fs, off, hok, y => hok.elim
  | .bool, fs, off, hok, y => hok.elim
  | .str, fs, off, hok, y => hok.elim
  | .list .., fs, off, hok, y => hok.elim
  | .struct r, fs, off, hok, y => hok.elim
end
theorem weightsEach_head {t : TypeId} {ts : List TypeId} {d : DataW H} {ds : List (DataW H)} {n : Nat} (h : n ∈ d.weights P t) : n ∈ DataW.weightsEach P (t :: ts) (d :: ds) := by
  unfold DataW.weightsEach
  exact List.mem_append.2 (.inl h)
theorem weightsEach_tail {t : TypeId} {ts : List TypeId} {d : DataW H} {ds : List (DataW H)} {n : Nat} (h : n ∈ DataW.weightsEach P ts ds) : n ∈ DataW.weightsEach P (t :: ts) (d :: ds) := by
  unfold DataW.weightsEach
  exact List.mem_append.2 (.inr h)
mutual
theorem trod_fields (hT : TabOK P T) : ∀ (r : TS) {fuel off : Nat} {fields : List Field} {cs : List Value} {xs : List (DataW H × List MemPlace)}, TS.okF T r (fields.map fun f => (f.offset, f.type)) off →
    (fields.mapM fun f => DataW.trod enc P W 0 (fun _ => true) held fuel f.type ((cs.drop f.offset).take (P.cellsOf f.type))) = some xs → (∀ n ∈ DataW.weightsEach P (fields.map (·.type)) (xs.map (·.1)), n ≤ reachBytes) →
    ∃ x : r.en.α, r.wf x ∧ ∀ (j : Nat) (d : DV), (r.en.enc x)[j]? = some d → ∃ v, cs[off + j]? = some v ∧ RD W (fun _ => False) d v
  | .fcons t s r, fuel, off, fields, cs, xs, hok, h, hw => by
    obtain ⟨fs', hfs, h1, h2⟩ := hok
    match fields, hfs with
    | f :: fields, hfs =>
      simp only [List.map_cons, List.cons.injEq, Prod.mk.injEq] at hfs
      obtain ⟨⟨rfl, rfl⟩, rfl⟩ := hfs
      rw [List.mapM_cons] at h
      cases ha : DataW.trod enc P W 0 (fun _ => true) held fuel f.type ((cs.drop f.offset).take (P.cellsOf f.type)) with
      | none => rw [ha] at h; cases h
      | some b =>
        rw [ha] at h
        cases hl : fields.mapM fun f => DataW.trod enc P W 0 (fun _ => true) held fuel f.type ((cs.drop f.offset).take (P.cellsOf f.type)) with
        | none => simp only [hl] at h; cases h
        | some bs =>
          simp only [hl] at h
          cases h
          obtain ⟨x, g1, g2, g3, g4⟩ := trod_reads hT s h1 (d := b.1) (ps := b.2) ha fun n hn => hw n (weightsEach_head hn)
          obtain ⟨y, k1, k2⟩ := trod_fields hT r h2 hl fun n hn => hw n (weightsEach_tail hn)
          refine ⟨(x, y), ⟨g1, k1⟩, fun j d hj => ?_⟩
          have hj' : (s.en.enc x ++ r.en.enc y)[j]? = some d := hj
          rw [List.getElem?_append, g3] at hj'
          split at hj'
          · obtain ⟨v, e1, e2⟩ := g4 j d hj'
            rw [List.getElem?_take] at e1
            split at e1
            · rw [List.getElem?_drop] at e1
              exact ⟨v, e1, e2⟩
            · cases e1
          · obtain ⟨v, e1, e2⟩ := k2 _ d hj'
            refine ⟨v, ?_, e2⟩
            rw [← e1]
            congr 1
            omega
    | [], hfs => simp at hfs
  | .flast t s, fuel, off, fields, cs, xs, hok, h, hw => by
    obtain ⟨hfs, h1⟩ := hok
    match fields, hfs with
    | [f], hfs =>
      simp only [List.map_cons, List.map_nil, List.cons.injEq, Prod.mk.injEq, and_true] at hfs
      obtain ⟨rfl, rfl⟩ := hfs
      rw [List.mapM_cons] at h
      cases ha : DataW.trod enc P W 0 (fun _ => true) held fuel f.type ((cs.drop f.offset).take (P.cellsOf f.type)) with
      | none => rw [ha] at h; cases h
      | some b =>
        rw [ha] at h
        cases h
        obtain ⟨x, g1, g2, g3, g4⟩ := trod_reads hT s h1 (d := b.1) (ps := b.2) ha fun n hn => hw n (weightsEach_head hn)
        refine ⟨x, g1, fun j d hj => ?_⟩
        obtain ⟨v, e1, e2⟩ := g4 j d hj
        rw [List.getElem?_take] at e1
        split at e1
        · rw [List.getElem?_drop] at e1
          exact ⟨v, e1, e2⟩
        · cases e1
    | [], hfs => simp at hfs
    | _ :: _ :: _, hfs => simp at hfs
  | .int k, fuel, off, fields, cs, xs, hok, h, hw => hok.elim
  | .bool, fuel, off, fields, cs, xs, hok, h, hw => hok.elim
  | .str, fuel, off, fields, cs, xs, hok, h, hw => hok.elim
  | .list .., fuel, off, fields, cs, xs, hok, h, hw => hok.elim
  | .struct r, fuel, off, fields, cs, xs, hok, h, hw => hok.elim
theorem trod_reads (hT : TabOK P T) : ∀ (s : TS) {t : TypeId} {fuel : Nat} {cs : List Value} {d : DataW H} {ps : List MemPlace}, TS.ok T s t → DataW.trod enc P W 0 (fun _ => true) held fuel t cs = some (d, ps) → (∀ n ∈ d.weights P t, n ≤ reachBytes) →
    ∃ x : s.en.α, s.wf x ∧ cs.length = (T t).size ∧ (∀ y, (s.en.enc y).length = (T t).size) ∧ Reads W s.en x cs
  | .int k, t, fuel, cs, d, ps, hok, h, hw => by
    have hu : P.underlying t = some (.int k) := hT.sh hok (by simp)
    have hTt := hT.of (sh_ne (s := .int k) hok)
    have h1 : (T t).size = 1 := hTt.one (by simp [TI.isAgg, show (T t).sh = .int k from hok])
    cases fuel with
    | zero => cases h
    | succ fuel =>
      unfold DataW.trod at h
      rw [hu] at h
      split at h <;> try (cases h; done)
      all_goals (first | (rename_i heq; cases heq; done) | skip)
      rename_i k0 k' n heq
      cases heq
      split at h
      · rename_i hc
        obtain ⟨rfl, hwf⟩ := hc
        exact ⟨n, hwf, by simp [h1], fun y => by simp [TS.en, eInt, h1], fun j d' hj => by
          cases j with
          | zero => simp [TS.en, eInt] at hj; subst hj; exact ⟨_, rfl, .int _ _⟩
          | succ j => simp [TS.en, eInt] at hj⟩
      · cases h
  | .bool, t, fuel, cs, d, ps, hok, h, hw => by
    have hu : P.underlying t = some .bool := hT.sh hok (by simp)
    have hTt := hT.of (sh_ne (s := .bool) hok)
    have h1 : (T t).size = 1 := hTt.one (by simp [TI.isAgg, show (T t).sh = .bool from hok])
    cases fuel with
    | zero => cases h
    | succ fuel =>
      unfold DataW.trod at h
      rw [hu] at h
      split at h <;> try (cases h; done)
      all_goals (first | (rename_i heq; cases heq; done) | skip)
      rename_i b heq
      exact ⟨b, trivial, by simp [h1], fun y => by simp [TS.en, eBool, h1], fun j d' hj => by
        cases j with
        | zero => simp [TS.en, eBool] at hj; subst hj; exact ⟨_, rfl, .bool _⟩
        | succ j => simp [TS.en, eBool] at hj⟩
  | .str, t, fuel, cs, d, ps, hok, h, hw => by
    have hu : P.underlying t = some .string := hT.sh hok (by simp)
    have hTt := hT.of (sh_ne (s := .str) hok)
    have h1 : (T t).size = 1 := hTt.one (by simp [TI.isAgg, show (T t).sh = .str from hok])
    cases fuel with
    | zero => cases h
    | succ fuel =>
      unfold DataW.trod at h
      rw [hu] at h
      split at h <;> try (cases h; done)
      all_goals (first | (rename_i heq; cases heq; done) | skip)
      rename_i s heq
      split at h
      · cases h
        have hb := hw s.data.toList.length (by simp [DataW.weights])
        have hb' : s.size ≤ 140737488351232 := by
          have e : s.data.toList.length = s.size := by show s.data.toList.length = s.data.size; simp
          rw [e] at hb
          exact hb
        exact ⟨s, hb', by simp [h1], fun y => by simp [TS.en, eStr, h1], fun j d' hj => by
          cases j with
          | zero => simp [TS.en, eStr] at hj; subst hj; exact ⟨_, rfl, .str _⟩
          | succ j => simp [TS.en, eStr] at hj⟩
      · cases h
  | .list e size bytes s, t, fuel, cs, d, ps, hok, h, hw => by
    obtain ⟨hsh, h2, h3, h4, hs⟩ := hok
    have hu : P.underlying t = some (.slice e) := hT.sh hsh (by simp)
    have hTt := hT.of (t := t) (by rw [hsh]; simp)
    have h1 : (T t).size = 1 := hTt.one (by simp [TI.isAgg, hsh])
    have hTe := hT.of (sh_ne hs)
    have hce : P.cellsOf e = size := cellsOf_eq (by rw [← h2]; exact hTe.sized)
    have hbe : P.bytesOf e = bytes := by
      obtain ⟨j, z, g1, g2, g3, _⟩ := hTe.info (by omega)
      simp [Program.bytesOf, g1, g3, h3]
    have henc : ∀ y, (TS.en (.list e size bytes s)).enc y = [.list size s.en.α s.en.z s.en.enc y] := fun y => rfl
    cases fuel with
    | zero => cases h
    | succ fuel =>
      unfold DataW.trod at h
      rw [hu] at h
      split at h <;> try (cases h; done)
      all_goals (first | (rename_i heq; cases heq; done) | skip)
      · rename_i heq
        cases heq
        exact ⟨[], ⟨by simp, by simp, fun x hx => by cases hx⟩, by simp [h1], fun y => by rw [henc, h1]; rfl, fun j d' hj => by
          have hj : [DV.list size s.en.α s.en.z s.en.enc []][j]? = some d' := hj
          cases j with
          | zero => simp at hj; subst hj; exact ⟨_, rfl, .empty _ _ _ _ none 0 (Nat.zero_le _) fun _ => rfl⟩
          | succ j => simp at hj⟩
      · rename_i e0 a len cap heq
        cases heq
        split at h
        · rename_i hb
          obtain ⟨_, hlc, hcm⟩ := hb
          simp only [if_true] at h
          rw [Option.bind_eq_some_iff] at h
          obtain ⟨elems, hel, h⟩ := h
          rw [Option.map_eq_some_iff] at h
          obtain ⟨rest, hrs, h⟩ := h
          cases h
          obtain ⟨l1, a1⟩ := mapM_at hel
          obtain ⟨l2, _⟩ := mapM_at hrs
          simp only [List.length_range] at l1 l2
          have hwt : (elems.length + rest.length) * bytes ≤ reachBytes ∧ ∀ d ∈ elems.map (·.1), ∀ n ∈ d.weights P e, n ≤ reachBytes := by
            constructor
            · apply hw
              unfold DataW.weights
              rw [hu]
              simp only [List.length_map, hbe, List.mem_cons, true_or]
            · intro d hd n hn
              apply hw
              unfold DataW.weights
              rw [hu]
              simp only [List.mem_cons, List.mem_append]
              exact .inr (.inl (weightsAll_mem hd n hn))
          have each : ∀ i, i < len → ∃ x : s.en.α, s.wf x ∧ ∃ ci, W.cells? 0 (a.add (i * size)) size = some ci ∧ ci.length = size ∧ Reads W s.en x ci := fun i hi => by
            obtain ⟨y, hy1, hy2⟩ := a1 i i (List.getElem?_range hi)
            rw [hce, Option.bind_eq_some_iff] at hy2
            obtain ⟨ci, hci, hy2⟩ := hy2
            obtain ⟨x, hx1, hx2, _, hx3⟩ := trod_reads hT s hs (d := y.1) (ps := y.2) hy2 (hwt.2 y.1 (List.mem_map.2 ⟨y, List.mem_of_getElem? hy1, rfl⟩))
            exact ⟨x, hx1, ci, hci, by rw [hx2, h2], hx3⟩
          have hel' : ∀ y, (s.en.enc y).length = size := by
            intro y
            -- from any element's reading, or from the shape
            exact (trod_len hT s hs y).trans h2
          obtain ⟨xs, hxl, hxs⟩ := gather s.en.z len each
          have hcell : ∀ i, i < len → ∃ ci, W.cells? 0 (a.add (i * size)) size = some ci ∧ ci.length = size ∧ Reads W s.en (xs.getD i s.en.z) ci ∧ ∀ j, j < size → ∃ v, ci[j]? = some v ∧ W.cell? ((a.add (i * size)).add j) = some v := fun i hi => by
            obtain ⟨_, ci, g1, g2, g3⟩ := hxs i hi
            refine ⟨ci, g1, g2, g3, fun j hj => ?_⟩
            unfold World.cells? at g1
            rw [if_pos (Nat.zero_le _)] at g1
            obtain ⟨_, ga⟩ := mapM_at g1
            exact ga j j (List.getElem?_range hj)
          refine ⟨xs, ⟨?_, by omega, fun x hx => ?_⟩, by simp [h1], fun y => by rw [henc, h1]; rfl, fun j d' hj => ?_⟩
          · have h5 := hwt.1
            have h6 : xs.length * bytes ≤ (elems.length + rest.length) * bytes := Nat.mul_le_mul_right _ (by omega)
            exact Nat.le_trans h6 h5
          · obtain ⟨i, hi⟩ := List.mem_iff_getElem?.1 hx
            have hil : i < len := by rw [← hxl]; exact (List.getElem?_eq_some_iff.1 hi).1
            have := (hxs i hil).1
            rw [List.getD_eq_getElem?_getD, hi] at this
            exact this
          · have hj : [DV.list size s.en.α s.en.z s.en.enc xs][j]? = some d' := hj
            cases j with
            | succ j => simp at hj
            | zero =>
              simp at hj
              subst hj
              refine ⟨_, rfl, ?_⟩
              by_cases hl0 : len = 0
              · subst hl0
                have : xs = [] := List.eq_nil_of_length_eq_zero hxl
                subst this
                exact .empty _ _ _ _ _ _ hcm fun e => by cases e
              · obtain ⟨ci, _, _, _, hv⟩ := hcell 0 (by omega)
                obtain ⟨v0, _, hc0⟩ := hv 0 h4
                have ha : (a.add (0 * size)).add 0 = a := by simp [Addr.add]
                rw [ha] at hc0
                have hsp : a.spot = none := by
                  cases hs : a.spot with
                  | none => rfl
                  | some b =>
                    simp only [World.cell?, hs] at hc0
                    split at hc0
                    · simp at hc0
                    · cases hc0
                obtain ⟨b, off, sp⟩ := a
                simp only at hsp
                subst hsp
                have hbl : b < W.heap.size := World.block_lt_of_cell? W ⟨b, off, none⟩ hc0
                have key := RD.list (w := W) (O := fun _ => False) size s.en.α s.en.z s.en.enc xs b off cap (fun i j => (W.cell? ⟨b, off + i * size + j, none⟩).getD undef) (by omega) (fun e => e) hbl (by omega) hcm hel' (fun i j hi hj => by
                  obtain ⟨ci, _, _, _, hv⟩ := hcell i (by omega)
                  obtain ⟨v, _, hv2⟩ := hv j hj
                  rw [Addr.add_lit, Addr.add_lit] at hv2
                  rw [hv2]
                  rfl) (fun i j d hi hj => by
                  obtain ⟨ci, _, hcl, hr, hv⟩ := hcell i (by omega)
                  obtain ⟨v, h5, h6⟩ := hr j d hj
                  have hjs : j < size := by rw [← hel' (xs.getD i s.en.z)]; exact (List.getElem?_eq_some_iff.1 hj).1
                  obtain ⟨v2, h7, h8⟩ := hv j hjs
                  rw [h5] at h7
                  cases h7
                  rw [Addr.add_lit, Addr.add_lit] at h8
                  rw [h8]
                  exact h6)
                rw [hxl] at key
                exact key
        · cases h
  | .struct r, t, fuel, cs, d, ps, hok, h, hw => by
    obtain ⟨fs, hsh, hr, hlen, h0⟩ := hok
    obtain ⟨fields, hu, hfs⟩ : ∃ fields, P.underlying t = some (.struct fields) ∧ fields.toList.map (fun f => (f.offset, f.type)) = fs := hT.sh hsh (by simp)
    have hTt := hT.of (t := t) (by rw [hsh]; simp)
    have hce : P.cellsOf t = (T t).size := cellsOf_eq hTt.sized
    cases fuel with
    | zero => cases h
    | succ fuel =>
      have hrw : DataW.trod enc P W 0 (fun _ => true) held (fuel + 1) t cs = if cs.length = P.cellsOf t then (fields.toList.mapM fun f => DataW.trod enc P W 0 (fun _ => true) held fuel f.type ((cs.drop f.offset).take (P.cellsOf f.type))).map fun xs => (.agg (xs.map (·.1)), xs.flatMap (·.2)) else none := by
        conv => lhs; unfold DataW.trod
        rw [hu]
      rw [hrw] at h
      split at h
      · rename_i hcl
        rw [Option.map_eq_some_iff] at h
        obtain ⟨xs, hxs, h⟩ := h
        cases h
        have hw' : ∀ n ∈ DataW.weightsEach P (fields.toList.map (·.type)) (xs.map (·.1)), n ≤ reachBytes := fun n hn => by
          apply hw
          unfold DataW.weights
          rw [hu]
          exact hn
        obtain ⟨x, g1, g4⟩ := trod_fields hT r (off := 0) (fields := fields.toList) (cs := cs) (xs := xs) (by rw [hfs]; exact hr) hxs hw'
        refine ⟨x, g1, by rw [hcl, hce], fun y => by rw [← hlen]; exact fields_len hT r hr y, fun j d' hj => ?_⟩
        have := g4 j d' hj
        rwa [Nat.zero_add] at this
      · cases h
  | .fcons .., t, fuel, cs, d, ps, hok, h, hw => hok.elim
  | .flast .., t, fuel, cs, d, ps, hok, h, hw => hok.elim
end
/-- an argument, as a value of the logic -/
theorem open_arg (hT : TabOK P T) (s : TS) {t : TypeId} {v : Value} {d : DataW H} {ps : List MemPlace} {ts : List TypeId} {ds : List (DataW H)} {j : Nat}
    (hsz : (DataW.weightsEach P ts ds).all (· ≤ reachBytes) = true) (ht : ts[j]? = some t) (hd : ds[j]? = some d) (hok : TS.ok T s t) (h : DataW.Trod enc P W 0 (fun _ => true) held t v d ps) :
    ∃ x : s.en.α, s.wf x ∧ Reads W s.en x v.cells.toList ∧ v.cells.toList.length = (T t).size := by
  obtain ⟨fuel, hf⟩ := h
  obtain ⟨x, h1, h2, _, h3⟩ := trod_reads hT s hok hf fun n hn => by
    have := List.all_eq_true.1 hsz n (DataW.weights_mem_each ht hd n hn)
    simpa using this
  exact ⟨x, h1, h3, h2⟩
/-- a value of one cell -/
theorem Reads.one {E : Enc} {x : E.α} {v : Value} {d : DV} {h : v.cells = #[v]} (hr : Reads W E x v.cells.toList) (he : E.enc x = [d]) : RD W (fun _ => False) d v := by
  obtain ⟨u, e1, e2⟩ := hr 0 d (by rw [he]; rfl)
  rw [h] at e1
  simp at e1
  subst e1
  exact e2
/-- a struct -/
theorem Reads.agg {E : Enc} {x : E.α} {arr : Array Value} {ds : List DV} {hs : Nat → Value} (hr : Reads W E x arr.toList) (he : E.enc x = ds) (hl : arr.toList.length = ds.length) : RV W (fun _ => False) hs (.agg (ds.map DV.ac)) (.agg arr) := by
  refine ⟨arr, rfl, RCs_of_RD hl fun j d v hd hv => ?_⟩
  obtain ⟨u, e1, e2⟩ := hr j d (by rw [he]; exact hd)
  rw [hv] at e1
  cases e1
  exact e2
end
end Go.Vc
