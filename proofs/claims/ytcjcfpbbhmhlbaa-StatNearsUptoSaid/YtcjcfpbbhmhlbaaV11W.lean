/- Rows of own rows: literals of one, and appends. -/
import Derived.Test.YtcjcfpbbhmhlbaaV11Z
set_option linter.unusedVariables false
set_option linter.unusedSimpArgs false
namespace Go.Vc
section
variable {P : Program} {T : Tab} {F : Fr} {st : ASt} {hs : Nat → Value} {a : Act} {w : World}

theorem RC.not_dead {O : Nat → Prop} {x : AC} {v : Value} {q : Nat} (h : RC w O hs x v) (hq : q ∈ x.refs) (e : hs q = .nilFunc) : False := by
  cases x <;> simp only [AC.refs, List.mem_singleton, List.not_mem_nil] at hq <;> try (first | exact hq.elim | cases hq; done)
  case ptr o j => subst hq; obtain ⟨b, e1, _⟩ := h; rw [e] at e1; cases e1
  case sl o => subst hq; obtain ⟨_, e1⟩ := h; rw [e] at e1; cases e1
  case sub o s lo n =>
    subst hq
    rcases h with ⟨_, _, _, _, _, _, e1, _⟩ | ⟨_, b, m, cap, c, e1, _⟩ <;> rw [e] at e1 <;> cases e1
  case el o s i j => subst hq; obtain ⟨b, m, cap, e1, _⟩ := h; rw [e] at e1; cases e1
  case xr o r => subst hq; exact XRef.rel_ne h e
  case fn f caps =>
    obtain ⟨arr, _, hl, hc⟩ := h
    obtain ⟨p, hp, rfl⟩ := List.mem_map.1 hq
    obtain ⟨i, hi⟩ := List.mem_iff_getElem?.1 hp
    obtain ⟨b, e1, _⟩ := hc i p hi
    rw [e] at e1; cases e1
theorem absorb_same {p o i : Nat} {x : AC} (h : ∀ q ∈ x.refs, q ≠ p ∧ q ≠ o) : x.absorb p o i = x := by
  cases x <;> try rfl
  case sl q =>
    have e1 : (q == p) = false := by simpa using (h q (by simp [AC.refs])).1
    simp only [AC.absorb, e1, cond_false]
  case sub q s lo n =>
    have e1 : (q == p) = false := by simpa using (h q (by simp [AC.refs])).1
    simp only [AC.absorb, e1, cond_false]
  case el q s k j =>
    have e1 : (q == p) = false := by simpa using (h q (by simp [AC.refs])).1
    simp only [AC.absorb, e1, cond_false]
  case xr q r =>
    obtain ⟨h2, h3⟩ := h q (by simp [AC.refs])
    have f1 : (q == o) = false := by simpa using h3
    have f2 : (q == p) = false := by simpa using h2
    simp only [AC.absorb, f1, f2, cond_false]
theorem merge_same {p o n : Nat} {x : AC} (h : ∀ q ∈ x.refs, q ≠ p ∧ q ≠ o) : x.merge o p n = x := by
  cases x <;> try rfl
  rename_i q r
  obtain ⟨h2, h3⟩ := h q (by simp [AC.refs])
  have f1 : (q == o) = false := by simpa using h3
  have f2 : (q == p) = false := by simpa using h2
  simp only [AC.merge, f1, f2, cond_false]

theorem run_build1 (hT : TabOK P T) {t e : TypeId} (hsh : (T t).sh = .slice e) (h1 : (T e).size = 1) {v : Value} (hv : v.cells = #[v]) :
    (Instr.buildSlice t 1 #[(0, v)]).run P w = .ok (.slice (some ⟨w.heap.size, 0, none⟩) 1 1) (w.alloc (.cells #[v] e (0, 0))) := by
  have hu : P.underlying t = some (.slice e) := hT.sh hsh (by simp)
  have hTe := hT.sub hsh (by simp) (e := e) (by simp [Sh.subs])
  obtain ⟨j, z, hj, hjs, hjb, hz, hzc, hzl, hpl⟩ := hTe.info (by omega)
  have hse := hTe.sized
  rw [h1] at hse
  have hzs : z.cells.size = 1 := by have := congrArg List.length hzc; simpa [hzl, h1] using this
  have hfill : Instr.fill (fun i => some (i * 1, 1)) ((Array.range (1 * 1)).map fun k => z.cells[k % z.cells.size]!) [(0, v)] = some #[v] := by
    have e1 : ((Array.range (1 * 1)).map fun k => z.cells[k % z.cells.size]!) = #[z.cells[0]!] := by
      rw [show Array.range (1 * 1) = #[0] from rfl]
      simp [hzs]
    rw [e1]
    simp [Instr.fill, hv]
  have n2 : ¬ (1 * 1 > 2 ^ 24) := by omega
  have n3 : ¬ ((1 : Nat) * 1 = 0) := by omega
  simp only [Instr.buildSlice, Sem.run_bind, run_underlying hu, Result.andThen_ok, run_sizeOf hse, n2, n3, if_false, run_zeroValue hj hz, Sem.run_pure, hfill]
  simp [newRow]

theorem buildRows_sound (hT : TabOK P T) (h : Sim F st hs a w) {dst : Option Tmp} {t : TypeId} {q : Nat} {vq : Value} (hq : RC w (avoid F st.objs hs) hs (.sl q) vq) (hnq : st.n0 ≤ q) {K : ASt → Prop} (hk : abuildRows T st dst t q K) :
    ∃ v w', (Instr.buildSlice t 1 #[(0, vq)]).run P w = .ok v w' ∧ ∃ st' hs' av, K (st'.put dst av) ∧ Sim F st' hs' a w' ∧ RV w' (avoid F st'.objs hs') hs' av v := by
  unfold abuildRows at hk
  cases hsh : (T t).sh <;> simp only [hsh] at hk <;> try exact hk.elim
  rename_i e
  cases hshe : (T e).sh <;> simp only [hshe] at hk <;> try exact hk.elim
  rename_i e2
  cases hob : st.obj q <;> simp only [hob] at hk <;> try exact hk.elim
  rename_i ty size α z enc ys
  obtain ⟨h1, rfl, rfl, h0, hK⟩ := hk
  have ho := obj_some hob (by simp)
  have hlt : q < st.objs.length := (List.getElem?_eq_some_iff.1 ho).1
  have hrq : ORow w (avoid F st.objs hs) ty (T ty).size α z enc ys (hs q) := h.good.rel q _ ho
  obtain ⟨A, cap, esl, _⟩ := row_slice (hs := hs) hrq.row
  have hrq2 := hrq
  obtain ⟨_, vsq, hoq, _⟩ := hrq2
  obtain ⟨rfl, hsl⟩ := hq
  have hrun := run_build1 (P := P) (w := w) hT hsh h1 (v := hs q) (by rw [esl]; rfl)
  have hd : hs st.objs.length = .nilFunc := h.dead _ (Nat.le_refl _)
  have hso : setH hs st.objs.length (.tuple [Value.slice (some ⟨w.heap.size, 0, none⟩) 1 1, hs q].toArray) st.objs.length = .tuple [Value.slice (some ⟨w.heap.size, 0, none⟩) 1 1, hs q].toArray := setH_same
  refine ⟨_, _, hrun, _, setH hs st.objs.length (.tuple [Value.slice (some ⟨w.heap.size, 0, none⟩) 1 1, hs q].toArray), _, hK, ?_, ⟨[hs q], hso, rfl⟩⟩
  refine h.two (S := fun p => p ≠ q ∧ p ≠ st.objs.length) (f := AC.absorb q st.objs.length 0) (o := st.objs.length) (ob' := .ext (.rows e ty (T ty).size α z enc [ys])) rfl rfl (by simp [newObj, ASt.setObj, ASt.map]) (fun p x hx => ?_)
    ⟨rfl, rfl, rfl, by simp, fun b hb _ => (Keep.alloc (fun _ => False) w _).block b hb fun e => e⟩ (fun b hb => ?_) (fun p hp => setH_other hp.2) (fun p hp => setH_other (by omega)) (fun p hp => ?_) (fun {O'} hm hl {x v} hr => ?_) fun {O'} hm hl => ?_
  · rw [show (newObj ((st.map (AC.absorb q st.objs.length 0)).setObj q .gone) (.ext (.rows e ty (T ty).size α z enc [ys]))).objs = (st.objs.map (AObj.map (AC.absorb q st.objs.length 0))).set q .gone ++ [.ext (.rows e ty (T ty).size α z enc [ys])] from rfl] at hx
    rw [List.getElem?_append] at hx
    split at hx
    · rename_i hpl
      have hpl' : p < st.objs.length := by simpa using hpl
      rcases look_set hx with ⟨_, h2⟩ | ⟨h2, h3⟩
      · exact .inr (.inl ⟨by omega, h2⟩)
      · exact .inr (.inr ⟨by omega, ⟨h2, by omega⟩, h3⟩)
    · rename_i hpl
      have hp0 := (List.getElem?_eq_some_iff.1 hx).1
      simp at hpl hp0
      have : p = st.objs.length := by omega
      subst this
      simp at hx
      exact .inl ⟨rfl, hx.symm⟩
  · rw [hso] at hb
    obtain ⟨l2, k, v, e3, hk, hv⟩ := hb
    have e3 := tuple_inj e3
    subst e3
    match k, hk with
    | 0, hk => simp at hk; subst hk; simp [hblk] at hv; exact .inr (by omega)
    | 1, hk => simp at hk; subst hk; exact .inl ⟨q, _, fun hc => hc.1 rfl, ho, hv⟩
    | k + 2, hk => simp at hk
  · have hp' : st.objs.length + 1 ≤ p := by simpa [newObj, ASt.setObj, ASt.map] using hp
    rw [setH_other (by omega)]
    exact h.dead p (by omega)
  · refine RC.re (hs' := setH hs st.objs.length (.tuple [Value.slice (some ⟨w.heap.size, 0, none⟩) 1 1, hs q].toArray)) (S := fun p => p ≠ q ∧ p ≠ st.objs.length) (fun p hp => setH_other hp.2) (fun hr => RC.mono (by simp) hm hr) (fun x hx => absorb_same hx) (fun x v p hp hS hr => ?_) hr
    by_cases hpn : p = st.objs.length
    · subst hpn; exact (hr.not_dead hp hd).elim
    · have hpq : p = q := Classical.byContradiction fun hc => hS ⟨hc, hpn⟩
      subst hpq
      rcases hr.only_sl hp esl with rfl | ⟨s, lo, n, rfl⟩ | ⟨s, k, j, rfl⟩ | ⟨r, rfl⟩
      · simp only [AC.absorb, beq_self_eq_true, cond_true]
        obtain ⟨rfl, _⟩ := hr
        exact ⟨_, _, hso, rfl, hsl⟩
      · simp only [AC.absorb, beq_self_eq_true, cond_true]; exact trivial
      · simp only [AC.absorb, beq_self_eq_true, cond_true]
        obtain ⟨b2, n2, c2, e5, rfl⟩ := hr
        exact ⟨_, _, b2, n2, c2, hso, by rw [e5]; rfl, rfl⟩
      · have : (p == st.objs.length) = false := by simpa using hpn
        simp only [AC.absorb, this, beq_self_eq_true, cond_true, cond_false]; exact trivial
  · rw [hso]
    refine ⟨_, _, rfl, ⟨rfl, .inr ⟨w.heap.size, 1, _, rfl, Nat.zero_le _, heap_alloc_new w _, by simp, by simp [maxLen], rfl, rfl⟩⟩, hrq.1, fun k v xs hk hx => ?_, fun k k' v v' b hk hk' hv hv' => ?_⟩
    · match k, hk, hx with
      | 0, hk, hx =>
        simp at hk hx
        subst hk; subst hx
        exact hrq.imp hm fun b hb => (Keep.alloc (fun _ => False) w _).block b (ownsRow_lt hoq hb) fun e => e
      | k + 1, hk, hx => simp at hk
    · have hqb : ∀ b, hblk (hs q) = some b → b < w.heap.size := fun b hb => ownsRow_lt hoq hb
      match k, k', hk, hk' with
      | 0, 0, _, _ => rfl
      | 1, 1, _, _ => rfl
      | 0, 1, hk, hk' => simp at hk hk'; subst hk; subst hk'; simp [hblk] at hv; have := hqb b hv'; omega
      | 1, 0, hk, hk' => simp at hk hk'; subst hk; subst hk'; simp [hblk] at hv'; have := hqb b hv; omega
      | k + 2, _, hk, _ => simp at hk
      | _, k' + 2, _, hk' => simp at hk'

/-- rows behind rows: what the result is -/
theorem Rows.append {w' : World} {O O' : Nat → Prop} {ty ety : TypeId} {size : Nat} {α : Type} {z : α} {enc : α → List DV} {xss yss : List (List α)} {u u2 v : Value} {l l2 : List Value} (h1 : Rows w O ty ety size α z enc xss u l) (h2 : Rows w O ty ety size α z enc yss u2 l2)
    (hD : ∀ {d v}, RD w O d v → RD w' O' d v) (hout : w'.ownsRow 0 ty 1 v (xss.length + yss.length) (l ++ l2)) (hk1 : ∀ (k : Nat) (x : Value) (b : Nat), l[k]? = some x → hblk x = some b → w'.heap[b]? = w.heap[b]?)
    (hk2 : ∀ (k : Nat) (x : Value) (b : Nat), l2[k]? = some x → hblk x = some b → w'.heap[b]? = w.heap[b]?) (hv : ∀ b, hblk v = some b → hblk u = some b ∨ w.heap.size ≤ b)
    (hd : ∀ (i j : Nat) (x y : Value) (b : Nat), (u :: l)[i]? = some x → (u2 :: l2)[j]? = some y → hblk x = some b → hblk y = some b → False)
    (hlt : ∀ (k : Nat) (x : Value) (b : Nat), (l ++ l2)[k]? = some x → hblk x = some b → b < w.heap.size) : Rows w' O' ty ety size α z enc (xss ++ yss) v (l ++ l2) := by
  refine ⟨by rw [List.length_append]; exact hout, by simp [h1.len, h2.len], h1.sz, fun k x xs hk hx => ?_, fun j k x y b hj hk hbx hby => ?_⟩
  · rw [List.getElem?_append] at hk hx
    rw [h1.len] at hk
    by_cases hkl : k < xss.length
    · rw [if_pos hkl] at hk hx
      exact (h1.inn k x xs hk hx).imp hD fun b hb => hk1 k x b hk hb
    · rw [if_neg hkl] at hk hx
      exact (h2.inn _ x xs hk hx).imp hD fun b hb => hk2 _ x b hk hb
  · have inner : ∀ (j k : Nat) (x y : Value), (l ++ l2)[j]? = some x → (l ++ l2)[k]? = some y → hblk x = some b → hblk y = some b → j = k := fun j k x y hj hk hbx hby => by
      rw [List.getElem?_append] at hj hk
      by_cases c1 : j < l.length <;> by_cases c2 : k < l.length
      · rw [if_pos c1] at hj; rw [if_pos c2] at hk
        have := h1.apart (j + 1) (k + 1) x y b hj hk hbx hby
        omega
      · rw [if_pos c1] at hj; rw [if_neg c2] at hk
        exact (hd (j + 1) (k - l.length + 1) x y b hj hk hbx hby).elim
      · rw [if_neg c1] at hj; rw [if_pos c2] at hk
        exact (hd (k + 1) (j - l.length + 1) y x b hk hj hby hbx).elim
      · rw [if_neg c1] at hj; rw [if_neg c2] at hk
        have := h2.apart (j - l.length + 1) (k - l.length + 1) x y b hj hk hbx hby
        omega
    have outer : ∀ (k : Nat) (x : Value), (l ++ l2)[k]? = some x → hblk v = some b → hblk x = some b → False := fun k x hk hbv hbx => by
      rcases hv b hbv with h3 | h3
      · rw [List.getElem?_append] at hk
        by_cases c1 : k < l.length
        · rw [if_pos c1] at hk
          have := h1.apart 0 (k + 1) u x b rfl hk h3 hbx
          omega
        · rw [if_neg c1] at hk
          exact hd 0 (k - l.length + 1) u x b rfl hk h3 hbx
      · have := hlt k x b hk hbx
        omega
    match j, k, hj, hk with
    | 0, 0, _, _ => rfl
    | 0, k + 1, hj, hk => simp at hj; subst hj; exact (outer k y (by simpa using hk) hbx hby).elim
    | j + 1, 0, hj, hk => simp at hk; subst hk; exact (outer j x (by simpa using hj) hby hbx).elim
    | j + 1, k + 1, hj, hk => have := inner j k x y (by simpa using hj) (by simpa using hk) hbx hby; omega

theorem cast_rows {α β : Type} (hβ : β = α) {enc : α → List DV} {enc2 : β → List DV} (h : HEq enc2 enc) {w : World} {O : Nat → Prop} {ty ety : TypeId} {size : Nat} {z : α} {z2 : β} {yss : List (List β)} {u : Value} {l : List Value} (hr : Rows w O ty ety size β z2 enc2 yss u l) :
    Rows w O ty ety size α z enc (cast (congrArg (fun a => List (List a)) hβ) yss) u l := by
  subst hβ
  have := eq_of_heq h
  subst this
  exact ⟨hr.out, hr.len, hr.sz, fun i v xs hi hx => cast_enc rfl (HEq.refl _) (hr.inn i v xs hi hx), hr.apart⟩
theorem cast_len {α β : Type} (hβ : β = α) (yss : List (List β)) : (cast (congrArg (fun a => List (List a)) hβ) yss).length = yss.length := by
  subst hβ; rfl

theorem appRows_sound (hT : TabOK P T) (h : Sim F st hs a w) {dst : Option Tmp} {t ut ty : TypeId} (hu : (∃ e', P.underlying ut = some (.slice e')) ∨ P.underlying ut = some .string) {s : AC} {p : Nat} {vS vx : Value}
    (hs' : RC w (avoid F st.objs hs) hs s vS) (hx : RC w (avoid F st.objs hs) hs (.xr p .whole) vx) {K : ASt → Prop} (hk : aappRows T st dst t s p K) :
    ∃ v w', (Builtin.append_ #[t, ut] ty #[vS, vx]).run P w = .ok v w' ∧ ∃ st' hs' av, K (st'.put dst av) ∧ Sim F st' hs' a w' ∧ RV w' (avoid F st'.objs hs') hs' av v := by
  unfold aappRows at hk
  cases hsh : (T t).sh <;> simp only [hsh] at hk <;> try exact hk.elim
  rename_i e
  have ht : P.underlying t = some (.slice e) := hT.sh hsh (by simp)
  have hTe := hT.sub hsh (by simp) (e := e) (by simp [Sh.subs])
  cases hob : st.obj p <;> simp only [hob] at hk <;> try exact hk.elim
  rename_i xo
  cases xo <;> simp only at hk <;> try exact hk.elim
  rename_i ty' ety size α z enc yss
  obtain ⟨rfl, h1, hnp, hk⟩ := hk
  have hp := obj_some hob (by simp)
  obtain ⟨u2, l2, ep, hR2⟩ := rows_open h.good hob
  obtain ⟨l', e', hsl⟩ := hx
  obtain ⟨rfl, rfl⟩ := cons_inj ep e'
  obtain ⟨j, zv, hj, hjs, hjb, hz, hzc, hzl, hpl⟩ := hTe.info (by omega)
  have hzs : zv.cells.size = 1 := by have := congrArg List.length hzc; simpa [hzl, h1] using this
  rw [h1] at hjs
  obtain ⟨A2, c2, eu2, hc2, hn2, hA2⟩ := ownsRow_sl hR2.out
  have hlen : (Builtin.lenOf u2).run P w = .ok yss.length w := by rw [eu2]; rfl
  have hfirst : ∀ (w1 : World), (∀ b, b < w.heap.size → w1.heap[b]? = w.heap[b]?) → (Builtin.firstCells 1 yss.length u2).run P w1 = .ok l2.toArray w1 := fun w1 hw1 => by
    by_cases h0 : yss.length = 0
    · have hl2 : l2 = [] := List.eq_nil_of_length_eq_zero (by rw [hR2.len]; exact h0)
      subst hl2
      rw [eu2, h0]
      cases A2 <;> simp [Builtin.firstCells, loadCells, loadCellsFrom]
    · obtain ⟨b, cap, cur, e2, hb, _, _, _, hd⟩ := ownsRow_at hR2.out (by omega)
      have hbl := (Array.getElem?_eq_some_iff.1 hb).1
      have := run_loadCells_list (P := P) w1 ⟨b, 0, none⟩ l2 fun k v hv => by
        rw [Addr.add_lit, World.cell?_of_block (w := w) (hw1 b hbl), Nat.zero_add, cell_of_row w b k cur ty' (0, 0) hb]
        exact hd k v hv
      rw [hR2.len] at this
      rw [e2]
      simpa [Builtin.firstCells] using this
  have hnl : l2.length = yss.length * 1 := by rw [hR2.len, Nat.mul_one]
  have one2 : ∀ x ∈ l2, x.oneCell' = true := fun x hx => by
    obtain ⟨k, hk⟩ := List.mem_iff_getElem?.1 hx
    obtain ⟨_, hr⟩ := hR2.at hk
    obtain ⟨A, c, e3, _⟩ := row_slice (hs := hs) hr.row
    rw [e3]; rfl
  have hfp : ∀ (k : Nat) (v : Value) (b : Nat), (u2 :: l2)[k]? = some v → hblk v = some b → foot (.ext (.rows ty' ety size α z enc yss)) (hs p) b := fun k v b hk hv => ⟨_, k, v, ep, hk, hv⟩
  have hltp : ∀ (k : Nat) (v : Value) (b : Nat), (u2 :: l2)[k]? = some v → hblk v = some b → b < w.heap.size := fun k v b hk hv => (h.good.rel p _ hp).foot_lt (hfp k v b hk hv)
  cases s <;> simp only at hk <;> try exact hk.elim
  case nil =>
    obtain ⟨hb1, hb2, hK⟩ := hk
    simp only [RC] at hs'
    subst hs'
    obtain ⟨v', w', hr, ho', hg, hblk'⟩ := run_append (P := P) (ty := ty) ht hu hj hjs hjb hz hzs (by omega) (World.ownsRow_nil w 0 ty' 1) hlen hfirst hnl one2 (by simpa using hb1) (by simpa using hb2)
    obtain ⟨A, c, hv⟩ := ownsRow_slice ho'
    have hd : hs st.objs.length = .nilFunc := h.dead _ (Nat.le_refl _)
    have hlt : p < st.objs.length := (List.getElem?_eq_some_iff.1 hp).1
    have hso : setH hs st.objs.length (.tuple (v' :: l2).toArray) st.objs.length = .tuple (v' :: l2).toArray := setH_same
    have hvb : ∀ b, hblk v' = some b → w.heap.size ≤ b := fun b hb => by
      rcases hblk' b (by rw [hv, ownBlock_hblk, ← hv]; exact hb) with h1 | h1
      · simp [Value.ownBlock] at h1
      · exact h1
    have hkk : ∀ b, b < w.heap.size → w'.heap[b]? = w.heap[b]? := fun b hb => hg.block b hb (by simp [Value.ownBlock])
    refine ⟨v', w', hr, _, setH hs st.objs.length (.tuple (v' :: l2).toArray), _, hK, ?_, ⟨l2, hso, by rw [hv]; rfl⟩⟩
    refine h.two (S := fun q => q ≠ p ∧ q ≠ st.objs.length) (f := AC.merge st.objs.length p 0) (o := st.objs.length) (ob' := .ext (.rows ty' ety size α z enc yss)) rfl rfl (by simp [newObj, ASt.setObj, ASt.map]) (fun q x hx => ?_)
      ⟨hg.os, hg.tape, hg.output, hg.size, fun b hb _ => hkk b hb⟩ (fun b hb => ?_) (fun q hq => setH_other hq.2) (fun q hq => setH_other (by omega)) (fun q hq => ?_) (fun {O'} hm hl {x v} hr => ?_) fun {O'} hm hl => ?_
    · rw [show (newObj ((st.map (AC.merge st.objs.length p 0)).setObj p .gone) (.ext (.rows ty' ety size α z enc yss))).objs = (st.objs.map (AObj.map (AC.merge st.objs.length p 0))).set p .gone ++ [.ext (.rows ty' ety size α z enc yss)] from rfl] at hx
      rw [List.getElem?_append] at hx
      split at hx
      · rename_i hpl
        have hpl' : q < st.objs.length := by simpa using hpl
        rcases look_set hx with ⟨_, h2⟩ | ⟨h2, h3⟩
        · exact .inr (.inl ⟨by omega, h2⟩)
        · exact .inr (.inr ⟨by omega, ⟨h2, by omega⟩, h3⟩)
      · rename_i hpl
        have hp0 := (List.getElem?_eq_some_iff.1 hx).1
        simp at hpl hp0
        have : q = st.objs.length := by omega
        subst this
        simp at hx
        exact .inl ⟨rfl, hx.symm⟩
    · rw [hso] at hb
      obtain ⟨l3, k, v, e3, hk, hv3⟩ := hb
      have e3 := tuple_inj e3
      subst e3
      cases k with
      | zero => simp at hk; subst hk; exact .inr (hvb b hv3)
      | succ k => exact .inl ⟨p, _, fun hc => hc.1 rfl, hp, hfp (k + 1) v b (by simpa using hk) hv3⟩
    · have hq' : st.objs.length + 1 ≤ q := by simpa [newObj, ASt.setObj, ASt.map] using hq
      rw [setH_other (by omega)]
      exact h.dead q (by omega)
    · refine RC.re (hs' := setH hs st.objs.length (.tuple (v' :: l2).toArray)) (S := fun q => q ≠ p ∧ q ≠ st.objs.length) (fun q hq => setH_other hq.2) (fun hr => RC.mono hg.size hm hr) (fun x hx => merge_same hx) (fun x v q hq hS hr => ?_) hr
      by_cases hqn : q = st.objs.length
      · subst hqn; exact (hr.not_dead hq hd).elim
      · have hqp : q = p := Classical.byContradiction fun hc => hS ⟨hc, hqn⟩
        subst hqp
        obtain ⟨r, rfl⟩ := hr.only_xr hq ep
        simp only [AC.merge, beq_self_eq_true, cond_true]
        cases r <;> simp only <;> try exact trivial
        case inn k =>
          obtain ⟨u', l', e', hk, hsl'⟩ := hr
          obtain ⟨rfl, rfl⟩ := cons_inj ep e'
          exact ⟨_, _, hso, by rw [Nat.zero_add]; exact hk, hsl'⟩
        case inel k s a' j =>
          obtain ⟨u', l', b2, n2, c2, e', hk, rfl⟩ := hr
          obtain ⟨rfl, rfl⟩ := cons_inj ep e'
          exact ⟨_, _, b2, n2, c2, hso, by rw [Nat.zero_add]; exact hk, rfl⟩
    · rw [hso]
      have h0 : Rows w (avoid F st.objs hs) ty' ety size α z enc [] (.slice none 0 0) [] := ⟨World.ownsRow_nil w 0 ty' 1, rfl, hR2.sz, fun i v xs hi => by simp at hi, fun i j v v' b hi hj hv hv' => by
        cases i with
        | zero => simp at hi; subst hi; simp [hblk] at hv
        | succ i => simp at hi⟩
      obtain ⟨k1, k2, k3, k4, k5⟩ := Rows.append (w' := w') (O' := O') (v := v') h0 hR2 hm (by simpa using ho') (fun k x b hk => by simp at hk) (fun k x b hk hv => hkk b (hltp (k + 1) x b hk hv)) (fun b hb => .inr (hvb b hb))
        (fun i j x y b hi hj hv hv' => by
          cases i with
          | zero => simp at hi; subst hi; simp [hblk] at hv
          | succ i => simp at hi) (fun k x b hk hv => hltp (k + 1) x b (by simpa using hk) hv)
      exact ⟨_, _, rfl, k1, k3, k4, k5⟩
  case xr o r =>
    cases r <;> simp only at hk <;> try exact hk.elim
    cases hoo : st.obj o <;> simp only [hoo] at hk <;> try exact hk.elim
    rename_i yo
    cases yo <;> simp only at hk <;> try exact hk.elim
    rename_i ty1 ety1 size1 α1 z1 enc1 xss
    obtain ⟨hop, hno, rfl, rfl, rfl, hb1, hb2, hα, hE, hK⟩ := hk
    have ho := obj_some hoo (by simp)
    have hlo : o < st.objs.length := (List.getElem?_eq_some_iff.1 ho).1
    obtain ⟨u1, l1, eo, hR1⟩ := rows_open h.good hoo
    obtain ⟨l', e', hsl1⟩ := hs'
    obtain ⟨rfl, rfl⟩ := cons_inj eo e'
    have hR2' := cast_rows (z := z1) hα hE hR2
    have hcl := cast_len hα yss
    obtain ⟨v', w', hr, ho', hg, hblk'⟩ := run_append (P := P) (ty := ty) ht hu hj hjs hjb hz hzs (by omega) hR1.out hlen hfirst hnl one2 hb1 hb2
    obtain ⟨A, c, hv⟩ := ownsRow_slice ho'
    obtain ⟨A1, c1, eu1, _⟩ := ownsRow_sl hR1.out
    have hfo : ∀ (k : Nat) (v : Value) (b : Nat), (u1 :: l1)[k]? = some v → hblk v = some b → foot (.ext (.rows ty1 ety1 size1 α1 z1 enc1 xss)) (hs o) b := fun k v b hk hv => ⟨_, k, v, eo, hk, hv⟩
    have hlto : ∀ (k : Nat) (v : Value) (b : Nat), (u1 :: l1)[k]? = some v → hblk v = some b → b < w.heap.size := fun k v b hk hv => (h.good.rel o _ ho).foot_lt (hfo k v b hk hv)
    have hdj : ∀ (i j : Nat) (x y : Value) (b : Nat), (u1 :: l1)[i]? = some x → (u2 :: l2)[j]? = some y → hblk x = some b → hblk y = some b → False := fun i j x y b hi hj hv hv' => hop (h.good.disj o p _ _ b ho hp (hfo i x b hi hv) (hfp j y b hj hv'))
    have hvb : ∀ b, hblk v' = some b → hblk u1 = some b ∨ w.heap.size ≤ b := fun b hb => by
      rcases hblk' b (by rw [hv, ownBlock_hblk, ← hv]; exact hb) with h1 | h1
      · left; rw [eu1, ownBlock_hblk, ← eu1] at h1; exact h1
      · exact .inr h1
    have hkk : ∀ b, b < w.heap.size → hblk u1 ≠ some b → w'.heap[b]? = w.heap[b]? := fun b hb hne => hg.block b hb (by rw [eu1, ownBlock_hblk, ← eu1]; exact fun e => hne e.symm)
    have hso : setH hs o (.tuple (v' :: (l1 ++ l2)).toArray) o = .tuple (v' :: (l1 ++ l2)).toArray := setH_same
    refine ⟨v', w', hr, _, setH hs o (.tuple (v' :: (l1 ++ l2)).toArray), _, hK, ?_, ⟨_, hso, by rw [hv]; rfl⟩⟩
    refine h.two (S := fun q => q ≠ p ∧ q ≠ o) (f := AC.merge o p xss.length) (o := o) (ob' := .ext (.rows ty1 ety1 size1 α1 z1 enc1 (xss ++ cast (congrArg (fun a => List (List a)) hα) yss))) rfl rfl (by simp [ASt.setObj, ASt.map]) (fun q x hx => ?_)
      ⟨hg.os, hg.tape, hg.output, hg.size, fun b hb hn => hkk b hb fun hc => hn ⟨o, _, fun hc' => hc'.2 rfl, ho, hfo 0 u1 b rfl hc⟩⟩ (fun b hb => ?_) (fun q hq => setH_other hq.2) (fun q hq => setH_other (by omega)) (fun q hq => ?_) (fun {O'} hm hl {x v} hr => ?_) fun {O'} hm hl => ?_
    · rw [show (((st.map (AC.merge o p xss.length)).setObj p .gone).setObj o _).objs = ((st.objs.map (AObj.map (AC.merge o p xss.length))).set p .gone).set o _ from rfl] at hx
      rw [List.getElem?_set] at hx
      by_cases hq : o = q
      · subst hq
        rw [if_pos rfl] at hx
        split at hx
        · cases hx; exact .inl ⟨rfl, rfl⟩
        · cases hx
      · rw [if_neg hq] at hx
        rcases look_set hx with ⟨_, h2⟩ | ⟨h2, h3⟩
        · exact .inr (.inl ⟨fun ex => hq ex.symm, h2⟩)
        · exact .inr (.inr ⟨fun ex => hq ex.symm, ⟨h2, fun ex => hq ex.symm⟩, h3⟩)
    · rw [hso] at hb
      obtain ⟨l3, k, v, e3, hk, hv3⟩ := hb
      have e3 := tuple_inj e3
      subst e3
      cases k with
      | zero =>
        simp at hk; subst hk
        rcases hvb b hv3 with h3 | h3
        · exact .inl ⟨o, _, fun hc => hc.2 rfl, ho, hfo 0 u1 b rfl h3⟩
        · exact .inr h3
      | succ k =>
        simp only [List.getElem?_cons_succ] at hk
        rw [List.getElem?_append] at hk
        by_cases c1 : k < l1.length
        · rw [if_pos c1] at hk; exact .inl ⟨o, _, fun hc => hc.2 rfl, ho, hfo (k + 1) v b hk hv3⟩
        · rw [if_neg c1] at hk; exact .inl ⟨p, _, fun hc => hc.1 rfl, hp, hfp (k - l1.length + 1) v b hk hv3⟩
    · have hq' : st.objs.length ≤ q := by simpa [ASt.setObj, ASt.map] using hq
      rw [setH_other (by omega)]
      exact h.dead q hq'
    · refine RC.re (hs' := setH hs o (.tuple (v' :: (l1 ++ l2)).toArray)) (S := fun q => q ≠ p ∧ q ≠ o) (fun q hq => setH_other hq.2) (fun hr => RC.mono hg.size hm hr) (fun x hx => merge_same hx) (fun x v q hq hS hr => ?_) hr
      by_cases hqo : q = o
      · subst hqo
        obtain ⟨r, rfl⟩ := hr.only_xr hq eo
        have e5 : (q == p) = false := by simpa using hop
        simp only [AC.merge, e5, beq_self_eq_true, cond_true, cond_false]
        cases r <;> simp only <;> try exact trivial
        case inn k =>
          obtain ⟨u', l', e', hk, hsl'⟩ := hr
          obtain ⟨rfl, rfl⟩ := cons_inj eo e'
          exact ⟨_, _, hso, by rw [List.getElem?_append, if_pos (List.getElem?_eq_some_iff.1 hk).1]; exact hk, hsl'⟩
        case inel k s a' j =>
          obtain ⟨u', l', b2, n2, c2, e', hk, rfl⟩ := hr
          obtain ⟨rfl, rfl⟩ := cons_inj eo e'
          exact ⟨_, _, b2, n2, c2, hso, by rw [List.getElem?_append, if_pos (List.getElem?_eq_some_iff.1 hk).1]; exact hk, rfl⟩
      · have hqp : q = p := Classical.byContradiction fun hc => hS ⟨hc, hqo⟩
        subst hqp
        obtain ⟨r, rfl⟩ := hr.only_xr hq ep
        simp only [AC.merge, beq_self_eq_true, cond_true]
        cases r <;> simp only <;> try exact trivial
        case inn k =>
          obtain ⟨u', l', e', hk, hsl'⟩ := hr
          obtain ⟨rfl, rfl⟩ := cons_inj ep e'
          exact ⟨_, _, hso, by rw [← hR1.len, List.getElem?_append, if_neg (by omega), Nat.add_sub_cancel_left]; exact hk, hsl'⟩
        case inel k s a' j =>
          obtain ⟨u', l', b2, n2, c2, e', hk, rfl⟩ := hr
          obtain ⟨rfl, rfl⟩ := cons_inj ep e'
          exact ⟨_, _, b2, n2, c2, hso, by rw [← hR1.len, List.getElem?_append, if_neg (by omega), Nat.add_sub_cancel_left]; exact hk, rfl⟩
    · rw [hso]
      obtain ⟨k1, k2, k3, k4, k5⟩ := Rows.append (w' := w') (O' := O') (v := v') hR1 hR2' hm (by rw [hcl]; exact ho')
        (fun k x b hk hv => hkk b (hlto (k + 1) x b hk hv) fun hc => by have := hR1.apart 0 (k + 1) u1 x b rfl hk hc hv; omega)
        (fun k x b hk hv => hkk b (hltp (k + 1) x b hk hv) fun hc => hdj 0 (k + 1) u1 x b rfl hk hc hv) hvb hdj (fun k x b hk hv => by
          rw [List.getElem?_append] at hk
          by_cases c1 : k < l1.length
          · rw [if_pos c1] at hk; exact hlto (k + 1) x b hk hv
          · rw [if_neg c1] at hk; exact hltp (k - l1.length + 1) x b hk hv)
      exact ⟨_, _, rfl, k1, k3, k4, k5⟩
theorem zeroCells_made (z : Array Value) (n : Nat) : Builtin.zeroCells z n = madeCells z (n * z.size) := rfl
theorem zeros_sound (hT : TabOK P T) (h : Sim F st hs a w) {dst : Option Tmp} {t u ty : TypeId} {s x : AC} {vs vx : Value} (hu : ∃ k, P.underlying u = some (.int k)) (hs0 : RC w (avoid F st.objs hs) hs s vs) (hx : RC w (avoid F st.objs hs) hs x vx)
    {K : ASt → Prop} (hk : aappZeros T st dst t s x K) :
    ∃ v w', (Builtin.append_ #[t, u] ty #[vs, vx]).run P w = .ok v w' ∧ ∃ st' hs' av, K (st'.put dst av) ∧ Sim F st' hs' a w' ∧ RV w' (avoid F st'.objs hs') hs' av v := by
  unfold aappZeros at hk
  cases hsh : (T t).sh <;> simp only [hsh] at hk <;> try exact hk.elim
  rename_i e
  cases s <;> simp only at hk <;> try exact hk.elim
  cases x <;> simp only at hk <;> try exact hk.elim
  rename_i kx n
  cases hE : (T e).enc with
  | none => rw [hE] at hk; exact hk.elim
  | some E =>
    simp only [hE] at hk
    obtain ⟨hz0, h0, h1, h2, hK⟩ := hk
    simp only [RC] at hs0 hx
    subst hs0; subst hx
    have ht : P.underlying t = some (.slice e) := hT.sh hsh (by simp)
    have hTe := hT.sub hsh (by simp) (e := e) (by simp [Sh.subs])
    obtain ⟨hEl, _⟩ := hTe.enc E hE
    obtain ⟨j, z, hj, hjs, hjb, hz, hzc, hzl, hpl⟩ := hTe.info hz0
    have hzs : z.cells.size = (T e).size := by have := congrArg List.length hzc; simpa [hzl] using this
    obtain ⟨m, rfl⟩ : ∃ m : Nat, n = m := ⟨n.toNat, by omega⟩
    have hm0 : 0 < m := by omega
    have hmb : m * j.bytes ≤ 140737488355328 := by
      rw [hjb]
      have h1' : ((m * (T e).bytes : Nat) : Int) ≤ 140737488355328 := by rw [Int.natCast_mul]; exact h1
      omega
    have hfit : Builtin.nextslicecap m 0 * j.bytes ≤ 281474976710656 := growslice_fits (need := m) (old := 0) (bytes := j.bytes) hm0 hmb
    have hge := grownCap_ge w m 0 e
    have hcm : grownCap w m 0 e ≤ maxLen := grownCap_le_maxLen w m 0 e (by simp only [maxLen]; omega)
    have hwr : IntKind.i64.wrap (m : Int) = m := by rw [IntKind.wrap_i64]; omega
    have hr : (Builtin.append_ #[t, u] ty #[.slice none 0 0, .int kx m]).run P w = .ok (.slice (some ⟨w.heap.size, 0, none⟩) m (grownCap w m 0 e))
        (w.drew.alloc (.cells (Builtin.zeroCells z.cells m ++ Builtin.zeroCells z.cells (grownCap w m 0 e - m)) e)) := by
      obtain ⟨k, hu⟩ := hu
      have n1 : ¬ ((m : Int) < 0) := by omega
      have n2 : ¬ (281474976710656 < (m : Int) * (j.bytes : Int)) := by
        intro h
        rw [← Int.natCast_mul] at h
        omega
      have n3 : ¬ (m = 0) := by omega
      have n4 : ¬ (9223372036854775807 < (m : Int)) := by omega
      have n5 : ¬ (281474976710656 < Builtin.nextslicecap m 0 * j.bytes) := by omega
      have n6 : ¬ (m * j.size = 0) := by
        intro h
        rcases Nat.mul_eq_zero.1 h with h | h <;> omega
      simp [Builtin.append_, run_underlying ht, run_underlying hu, sizeOf, typeInfo, zeroValue, hj, hz, asInt, asIntOf, hwr, n1, n2, n3, n4, n5, n6, Question.forced, Builtin.firstCells, newRow, grownCap]
    obtain ⟨hS, hV⟩ := h.new (ob := .row e (T e).size E.α E.z E.enc (List.replicate m E.z)) (u := .slice (some ⟨w.heap.size, 0, none⟩) m (grownCap w m 0 e))
      (w' := w.drew.alloc (.cells (Builtin.zeroCells z.cells m ++ Builtin.zeroCells z.cells (grownCap w m 0 e - m)) e)) ((Keep.drew _ w).trans (Keep.alloc _ w.drew _) fun b _ h => h) (fun b hb => by simp [foot, hblk] at hb; omega) fun hcc hdd => by
        refine ⟨hEl, (Builtin.zeroCells z.cells m).toList, ⟨?_, .inr ⟨w.heap.size, grownCap w m 0 e, _, by simp, Nat.zero_le _, heap_alloc_new w.drew _, by simp; omega, hcm, ?_, ?_⟩⟩, fun i k d hi hk => ?_⟩
        · simp [size_zeroCells, hzs]
        · simp only [Array.size_append, size_zeroCells, hzs, ← Nat.add_mul]
          congr 1
          omega
        · rw [Array.toList_append, List.length_replicate]
          have : m * (T e).size = (Builtin.zeroCells z.cells m).toList.length := by simp [size_zeroCells, hzs]
          rw [this]
          exact List.take_left
        · simp only [List.length_replicate] at hi
          have e1 : (List.replicate m E.z).getD i E.z = E.z := by simp [List.getD, hi]
          rw [e1] at hk
          have hk' : k < (T e).size := by rw [← hEl E.z]; exact (List.getElem?_eq_some_iff.1 hk).1
          have hlt : i * (T e).size + k < m * (T e).size := by
            calc i * (T e).size + k < i * (T e).size + (T e).size := by omega
              _ = (i + 1) * (T e).size := by rw [Nat.add_mul, Nat.one_mul]
              _ ≤ m * (T e).size := Nat.mul_le_mul_right _ hi
          obtain ⟨v, hv, hrd⟩ := zero_RD (w := w) (O := avoid F st.objs hs) hTe hE hzc hpl k d hk
          refine ⟨v, ?_, hdd hrd⟩
          have hmod : (i * (T e).size + k) % z.cells.size = k := by rw [hzs, Nat.mul_comm, Nat.mul_add_mod, Nat.mod_eq_of_lt hk']
          have hkz : k < z.cells.size := by omega
          have hv' : z.cells[k] = v := by
            have : z.cells.toList[k]? = some v := hv
            rw [Array.getElem?_toList, Array.getElem?_eq_getElem hkz] at this
            exact Option.some.inj this
          have hlt2 : i * (T e).size + k < m * z.cells.size := by rw [hzs]; exact hlt
          rw [zeroCells_made]
          simp [madeCells, hlt2, hmod, hkz, hv']
    have ez : zeros (m : Int).toNat E.z = List.replicate m E.z := rfl
    rw [ez] at hK
    exact ⟨_, _, hr, _, _, _, hK, hS, by simp [setH], by simp [setH, isSl]⟩
end
end Go.Vc
