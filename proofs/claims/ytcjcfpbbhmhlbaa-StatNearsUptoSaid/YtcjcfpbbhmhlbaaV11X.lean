/- Rows of own rows, and maps: what their operations do. -/
import Derived.Test.YtcjcfpbbhmhlbaaV11
set_option linter.unusedVariables false
set_option linter.unusedSimpArgs false
namespace Go.Vc
section
variable {P : Program} {T : Tab} {F : Fr} {st : ASt} {hs : Nat → Value} {a : Act} {w : World}

/-- an element of an own row is written: what the row then is -/
theorem ORow.store {O : Nat → Prop} {ty : TypeId} {size : Nat} {α : Type} {z : α} {enc : α → List DV} {xs : List α} {b m cap i j : Nat} {ds : List DV} {y : α} {news : List Value}
    (hro : ORow w O ty size α z enc xs (.slice (some ⟨b, 0, none⟩) m cap)) (hi : i < xs.length) (hfit : j + ds.length ≤ size) (hy : leD (splice (enc (xs.getD i z)) j ds) (enc y)) (hnl : news.length = ds.length)
    (hdr : ∀ (k : Nat) (d : DV) (v : Value), ds[k]? = some d → news[k]? = some v → RD w O d v) :
    ∃ cur, w.heap[b]? = some (.cells cur ty (0, 0)) ∧ i * size + j + news.length ≤ cur.size ∧
      ∀ {O' : Nat → Prop}, (∀ {d v}, RD w O d v → RD (w.setRow b (splice cur.toList (i * size + j) news).toArray) O' d v) →
        ORow (w.setRow b (splice cur.toList (i * size + j) news).toArray) O' ty size α z enc (xs.set i y) (.slice (some ⟨b, 0, none⟩) m cap) := by
  obtain ⟨b', cap', cur, e2, hb, g1, g2, g3, hd⟩ := row_handle (hs := fun _ => .nilFunc) hro.row (by omega)
  simp only [Value.slice.injEq, Option.some.injEq, Addr.mk.injEq, and_true] at e2
  obtain ⟨rfl, rfl, rfl⟩ := e2
  have hrow : i * size + size ≤ cur.size := by
    rw [g3]
    calc i * size + size = (i + 1) * size := by rw [Nat.add_mul, Nat.one_mul]
      _ ≤ cap * size := Nat.mul_le_mul_right _ (by omega)
  have hsp : i * size + j + news.length ≤ cur.toList.length := by simp; omega
  have hlen : (enc (xs.getD i z)).length = size := hro.1 _
  refine ⟨cur, hb, by omega, fun {O'} hdd => ?_⟩
  refine ⟨hro.1, (splice cur.toList (i * size + j) news).take (xs.length * size), ⟨?_, .inr ⟨b, cap, _, by simp, Nat.zero_le _, setRow_heap w b cur _ ty (0, 0) hb, by simpa using g1, g2, ?_, ?_⟩⟩, fun i' k d hi' hk => ?_⟩
  · rw [List.length_take, splice_len hsp]
    simp only [List.length_set, Array.length_toList, g3]
    exact Nat.min_eq_left (Nat.mul_le_mul_right _ g1)
  · rw [List.size_toArray, splice_len hsp]; simpa using g3
  · simp
  · simp only [List.length_set] at hi'
    have hk' : k < size := by rw [← hro.1 ((xs.set i y).getD i' z)]; exact (List.getElem?_eq_some_iff.1 hk).1
    have hlt : i' * size + k < xs.length * size := by
      calc i' * size + k < i' * size + size := by omega
        _ = (i' + 1) * size := by rw [Nat.add_mul, Nat.one_mul]
        _ ≤ xs.length * size := Nat.mul_le_mul_right _ (by omega)
    rw [List.getElem?_take, if_pos hlt, splice_get hsp]
    by_cases hii : i = i'
    · subst hii
      rw [getD_set_eq hi'] at hk
      obtain ⟨hle, hlg⟩ := leD_get hy
      obtain ⟨d0, hd0, hl1⟩ := hlg k d hk
      rw [splice_get (by rw [hlen]; exact hfit)] at hd0
      by_cases c1 : k < j
      · rw [if_pos c1] at hd0
        rw [if_pos (by omega)]
        obtain ⟨cv, h2, h3⟩ := hd i k d0 hi' hd0
        exact ⟨cv, by simpa using h2, hdd (leD1_RD hl1 h3)⟩
      · by_cases c2 : k < j + ds.length
        · rw [if_neg c1, if_pos c2] at hd0
          have hkv : k - j < news.length := by omega
          rw [if_neg (by omega), if_pos (by omega)]
          have e5 : i * size + k - (i * size + j) = k - j := by omega
          rw [e5, List.getElem?_eq_getElem hkv]
          exact ⟨_, rfl, hdd (leD1_RD hl1 (hdr (k - j) d0 _ hd0 (List.getElem?_eq_getElem hkv)))⟩
        · rw [if_neg c1, if_neg c2] at hd0
          rw [if_neg (by omega), if_neg (by omega)]
          obtain ⟨cv, h2, h3⟩ := hd i k d0 hi' hd0
          exact ⟨cv, by simpa using h2, hdd (leD1_RD hl1 h3)⟩
    · rw [getD_set_ne hii] at hk
      obtain ⟨cv, h2, h3⟩ := hd i' k d hi' hk
      have hout : i' * size + k < i * size + j ∨ i * size + j + news.length ≤ i' * size + k := by
        rcases Nat.lt_or_gt_of_ne hii with hlt' | hgt
        · right
          have : (i + 1) * size ≤ i' * size := Nat.mul_le_mul_right _ hlt'
          rw [Nat.add_mul, Nat.one_mul] at this
          omega
        · left
          have : (i' + 1) * size ≤ i * size := Nat.mul_le_mul_right _ hgt
          rw [Nat.add_mul, Nat.one_mul] at this
          omega
      refine ⟨cv, ?_, hdd h3⟩
      rcases hout with c | c
      · rw [if_pos c]; simpa using h2
      · rw [if_neg (by omega), if_neg (by omega)]; simpa using h2

theorem dvs_fits : ∀ (cs : List AC) (ds : List DV), dvs cs = some ds → (cs.all AC.fits) = true := by
  intro cs
  induction cs with
  | nil => intro ds _; rfl
  | cons c cs ih =>
    intro ds hd
    simp only [dvs] at hd
    cases hc : c.dv with
    | none => rw [hc] at hd; cases hd
    | some d =>
      cases hcs : dvs cs with
      | none => rw [hc, hcs] at hd; cases hd
      | some ds' =>
        rw [List.all_cons, ih ds' hcs, Bool.and_true]
        cases c <;> simp only [AC.dv] at hc <;> first | rfl | cases hc

theorem Rows.foot {O : Nat → Prop} {ty ety : TypeId} {size : Nat} {α : Type} {z : α} {enc : α → List DV} {xss : List (List α)} {u : Value} {l : List Value} {h : Value} (e : h = .tuple (u :: l).toArray) {i : Nat} {v : Value} {b : Nat} (hi : (u :: l)[i]? = some v) (hv : hblk v = some b) :
    Vc.foot (.ext (.rows ty ety size α z enc xss)) h b := ⟨u :: l, i, v, e, hi, hv⟩
theorem getD_set_eq' {β : Type} {xs : List (List β)} {i : Nat} {y : List β} (h : i < xs.length) : (xs.set i y).getD i [] = y := getD_set_eq h

theorem xstore_sound (hT : TabOK P T) (h : Sim F st hs a w) {t : TypeId} {o i s k j : Nat} {V : AV} {vA vV : Value} (hA : RC w (avoid F st.objs hs) hs (.xr o (.inel i s k j)) vA) (hV : RV w (avoid F st.objs hs) hs V vV)
    (hn : V.need true) (ht : V.isTup = false) (h0 : ¬ (T t).size = 0) {K : ASt → Prop} (hk : xstore T st t o i s k j V K) :
    ∃ w' st', (Instr.storeAt t vA vV).run P w = .ok () w' ∧ K st' ∧ Sim F st' hs a w' := by
  have hTt := hT.of (t := t) fun e => h0 (hT.none e)
  unfold xstore at hk
  cases hob : st.obj o <;> simp only [hob] at hk <;> try exact hk.elim
  rename_i xo
  cases xo <;> simp only at hk <;> try exact hk.elim
  rename_i ty ety size α z enc xss
  cases hds : dvs V.cells with
  | none => rw [hds] at hk; exact hk.elim
  | some ds =>
    simp only [hds] at hk
    obtain ⟨hl, rfl, hi, hk', hfit, y, hy, hK⟩ := hk
    obtain ⟨hc, h1⟩ := hV.cells hn ht (dvs_fits _ _ hds)
    have ho := obj_some hob (by simp)
    obtain ⟨u, l, e, hR⟩ := rows_open h.good hob
    obtain ⟨u', l', b, n, c, e', hli, rfl⟩ := hA
    obtain ⟨rfl, rfl⟩ := cons_inj e e'
    obtain ⟨_, hro⟩ := hR.at hli
    have hvl : vV.cells.size = V.cells.length := by have := hc.1; simpa using this
    obtain ⟨hdl, hdr⟩ := dvs_RD hds hc
    have hdl' : ds.length = V.cells.length := by rw [hdl]; simp [hvl]
    obtain ⟨cur, hb, hsz, hnew⟩ := ORow.store (news := vV.cells.toList) hro hk' (by rw [hdl']; exact hfit) hy hdl.symm hdr
    refine ⟨_, _, run_storeAt hTt.sized hb (by rw [hvl, hl]) (by simpa using hsz) h1, hK, ?_⟩
    have hfb : Vc.foot (.ext (.rows ty ety s α z enc xss)) (hs o) b := ⟨u :: l, i + 1, _, e, hli, rfl⟩
    refine h.write ho (ob' := .ext (.rows ty ety s α z enc (xss.set i ((xss.getD i []).set k y)))) (b := b) hfb (fun _ => Iff.rfl) (setRow_keep b _) fun hcc hdd => ?_
    have hblkne : ∀ (q : Nat) (v : Value) (b' : Nat), (u :: l)[q]? = some v → hblk v = some b' → q ≠ i + 1 → b' ≠ b := fun q v b' hq hv hne eb => by
      subst eb
      exact hne (hR.apart q (i + 1) v _ b' hq hli hv rfl)
    have hkeep : ∀ b', b' ≠ b → (w.setRow b (splice cur.toList (k * s + j) vV.cells.toList).toArray).heap[b']? = w.heap[b']? := fun b' hne => setRow_other w b b' _ hne
    refine ⟨u, l, e, ?_, hR.sz, fun q v xs hq hx => ?_, hR.apart⟩
    · rw [List.length_set]
      exact ownsRow_block hR.out fun b' hb' => hkeep b' (hblkne 0 u b' rfl hb' (by omega))
    · by_cases hqi : i = q
      · subst hqi
        rw [hli] at hq
        cases hq
        rw [List.getElem?_set_self hi] at hx
        cases hx
        exact hnew hdd
      · rw [List.getElem?_set_ne hqi] at hx
        exact (hR.inn q v xs hq hx).imp hdd fun b' hb' => hkeep b' (hblkne (q + 1) v b' hq hb' (by omega))

/-! ### Objects are told anew, two of them at once -/
theorem Sim.two (h : Sim F st hs a w) {S : Nat → Prop} {st' : ASt} {hs' : Nat → Value} {w' : World} {f : AC → AC} {o : Nat} {ob' : AObj}
    (e1 : st'.slots = st.slots.map (AV.map f)) (e2 : st'.n0 = st.n0) (e3 : st.objs.length ≤ st'.objs.length)
    (look : ∀ (q : Nat) (x : AObj), st'.objs[q]? = some x → (q = o ∧ x = ob') ∨ (q ≠ o ∧ x = .gone) ∨ (q ≠ o ∧ S q ∧ ∃ y, st.objs[q]? = some y ∧ x = y.map f))
    (hk : Keep (fun b => ∃ q y, ¬ S q ∧ st.objs[q]? = some y ∧ foot y (hs q) b) w w')
    (hfoot : ∀ b, foot ob' (hs' o) b → (∃ q y, ¬ S q ∧ st.objs[q]? = some y ∧ foot y (hs q) b) ∨ w.heap.size ≤ b)
    (hh : ∀ q, S q → hs' q = hs q) (hfix : ∀ q, q < st.n0 → hs' q = hs q) (hdead : ∀ q, st'.objs.length ≤ q → hs' q = .nilFunc)
    (hC : ∀ {O'}, (∀ b, b < w.heap.size → ¬ avoid F st.objs hs b → w'.heap[b]? = w.heap[b]? ∧ ¬ O' b) → (∀ b, (∃ q y, ¬ S q ∧ st.objs[q]? = some y ∧ foot y (hs q) b) → ¬ foot ob' (hs' o) b → ¬ O' b) →
      ∀ {x v}, RC w (avoid F st.objs hs) hs x v → RC w' O' hs' (f x) v)
    (hro : ∀ {O'}, (∀ {d v}, RD w (avoid F st.objs hs) d v → RD w' O' d v) → (∀ b, (∃ q y, ¬ S q ∧ st.objs[q]? = some y ∧ foot y (hs q) b) → ¬ foot ob' (hs' o) b → ¬ O' b) → RO w' O' hs' ob' (hs' o)) : Sim F st' hs' a w' := by
  have haff : ∀ b, (∃ q y, ¬ S q ∧ st.objs[q]? = some y ∧ foot y (hs q) b) → own st.objs hs b := fun b ⟨q, y, _, hq, hf⟩ => ⟨q, y, hq, hf⟩
  have hown : ∀ b, own st'.objs hs' b → (own st.objs hs b ∧ ¬ ∃ q y, ¬ S q ∧ st.objs[q]? = some y ∧ foot y (hs q) b) ∨ foot ob' (hs' o) b := fun b ⟨q, x, hx, hb⟩ => by
    rcases look q x hx with ⟨rfl, rfl⟩ | ⟨_, rfl⟩ | ⟨_, hSq, y, hy, rfl⟩
    · exact .inr hb
    · exact hb.elim
    · rw [hh q hSq] at hb
      have hb' := foot_map.1 hb
      refine .inl ⟨⟨q, y, hy, hb'⟩, fun ⟨q', y', hS', hy', hf'⟩ => ?_⟩
      have := h.good.disj q q' y y' b hy hy' hb' hf'
      subst this
      exact hS' hSq
  have hm : ∀ b, b < w.heap.size → ¬ avoid F st.objs hs b → w'.heap[b]? = w.heap[b]? ∧ ¬ avoid F st'.objs hs' b := fun b hb hO => by
    refine ⟨hk.block b hb fun hc => hO (.inl (haff b hc)), fun hA => ?_⟩
    rcases hA with hA | hX
    · rcases hown b hA with ⟨h1, _⟩ | h1
      · exact hO (.inl h1)
      · rcases hfoot b h1 with h2 | h2
        · exact hO (.inl (haff b h2))
        · omega
    · exact hO (.inr hX)
  have hlose : ∀ b, (∃ q y, ¬ S q ∧ st.objs[q]? = some y ∧ foot y (hs q) b) → ¬ foot ob' (hs' o) b → ¬ avoid F st'.objs hs' b := fun b hb hb' hA => by
    rcases hA with hA | hX
    · rcases hown b hA with ⟨_, h1⟩ | h1
      · exact h1 hb
      · exact hb' h1
    · have := h.fx b hX
      rcases h.ownb b (haff b hb) with h1 | h1
      · exact this.2 h1
      · omega
  have hc := fun {x v} => hC hm hlose (x := x) (v := v)
  have hrd : ∀ {d v}, RD w (avoid F st.objs hs) d v → RD w' (avoid F st'.objs hs') d v := fun hr => RD.mono hk.size hm hr
  refine ⟨by rw [e1]; simpa using h.len, fun i av v h1 h2 => ?_, ⟨fun q x hx => ?_, fun p q x y c hx hy h1 h2 => ?_⟩, h.defers, ?_, fun b hb => ?_, fun q hq => ?_, h.fx, hdead, ?_⟩
  · rw [e1, List.getElem?_map] at h1
    cases hs1 : st.slots[i]? with
    | none => rw [hs1] at h1; cases h1
    | some y => rw [hs1] at h1; cases h1; exact (h.slots i y v hs1 h2).map hc
  · rcases look q x hx with ⟨rfl, rfl⟩ | ⟨_, rfl⟩ | ⟨_, hSq, y, hy, rfl⟩
    · exact hro hrd hlose
    · exact trivial
    · rw [hh q hSq]
      have hr := h.good.rel q y hy
      have hblk' : ∀ b, foot y (hs q) b → w'.heap[b]? = w.heap[b]? := fun b hb => hk.block b (hr.foot_lt hb) fun ⟨q', y', hS', hy', hf'⟩ => by
        have := h.good.disj q q' y y' b hy hy' hb hf'
        subst this
        exact hS' hSq
      cases y with
      | ext x => exact XObj.imp hc hrd hblk' hr
      | gone => exact trivial
      | cells ty cs =>
        obtain ⟨b, vals, e, hb, hcs⟩ := hr
        exact ⟨b, vals, e, by rw [hblk' b (by simp [foot, hblk, e])]; exact hb, hcs.map hc⟩
      | row ty size α z enc xs => exact ORow.imp hrd hblk' hr
  · rcases look p x hx with ⟨rfl, rfl⟩ | ⟨_, rfl⟩ | ⟨hp, hSp, x', hx', rfl⟩ <;> rcases look q y hy with ⟨rfl, rfl⟩ | ⟨_, rfl⟩ | ⟨hq, hSq, y', hy', rfl⟩ <;> try (first | rfl | exact h1.elim | exact h2.elim)
    · rw [hh q hSq] at h2
      have h2' := foot_map.1 h2
      rcases hfoot c h1 with ⟨q', z', hS', hz', hf'⟩ | h3
      · have := h.good.disj q q' y' z' c hy' hz' h2' hf'
        subst this
        exact absurd hSq hS'
      · have := (h.good.rel q y' hy').foot_lt h2'
        omega
    · rw [hh p hSp] at h1
      have h1' := foot_map.1 h1
      rcases hfoot c h2 with ⟨q', z', hS', hz', hf'⟩ | h3
      · have := h.good.disj p q' x' z' c hx' hz' h1' hf'
        subst this
        exact absurd hSp hS'
      · have := (h.good.rel p x' hx').foot_lt h1'
        omega
    · rw [hh p hSp] at h1
      rw [hh q hSq] at h2
      exact h.good.disj p q x' y' c hx' hy' (foot_map.1 h1) (foot_map.1 h2)
  · exact h.keep.trans hk fun b hb hL hc' => (h.ownb b (haff b hc')).elim hL fun hb' => by omega
  · rcases hown b hb with ⟨h1, _⟩ | h1
    · exact h.ownb b h1
    · rcases hfoot b h1 with h2 | h2
      · exact h.ownb b (haff b h2)
      · exact .inr (Nat.le_trans h.keep.size h2)
  · rw [hfix q (by rw [← e2]; exact hq)]; exact h.fix q (by rw [← e2]; exact hq)
  · rw [e2]; exact Nat.le_trans h.n0le e3

/-- references that do not lead to what is told anew stay -/
theorem RC.re {w' : World} {O O' : Nat → Prop} {hs' : Nat → Value} {S : Nat → Prop} {f : AC → AC} (hh : ∀ q, S q → hs' q = hs q) (hm : ∀ {x v}, RC w O hs x v → RC w' O' hs x v)
    (hf : ∀ x, (∀ q ∈ x.refs, S q) → f x = x) (hspec : ∀ x v q, q ∈ x.refs → ¬ S q → RC w O hs x v → RC w' O' hs' (f x) v) {x : AC} {v : Value} (h : RC w O hs x v) : RC w' O' hs' (f x) v := by
  by_cases hx : ∀ q ∈ x.refs, S q
  · rw [hf x hx]
    exact (hm h).handles fun o ho => hh o (hx o ho)
  · have : ∃ q, q ∈ x.refs ∧ ¬ S q := by
      apply Classical.byContradiction
      intro hc
      exact hx fun q hq => Classical.byContradiction fun hS => hc ⟨q, hq, hS⟩
    obtain ⟨q, hq, hS⟩ := this
    exact hspec x v q hq hS h
/-- a handle that is a tuple is led to by further references alone -/
theorem RC.only_xr {O : Nat → Prop} {x : AC} {v : Value} {q : Nat} {l : Array Value} (h : RC w O hs x v) (hq : q ∈ x.refs) (e : hs q = .tuple l) : ∃ r, x = .xr q r := by
  cases x <;> simp only [AC.refs, List.mem_singleton, List.not_mem_nil] at hq <;> try (first | exact hq.elim | cases hq; done)
  case ptr o j => subst hq; obtain ⟨b, e1, _⟩ := h; rw [e] at e1; cases e1
  case sl o => subst hq; obtain ⟨_, e1⟩ := h; rw [e] at e1; cases e1
  case sub o s lo n =>
    subst hq
    rcases h with ⟨_, _, _, _, _, _, e1, _⟩ | ⟨_, b, m, cap, c, e1, _⟩ <;> rw [e] at e1 <;> cases e1
  case el o s i j => subst hq; obtain ⟨b, m, cap, e1, _⟩ := h; rw [e] at e1; cases e1
  case xr o r => subst hq; exact ⟨r, rfl⟩
  case fn f caps =>
    obtain ⟨arr, _, hl, hc⟩ := h
    obtain ⟨p, hp, rfl⟩ := List.mem_map.1 hq
    obtain ⟨i, hi⟩ := List.mem_iff_getElem?.1 hp
    obtain ⟨b, e1, _⟩ := hc i p hi
    rw [e] at e1; cases e1
/-- a slice's handle is led to by these references -/
theorem RC.only_sl {O : Nat → Prop} {x : AC} {v : Value} {q : Nat} {A : Option Addr} {n c : Nat} (h : RC w O hs x v) (hq : q ∈ x.refs) (e : hs q = .slice A n c) : x = .sl q ∨ (∃ s lo n, x = .sub q s lo n) ∨ (∃ s i j, x = .el q s i j) ∨ ∃ r, x = .xr q r := by
  cases x <;> simp only [AC.refs, List.mem_singleton, List.not_mem_nil] at hq <;> try (first | exact hq.elim | cases hq; done)
  case ptr o j => subst hq; obtain ⟨b, e1, _⟩ := h; rw [e] at e1; cases e1
  case sl o => subst hq; exact .inl rfl
  case sub o s lo n => subst hq; exact .inr (.inl ⟨_, _, _, rfl⟩)
  case el o s i j => subst hq; exact .inr (.inr (.inl ⟨_, _, _, rfl⟩))
  case xr o r => subst hq; exact .inr (.inr (.inr ⟨r, rfl⟩))
  case fn f caps =>
    obtain ⟨arr, _, hl, hc⟩ := h
    obtain ⟨p, hp, rfl⟩ := List.mem_map.1 hq
    obtain ⟨i, hi⟩ := List.mem_iff_getElem?.1 hp
    obtain ⟨b, e1, _⟩ := hc i p hi
    rw [e] at e1; cases e1
end
end Go.Vc
