/- States whose references are told anew: a row that becomes data, a row that grows. -/
import Derived.Test.YtcjcfpbbhmhlbaaV6
set_option linter.unusedVariables false
set_option linter.unusedSimpArgs false
namespace Go.Vc
section
variable {P : Program} {T : Tab} {F : Fr} {st : ASt} {hs : Nat → Value} {a : Act} {w : World}

theorem RCs.map {w' : World} {O O' : Nat → Prop} {hs' : Nat → Value} {f : AC → AC} (hf : ∀ {x v}, RC w O hs x v → RC w' O' hs' (f x) v) {cs : List AC} {vs : List Value} (h : RCs w O hs cs vs) : RCs w' O' hs' (cs.map f) vs :=
  ⟨by simp [h.1], fun i x v hx hv => by
    rw [List.getElem?_map] at hx
    cases hc : cs[i]? with
    | none => rw [hc] at hx; cases hx
    | some c =>
      rw [hc] at hx
      simp only [Option.map_some, Option.some.injEq] at hx
      subst hx
      exact hf (h.2 i c v hc hv)⟩
theorem RV.map {w' : World} {O O' : Nat → Prop} {hs' : Nat → Value} {f : AC → AC} (hf : ∀ {x v}, RC w O hs x v → RC w' O' hs' (f x) v) {x : AV} {v : Value} (h : RV w O hs x v) : RV w' O' hs' (x.map f) v := by
  cases x with
  | c x => exact hf h
  | agg cs => obtain ⟨arr, e, hr⟩ := h; exact ⟨arr, e, hr.map hf⟩
  | on g x => exact ⟨fun hg => hf (h.1 hg), h.2⟩
  | tup vs =>
    obtain ⟨arr, e, hl, hr⟩ := h
    refine ⟨arr, e, by simpa using hl, fun i p u hp hu => ?_⟩
    rw [List.getElem?_map] at hp
    cases hc : vs[i]? with
    | none => rw [hc] at hp; cases hp
    | some q =>
      rw [hc] at hp
      simp only [Option.map_some, Option.some.injEq] at hp
      subst hp
      have := hr i q u hc hu
      obtain ⟨g, cs⟩ := q
      cases g
      · intro x hx
        match cs, hx with
        | [c], hx => simp at hx; subst hx; exact hf (this c rfl)
      · obtain ⟨arr', e', hr'⟩ := this
        exact ⟨arr', e', hr'.map hf⟩
theorem foot_map {f : AC → AC} {ob : AObj} {h : Value} {b : Nat} : foot (ob.map f) h b ↔ foot ob h b := by cases ob <;> first | exact foot_amap | exact Iff.rfl

theorem Sim.remap (h : Sim F st hs a w) {f : AC → AC} {o : Nat} {ob ob' : AObj} (ho : st.objs[o]? = some ob) {hs' : Nat → Value} {w' : World} (hh : ∀ p, p ≠ o → hs' p = hs p)
    (hk : Keep (foot ob (hs o)) w w') (hfoot : ∀ b, foot ob' (hs' o) b → foot ob (hs o) b ∨ w.heap.size ≤ b) (hn : o < st.n0 → hs' o = hs o)
    (hf : ∀ {O'}, (∀ b, b < w.heap.size → ¬ avoid F st.objs hs b → w'.heap[b]? = w.heap[b]? ∧ ¬ O' b) → (∀ b, foot ob (hs o) b → ¬ foot ob' (hs' o) b → ¬ O' b) → ∀ {x v}, RC w (avoid F st.objs hs) hs x v → RC w' O' hs' (f x) v)
    (hro : ∀ {O'}, (∀ {d v}, RD w (avoid F st.objs hs) d v → RD w' O' d v) → RO w' O' hs' ob' (hs' o)) : Sim F ((st.map f).setObj o ob') hs' a w' := by
  have hl : o < st.objs.length := (List.getElem?_eq_some_iff.1 ho).1
  have ho' : (st.objs.map (AObj.map f))[o]? = some (ob.map f) := by rw [List.getElem?_map, ho]; rfl
  have look : ∀ (p : Nat) (x : AObj), ((st.map f).setObj o ob').objs[p]? = some x → (p = o ∧ x = ob') ∨ (p ≠ o ∧ ∃ y, st.objs[p]? = some y ∧ x = y.map f) := fun p x hx => by
    rcases getElem?_setObj hx ho' with h' | ⟨hne, hx⟩
    · exact .inl h'
    · rw [show (st.map f).objs = st.objs.map (AObj.map f) from rfl, List.getElem?_map] at hx
      cases hy : st.objs[p]? with
      | none => rw [hy] at hx; cases hx
      | some y => rw [hy] at hx; cases hx; exact .inr ⟨hne, y, rfl, rfl⟩
  have hob : ∀ b, foot ob (hs o) b → own st.objs hs b := fun b hb => ⟨o, ob, ho, hb⟩
  have hown : ∀ b, own ((st.map f).setObj o ob').objs hs' b → (own st.objs hs b ∧ ¬ foot ob (hs o) b) ∨ foot ob' (hs' o) b := fun b ⟨p, x, hx, hb⟩ => by
    rcases look p x hx with ⟨rfl, rfl⟩ | ⟨hne, y, hy, rfl⟩
    · exact .inr hb
    · rw [hh p hne] at hb
      have hb' := foot_map.1 hb
      exact .inl ⟨⟨p, y, hy, hb'⟩, fun hc => hne (h.good.disj p o y ob b hy ho hb' hc)⟩
  have hm : ∀ b, b < w.heap.size → ¬ avoid F st.objs hs b → w'.heap[b]? = w.heap[b]? ∧ ¬ avoid F ((st.map f).setObj o ob').objs hs' b := fun b hb hO => by
    refine ⟨hk.block b hb fun hc => hO (.inl (hob b hc)), fun hA => ?_⟩
    rcases hA with hA | hX
    · rcases hown b hA with ⟨h1, _⟩ | h1
      · exact hO (.inl h1)
      · rcases hfoot b h1 with h2 | h2
        · exact hO (.inl (hob b h2))
        · omega
    · exact hO (.inr hX)
  have hlose : ∀ b, foot ob (hs o) b → ¬ foot ob' (hs' o) b → ¬ avoid F ((st.map f).setObj o ob').objs hs' b := fun b hb hb' hA => by
    rcases hA with hA | hX
    · rcases hown b hA with ⟨_, h1⟩ | h1
      · exact h1 hb
      · exact hb' h1
    · have := h.fx b hX
      rcases h.ownb b (hob b hb) with h1 | h1
      · exact this.2 h1
      · omega
  have hc := fun {x v} => hf hm hlose (x := x) (v := v)
  have hrd : ∀ {d v}, RD w (avoid F st.objs hs) d v → RD w' (avoid F ((st.map f).setObj o ob').objs hs') d v := fun hr => RD.mono hk.size hm hr
  refine ⟨by simpa [ASt.map, ASt.setObj] using h.len, fun i av v h1 h2 => ?_, ⟨fun p x hx => ?_, fun p q x y c hx hy h1 h2 => ?_⟩, h.defers, ?_, fun b hb => ?_, fun p hp => ?_, h.fx, fun p hp => ?_, by simpa [ASt.map, ASt.setObj] using h.n0le⟩
  · rw [show ((st.map f).setObj o ob').slots = st.slots.map (AV.map f) from rfl, List.getElem?_map] at h1
    cases hs1 : st.slots[i]? with
    | none => rw [hs1] at h1; cases h1
    | some y => rw [hs1] at h1; cases h1; exact (h.slots i y v hs1 h2).map hc
  · rcases look p x hx with ⟨rfl, rfl⟩ | ⟨hne, y, hy, rfl⟩
    · exact hro hrd
    · rw [hh p hne]
      have hr := h.good.rel p y hy
      have hblk : ∀ b, foot y (hs p) b → w'.heap[b]? = w.heap[b]? := fun b hb => hk.block b (hr.foot_lt hb) fun hc' => hne (h.good.disj p o y ob b hy ho hb hc')
      cases y with
      | ext x => exact XObj.imp hc hrd hblk hr
      | gone => exact trivial
      | cells ty cs =>
        obtain ⟨b, vals, e, hb, hcs⟩ := hr
        exact ⟨b, vals, e, by rw [hblk b (by simp [foot, hblk, e, Vc.hblk])]; exact hb, hcs.map hc⟩
      | row ty size α z enc xs =>
        obtain ⟨h1, vs, h2, h3⟩ := hr
        refine ⟨h1, vs, ⟨h2.1, ?_⟩, fun i j d hi hj => ?_⟩
        · rcases h2.2 with hnl | ⟨g, cap, cur, e, h0, hg, r⟩
          · exact .inl hnl
          · exact .inr ⟨g, cap, cur, e, h0, by rw [hblk g (by simp [foot, e, Vc.hblk])]; exact hg, r⟩
        · obtain ⟨cv, h4, h5⟩ := h3 i j d hi hj
          exact ⟨cv, h4, hrd h5⟩
  · rcases look p x hx with ⟨rfl, rfl⟩ | ⟨hp, x', hx', rfl⟩ <;> rcases look q y hy with ⟨rfl, rfl⟩ | ⟨hq, y', hy', rfl⟩
    · rfl
    · rw [hh q hq] at h2
      have h2' := foot_map.1 h2
      rcases hfoot c h1 with h3 | h3
      · exact absurd (h.good.disj q p y' ob c hy' ho h2' h3) hq
      · have := (h.good.rel q y' hy').foot_lt h2'
        omega
    · rw [hh p hp] at h1
      have h1' := foot_map.1 h1
      rcases hfoot c h2 with h3 | h3
      · exact absurd (h.good.disj p q x' ob c hx' ho h1' h3) hp
      · have := (h.good.rel p x' hx').foot_lt h1'
        omega
    · rw [hh p hp] at h1
      rw [hh q hq] at h2
      exact h.good.disj p q x' y' c hx' hy' (foot_map.1 h1) (foot_map.1 h2)
  · exact h.keep.trans hk fun b hb hL hc' => (h.ownb b (hob b hc')).elim hL fun hb' => by omega
  · rcases hown b hb with ⟨h1, _⟩ | h1
    · exact h.ownb b h1
    · rcases hfoot b h1 with h2 | h2
      · exact h.ownb b (hob b h2)
      · exact .inr (Nat.le_trans h.keep.size h2)
  · by_cases e : p = o
    · subst e; rw [hn hp]; exact h.fix p hp
    · rw [hh p e]; exact h.fix p hp
  · have : p ≠ o := by intro e; subst e; simp [ASt.map, ASt.setObj] at hp; omega
    rw [hh p this]
    exact h.dead p (by simpa [ASt.map, ASt.setObj] using hp)

/-- an own row reads as data where its block is no longer barred -/
theorem RD_of_row {O O' : Nat → Prop} {ty : TypeId} {size : Nat} {α : Type} {z : α} {enc : α → List DV} {xs : List α} {h : Value} (hr : RO w O hs (.row ty size α z enc xs) h)
    (hm : ∀ {d v}, RD w O d v → RD w O' d v) (hO : ∀ b, foot (.row ty size α z enc xs) h b → ¬ O' b) : RD w O' (.list size α z enc xs) h := by
  by_cases hp : 0 < xs.length
  · obtain ⟨b, cap, cur, rfl, hb, hc1, hc2, hc3, hd⟩ := row_handle hr hp
    refine .list size α z enc xs b 0 cap (fun i j => cur.getD (i * size + j) undef) hp (hO b (by simp [foot, hblk])) (Array.getElem?_eq_some_iff.1 hb).1 hc1 hc2 hr.1 (fun i j hi hj => ?_) fun i j d hi hj => ?_
    · rw [Nat.zero_add, cell_of_row w b _ cur ty (0, 0) hb]
      have hlt : i * size + j < cur.size := by
        rw [hc3]
        calc i * size + j < i * size + size := by omega
          _ = (i + 1) * size := by rw [Nat.add_mul, Nat.one_mul]
          _ ≤ cap * size := Nat.mul_le_mul_right _ (by omega)
      simp [Array.getD, hlt]
    · obtain ⟨cv, h1, h2⟩ := hd i j d hi hj
      have : cur.getD (i * size + j) undef = cv := by
        rw [Array.getD_eq_getD_getElem?, h1]; rfl
      rw [this]
      exact hm h2
  · obtain ⟨A, cap, rfl, hc1, hc2, hn⟩ := row_slice hr
    have : xs = [] := List.eq_nil_of_length_eq_zero (by omega)
    subst this
    exact .empty size α z enc A cap hc1 hn

theorem RC_frz {O O' : Nat → Prop} {o : Nat} {ty : TypeId} {size : Nat} {α : Type} {z : α} {enc : α → List DV} {xs : List α} (hr : RO w O hs (.row ty size α z enc xs) (hs o))
    (hm : ∀ b, b < w.heap.size → ¬ O b → w.heap[b]? = w.heap[b]? ∧ ¬ O' b) (hO : ∀ b, foot (.row ty size α z enc xs) (hs o) b → ¬ O' b) {x : AC} {v : Value} (h : RC w O hs x v) :
    RC w O' hs (x.frz o (.row ty size α z enc xs)) v := by
  have hrd : ∀ {d v}, RD w O d v → RD w O' d v := fun h => RD.mono (Nat.le_refl _) hm h
  have hlist := RD_of_row hr hrd hO
  have keep : ∀ {x}, RC w O hs x v → RC w O' hs x v := fun h => RC.mono (Nat.le_refl _) hm h
  cases x <;> simp only [AC.frz] <;> try exact keep h
  case sl p =>
    cases hp : (p == o) with
    | false => exact keep h
    | true =>
      have : p = o := by simpa using hp
      subst this
      obtain ⟨rfl, _⟩ := h
      exact hlist
  case sub p s lo n =>
    cases hp : (p == o) with
    | false => exact keep h
    | true =>
      have : p = o := by simpa using hp
      subst this
      simp only [cond_true]
      cases hs2 : (s == size) with
      | false => exact trivial
      | true =>
        have e2 : s = size := by simpa using hs2
        subst e2
        simp only [cond_true, RC]
        have h2 : (n = 0 ∧ ∃ A cap, v = .slice A 0 cap ∧ cap ≤ maxLen ∧ (A = none → cap = 0)) ∨ (0 < n ∧ ∃ b m cap c, hs p = .slice (some ⟨b, 0, none⟩) m cap ∧ v = .slice (some ⟨b, lo * s, none⟩) n c ∧ n ≤ c ∧ c ≤ maxLen ∧ lo + n ≤ m) := by
          rcases h with ⟨g0, A, cap, g1, g2, g3, _⟩ | ⟨_, b, m, cap, c, e1, e2, hc1, hc2, _, hc3, _⟩
          · exact .inl ⟨g0, A, cap, g1, g2, g3⟩
          · by_cases hn : 0 < n
            · exact .inr ⟨hn, b, m, cap, c, e1, e2, hc1, hc2, hc3⟩
            · have : n = 0 := by omega
              subst this
              exact .inl ⟨rfl, _, _, e2, hc2, fun e => by cases e⟩
        rcases h2 with ⟨rfl, A, cap, rfl, hc, hn⟩ | ⟨hn, b, m, cap, c, e1, rfl, hc1, hc2, hc3⟩
        · exact .empty s α z enc A cap hc hn
        · obtain ⟨b', cap', cur, e3, hb, g1, g2, g3, hd⟩ := row_handle hr (by
            obtain ⟨A, cap', e3, _⟩ := row_slice hr
            rw [e1] at e3
            simp only [Value.slice.injEq] at e3
            omega)
          rw [e1] at e3
          simp only [Value.slice.injEq, Option.some.injEq, Addr.mk.injEq, and_true] at e3
          obtain ⟨rfl, rfl, rfl⟩ := e3
          have hlen : ((xs.drop lo).take n).length = n := by simp; omega
          have key := RD.list (w := w) (O := O') s α z enc ((xs.drop lo).take n) b (lo * s) c (fun i j => cur.getD ((lo + i) * s + j) undef) (by omega) (hO b (by simp [foot, hblk, e1])) (Array.getElem?_eq_some_iff.1 hb).1 (by omega) hc2 hr.1 (fun i j hi hj => by
            rw [cell_of_row w b _ cur ty (0, 0) hb]
            have hlt : (lo + i) * s + j < cur.size := by
              rw [g3]
              calc (lo + i) * s + j < (lo + i) * s + s := by omega
                _ = (lo + i + 1) * s := by rw [Nat.add_mul (lo + i) 1, Nat.one_mul]
                _ ≤ cap * s := Nat.mul_le_mul_right _ (by omega)
            rw [show lo * s + i * s + j = (lo + i) * s + j by rw [Nat.add_mul]]
            simp [Array.getD, hlt]) (fun i j d hi hj => by
            rw [getD_take_drop _ _ _ _ _ (by omega)] at hj
            obtain ⟨cv, h1, h2⟩ := hd (lo + i) j d (by omega) hj
            have : cur.getD ((lo + i) * s + j) undef = cv := by rw [Array.getD_eq_getD_getElem?, h1]; rfl
            rw [this]
            exact hrd h2)
          rw [hlen] at key
          exact key
  case el p s i j =>
    cases hp : (p == o) with
    | false => exact keep h
    | true => exact trivial
  case xr p r =>
    cases hp : (p == o) with
    | false => exact keep h
    | true => exact trivial

/-- rows of own rows read as data where their blocks are no longer barred -/
theorem RD_of_rows {O O' : Nat → Prop} {ty ety : TypeId} {size : Nat} {α : Type} {z : α} {enc : α → List DV} {xss : List (List α)} {u : Value} {l : List Value} (hr : Rows w O ty ety size α z enc xss u l)
    (hm : ∀ {d v}, RD w O d v → RD w O' d v) (hO : ∀ (i : Nat) (v : Value) (b : Nat), (u :: l)[i]? = some v → hblk v = some b → ¬ O' b) :
    RD w O' (.list 1 (List α) [] (encL size α z enc) xss) u ∧ ∀ (i : Nat) (v : Value), l[i]? = some v → RD w O' (.list size α z enc (xss.getD i [])) v := by
  have inner : ∀ (i : Nat) (v : Value), l[i]? = some v → RD w O' (.list size α z enc (xss.getD i [])) v := fun i v hi => by
    obtain ⟨_, h1⟩ := hr.at hi
    refine RD_of_row (hs := fun _ => .nilFunc) h1.row hm fun b hb => hO (i + 1) v b hi hb
  refine ⟨?_, inner⟩
  refine RD_of_row (hs := fun _ => .nilFunc) (O := O') (ty := ty) (xs := xss) ⟨fun x => rfl, l, hr.out, fun i j d hi hj => ?_⟩ (fun h => h) fun b hb => hO 0 u b rfl hb
  cases j with
  | succ j => simp [encL] at hj
  | zero =>
    simp only [encL, List.getElem?_cons_zero, Option.some.injEq] at hj
    subst hj
    have hlt : i < l.length := by rw [hr.len]; exact hi
    exact ⟨l[i], by rw [Nat.mul_one, Nat.add_zero, List.getElem?_eq_getElem hlt], inner i _ (List.getElem?_eq_getElem hlt)⟩
theorem RC_frzX {O O' : Nat → Prop} {o : Nat} {ty ety : TypeId} {size : Nat} {α : Type} {z : α} {enc : α → List DV} {xss : List (List α)} {u : Value} {l : List Value} (e : hs o = .tuple (u :: l).toArray) (hr : Rows w O ty ety size α z enc xss u l)
    (hm : ∀ b, b < w.heap.size → ¬ O b → w.heap[b]? = w.heap[b]? ∧ ¬ O' b) (hO : ∀ b, foot (.ext (.rows ty ety size α z enc xss)) (hs o) b → ¬ O' b) {x : AC} {v : Value} (h : RC w O hs x v) :
    RC w O' hs (x.frz o (.ext (.rows ty ety size α z enc xss))) v := by
  have hrd : ∀ {d v}, RD w O d v → RD w O' d v := fun h => RD.mono (Nat.le_refl _) hm h
  have keep : ∀ {x}, RC w O hs x v → RC w O' hs x v := fun h => RC.mono (Nat.le_refl _) hm h
  obtain ⟨h1, h2⟩ := RD_of_rows hr hrd fun i v b hi hb => hO b ⟨u :: l, i, v, e, hi, hb⟩
  cases x <;> simp only [AC.frz] <;> try exact keep h
  case sl p =>
    cases hp : (p == o) with
    | false => exact keep h
    | true => exact trivial
  case sub p s lo n =>
    cases hp : (p == o) with
    | false => exact keep h
    | true => exact trivial
  case el p s i j =>
    cases hp : (p == o) with
    | false => exact keep h
    | true => exact trivial
  case xr p r =>
    cases hp : (p == o) with
    | false => exact keep h
    | true =>
      have : p = o := by simpa using hp
      subst this
      simp only [cond_true]
      cases r <;> simp only <;> try exact trivial
      case whole =>
        obtain ⟨l', e', _⟩ := h
        obtain ⟨rfl, rfl⟩ := cons_inj e e'
        exact h1
      case inn i =>
        obtain ⟨u', l', e', hi, _⟩ := h
        obtain ⟨rfl, rfl⟩ := cons_inj e e'
        exact h2 i v hi

/-- a map reads as data where its block is no longer barred -/
theorem RD_of_map {O O' : Nat → Prop} {kt vt : TypeId} {ks : KSh} {β : Type} {z : β} {enc : β → List DV} {clock : Nat} {es : List (Nat × List KA × β)} {h : Value} (hr : XObj.rel w O hs (.map kt vt ks false β z enc clock es) h)
    (hm : ∀ {d v}, RD w O d v → RD w O' d v) (hO : ∀ b, foot (.ext (.map kt vt ks false β z enc clock es)) h b → ¬ O' b) : RD w O' (.map kt vt ks β z enc clock es) h := by
  obtain ⟨b, arr, rfl, h1, h2, h3, h4, h5⟩ := hr
  have hlt : ∀ (i : Nat) (x : Nat × List KA × β), es[i]? = some x → ∃ e, arr[i]? = some e := fun i x hx => by
    have hi := (List.getElem?_eq_some_iff.1 hx).1
    exact ⟨arr[i]'(by omega), Array.getElem?_eq_getElem (by omega)⟩
  refine .map kt vt ks β z enc clock es b arr (hO b rfl) h1 h2 h3 h4 (fun i x e hx he => ⟨(h5 i x e hx he).1, (h5 i x e hx he).2.1⟩) (fun x hx => ?_) fun i x e d hx he hd => ?_
  · obtain ⟨i, hi⟩ := List.mem_iff_getElem?.1 hx
    obtain ⟨e, he⟩ := hlt i x hi
    obtain ⟨d, hd, _⟩ := (h5 i x e hi he).2.2
    rw [hd]; rfl
  · obtain ⟨d', hd', hr⟩ := (h5 i x e hx he).2.2
    rw [hd] at hd'
    cases hd'
    exact hm hr
theorem RC_frzM {O O' : Nat → Prop} {o : Nat} {kt vt : TypeId} {ks : KSh} {β : Type} {z : β} {enc : β → List DV} {clock : Nat} {es : List (Nat × List KA × β)} (hr : XObj.rel w O hs (.map kt vt ks false β z enc clock es) (hs o))
    (hm : ∀ b, b < w.heap.size → ¬ O b → w.heap[b]? = w.heap[b]? ∧ ¬ O' b) (hO : ∀ b, foot (.ext (.map kt vt ks false β z enc clock es)) (hs o) b → ¬ O' b) {x : AC} {v : Value} (h : RC w O hs x v) :
    RC w O' hs (x.frz o (.ext (.map kt vt ks false β z enc clock es))) v := by
  have hrd : ∀ {d v}, RD w O d v → RD w O' d v := fun h => RD.mono (Nat.le_refl _) hm h
  have keep : ∀ {x}, RC w O hs x v → RC w O' hs x v := fun h => RC.mono (Nat.le_refl _) hm h
  have hmap := RD_of_map hr hrd hO
  cases x <;> simp only [AC.frz] <;> try exact keep h
  case sl p =>
    cases hp : (p == o) with
    | false => exact keep h
    | true => exact trivial
  case sub p s lo n =>
    cases hp : (p == o) with
    | false => exact keep h
    | true => exact trivial
  case el p s i j =>
    cases hp : (p == o) with
    | false => exact keep h
    | true => exact trivial
  case xr p r =>
    cases hp : (p == o) with
    | false => exact keep h
    | true =>
      have : p = o := by simpa using hp
      subst this
      simp only [cond_true]
      cases r <;> simp only <;> try exact trivial
      obtain ⟨rfl, _⟩ := h
      exact hmap

theorem Sim.freeze (h : Sim F st hs a w) (o : Nat) : Sim F (st.freeze o) hs a w := by
  unfold ASt.freeze
  cases hob : st.obj o <;> simp only <;> try exact h
  case row ty size α z enc xs =>
    have ho := obj_some hob (by simp)
    refine h.remap ho (fun p _ => rfl) (Keep.refl _ w) (fun b hb => hb.elim) (fun _ => rfl) (fun {O'} hm hl {x v} hr => ?_) fun {O'} hm => trivial
    exact RC_frz (h.good.rel o _ ho) hm (fun b hb => hl b hb fun e => e) hr
  case ext xo =>
    cases xo <;> simp only <;> try exact h
    case map kt vt ks agg β z enc clock es =>
      cases agg with
      | true => exact h
      | false =>
        have ho := obj_some hob (by simp)
        refine h.remap ho (fun p _ => rfl) (Keep.refl _ w) (fun b hb => hb.elim) (fun _ => rfl) (fun {O'} hm hl {x v} hr => ?_) fun {O'} hm => trivial
        exact RC_frzM (h.good.rel o _ ho) hm (fun b hb => hl b hb fun e => e) hr
    rename_i ty ety size α z enc xss
    have ho := obj_some hob (by simp)
    obtain ⟨u, l, e, hR⟩ := rows_open h.good hob
    refine h.remap ho (fun p _ => rfl) (Keep.refl _ w) (fun b hb => hb.elim) (fun _ => rfl) (fun {O'} hm hl {x v} hr => ?_) fun {O'} hm => trivial
    exact RC_frzX e hR hm (fun b hb => hl b hb fun e => e) hr

theorem RC.killed {O : Nat → Prop} {o : Nat} {hs' : Nat → Value} (hsl : isSl (hs o) = true) (hh : ∀ p, p ≠ o → hs' p = hs p) {x : AC} {v : Value} (h : RC w O hs x v) : RC w O hs' (x.kill o) v := by
  have ne : ∀ p b, hs p = .pointer b → p ≠ o := fun p b e e' => by subst e'; rw [e] at hsl; cases hsl
  have nm : ∀ p b, hs p = .map b → p ≠ o := fun p b e e' => by subst e'; rw [e] at hsl; cases hsl
  cases x <;> simp only [AC.kill, RC] at h ⊢ <;> try exact h
  case ptr p j => obtain ⟨b, e1, e2⟩ := h; exact ⟨b, by rw [hh p (ne p _ e1), e1], e2⟩
  case sl p =>
    cases hp : (p == o) with
    | true => exact trivial
    | false => have hne : p ≠ o := by simpa using hp
               simp only [cond_false, RC]; rw [hh p hne]; exact h
  case sub p s lo n =>
    cases hp : (p == o) with
    | true => exact trivial
    | false => have hne : p ≠ o := by simpa using hp
               simp only [cond_false, RC]; rw [hh p hne]; exact h
  case el p s i j =>
    cases hp : (p == o) with
    | true => exact trivial
    | false => have hne : p ≠ o := by simpa using hp
               simp only [cond_false, RC]; rw [hh p hne]; exact h
  case xr p r =>
    cases hp : (p == o) with
    | true => exact trivial
    | false => have hne : p ≠ o := by simpa using hp
               simp only [cond_false, RC]; rw [hh p hne]; exact h
  case fn f caps =>
    obtain ⟨arr, e, hl, hc⟩ := h
    refine ⟨arr, e, hl, fun i p hp => ?_⟩
    obtain ⟨b, e1, e2⟩ := hc i p hp
    exact ⟨b, by rw [hh p.1 (ne p.1 _ e1), e1], e2⟩
end
end Go.Vc
