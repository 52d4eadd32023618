/- Rows of own rows: rows that come in, rows that are laid behind others, rows that are no longer own. -/
import Derived.Test.YtcjcfpbbhmhlbaaV11X
set_option linter.unusedVariables false
set_option linter.unusedSimpArgs false
namespace Go.Vc
section
variable {P : Program} {T : Tab} {F : Fr} {st : ASt} {hs : Nat → Value} {a : Act} {w : World}

theorem setH_same {hs : Nat → Value} {o : Nat} {v : Value} : setH hs o v o = v := if_pos rfl
theorem setH_other {hs : Nat → Value} {o q : Nat} {v : Value} (h : q ≠ o) : setH hs o v q = hs q := if_neg h
theorem tuple_not_one {h : Value} {l : Array Value} (e : h = .tuple l) : ¬ h.oneCell' = true := by subst e; intro hc; cases hc
theorem look_set {objs : List AObj} {f : AC → AC} {o q : Nat} {ob' x : AObj} (h : ((objs.map (AObj.map f)).set o ob')[q]? = some x) : (q = o ∧ x = ob') ∨ (q ≠ o ∧ ∃ y, objs[q]? = some y ∧ x = y.map f) := by
  rw [List.getElem?_set] at h
  by_cases hq : o = q
  · subst hq
    rw [if_pos rfl] at h
    split at h
    · cases h; exact .inl ⟨rfl, rfl⟩
    · cases h
  · rw [if_neg hq, List.getElem?_map] at h
    cases hy : objs[q]? with
    | none => rw [hy] at h; cases h
    | some y => rw [hy] at h; cases h; exact .inr ⟨fun e => hq e.symm, y, rfl, rfl⟩

theorem Sim.shallow (h : Sim F st hs a w) {o : Nat} {ty ety : TypeId} {size : Nat} {α : Type} {z : α} {enc : α → List DV} {xss : List (List α)} (hob : st.obj o = .ext (.rows ty ety size α z enc xss)) (hn : st.n0 ≤ o) :
    ∃ u l, hs o = .tuple (u :: l).toArray ∧ Sim F (st.shallow o) (setH hs o u) a w := by
  have ho := obj_some hob (by simp)
  have hlt : o < st.objs.length := (List.getElem?_eq_some_iff.1 ho).1
  obtain ⟨u, l, e, hR⟩ := rows_open h.good hob
  refine ⟨u, l, e, ?_⟩
  have hst : st.shallow o = (st.map (AC.shallow o size α z enc xss)).setObj o (.row ty 1 (List α) [] (encL size α z enc) xss) := by simp only [ASt.shallow, hob]
  rw [hst]
  obtain ⟨A0, cap0, eu, _⟩ := ownsRow_sl hR.out
  have inner : ∀ {O' : Nat → Prop}, (∀ {d v}, RD w (avoid F st.objs hs) d v → RD w O' d v) → (∀ b, (∃ q y, ¬ (q ≠ o) ∧ st.objs[q]? = some y ∧ foot y (hs q) b) → ¬ foot (.row ty 1 (List α) [] (encL size α z enc) xss) (setH hs o u o) b → ¬ O' b) →
      ∀ (i : Nat) (v : Value), l[i]? = some v → RD w O' (.list size α z enc (xss.getD i [])) v := fun hm hl i v hi => by
    obtain ⟨_, h1⟩ := hR.at hi
    refine RD_of_row (hs := fun _ => .nilFunc) h1.row hm fun b hb => hl b ⟨o, _, fun hc => hc rfl, ho, ⟨u :: l, i + 1, v, e, hi, hb⟩⟩ fun hf => ?_
    rw [setH_same] at hf
    have := hR.apart (i + 1) 0 v u b hi rfl hb hf
    omega
  refine h.two (S := fun q => q ≠ o) (f := AC.shallow o size α z enc xss) (o := o) (ob' := .row ty 1 (List α) [] (encL size α z enc) xss) rfl rfl (by simp [ASt.map, ASt.setObj]) (fun q x hx => ?_) (Keep.refl _ w) (fun b hb => ?_) (fun q hq => setH_other hq)
    (fun q hq => setH_other (by omega)) (fun q hq => ?_) (fun {O'} hm hl {x v} hr => ?_) fun {O'} hm hl => ?_
  · rcases look_set hx with h1 | ⟨h1, h2⟩
    · exact .inl h1
    · exact .inr (.inr ⟨h1, h1, h2⟩)
  · rw [setH_same] at hb
    exact .inl ⟨o, _, fun hc => hc rfl, ho, ⟨u :: l, 0, u, e, rfl, hb⟩⟩
  · have hq' : st.objs.length ≤ q := by simpa [ASt.map, ASt.setObj] using hq
    rw [setH_other (by omega)]
    exact h.dead q hq'
  · refine RC.re (hs' := setH hs o u) (S := fun q => q ≠ o) (fun q hq => setH_other hq) (fun hr => RC.mono (Nat.le_refl _) hm hr) (fun x hx => ?_) (fun x v q hq hS hr => ?_) hr
    · cases x <;> try rfl
      rename_i p r
      have : p ≠ o := hx p (by simp [AC.refs])
      have e1 : (p == o) = false := by simpa using this
      simp only [AC.shallow, e1, cond_false]
    · have hqo : q = o := Classical.byContradiction fun hc => hS hc
      subst hqo
      obtain ⟨r, rfl⟩ := hr.only_xr hq e
      simp only [AC.shallow, beq_self_eq_true, cond_true]
      cases r <;> simp only <;> try exact trivial
      case whole =>
        obtain ⟨l', e', hsl⟩ := hr
        obtain ⟨rfl, rfl⟩ := cons_inj e e'
        exact ⟨by rw [setH_same], by rw [setH_same]; exact hsl⟩
      case cell i =>
        obtain ⟨b, n, c, l', e', rfl⟩ := hr
        obtain ⟨rfl, rfl⟩ := cons_inj e e'
        exact ⟨b, n, c, by rw [setH_same], by simp⟩
      case inn i =>
        obtain ⟨u', l', e', hi, _⟩ := hr
        obtain ⟨rfl, rfl⟩ := cons_inj e e'
        exact inner (fun h => RD.mono (Nat.le_refl _) hm h) hl i v hi
  · rw [setH_same]
    refine ⟨fun x => rfl, l, hR.out, fun i j d hi hj => ?_⟩
    cases j with
    | succ j => simp [encL] at hj
    | zero =>
      simp only [encL, List.getElem?_cons_zero, Option.some.injEq] at hj
      subst hj
      have hlt : i < l.length := by rw [hR.len]; exact hi
      exact ⟨l[i], by rw [Nat.mul_one, Nat.add_zero, List.getElem?_eq_getElem hlt], inner hm hl i _ (List.getElem?_eq_getElem hlt)⟩

/-- a row of rows, with another cell in it -/
theorem Rows.set {w' : World} {O O' : Nat → Prop} {ty ety : TypeId} {size : Nat} {α : Type} {z : α} {enc : α → List DV} {xss : List (List α)} {u : Value} {l : List Value} (hR : Rows w O ty ety size α z enc xss u l) {i : Nat} (hi : i < xss.length) {vp : Value} {ys : List α}
    (hD : ∀ {d v}, RD w O d v → RD w' O' d v) (hout : w'.ownsRow 0 ty 1 u xss.length (l.set i vp)) (hkeep : ∀ (k : Nat) (v : Value) (b : Nat), k ≠ i → l[k]? = some v → hblk v = some b → w'.heap[b]? = w.heap[b]?)
    (hp : ORow w' O' ety size α z enc ys vp) (hap : ∀ (k : Nat) (v : Value) (b : Nat), (u :: l)[k]? = some v → hblk v = some b → hblk vp ≠ some b) : Rows w' O' ty ety size α z enc (xss.set i ys) u (l.set i vp) := by
  have hil : i < l.length := by rw [hR.len]; exact hi
  refine ⟨by rw [List.length_set]; exact hout, by simp [hR.len], hR.sz, fun k v xs hk hx => ?_, fun j k v v' b hj hk hv hv' => ?_⟩
  · by_cases hki : i = k
    · subst hki
      rw [List.getElem?_set_self hil] at hk
      rw [List.getElem?_set_self hi] at hx
      cases hk; cases hx
      exact hp
    · rw [List.getElem?_set_ne hki] at hk
      rw [List.getElem?_set_ne hki] at hx
      exact (hR.inn k v xs hk hx).imp hD fun b hb => hkeep k v b (fun e => hki e.symm) hk hb
  · have get : ∀ (j : Nat) (v : Value), (u :: l.set i vp)[j]? = some v → (j = i + 1 ∧ v = vp) ∨ (j ≠ i + 1 ∧ (u :: l)[j]? = some v) := fun j v hj => by
      cases j with
      | zero => exact .inr ⟨by omega, hj⟩
      | succ j =>
        simp only [List.getElem?_cons_succ] at hj ⊢
        by_cases hji : i = j
        · subst hji
          rw [List.getElem?_set_self hil] at hj
          cases hj
          exact .inl ⟨rfl, rfl⟩
        · rw [List.getElem?_set_ne hji] at hj
          exact .inr ⟨by omega, hj⟩
    rcases get j v hj with ⟨rfl, rfl⟩ | ⟨h1, h2⟩ <;> rcases get k v' hk with ⟨rfl, rfl⟩ | ⟨h3, h4⟩
    · rfl
    · exact absurd hv (hap k v' b h4 hv')
    · exact absurd hv' (hap j v b h2 hv)
    · exact hR.apart j k v v' b h2 h4 hv hv'

theorem cast_enc {α β : Type} (hβ : β = α) {enc : α → List DV} {enc2 : β → List DV} (h : HEq enc2 enc) {w : World} {O : Nat → Prop} {ty : TypeId} {size : Nat} {z : α} {z2 : β} {ys : List β} {v : Value} (hr : ORow w O ty size β z2 enc2 ys v) :
    ORow w O ty size α z enc (cast (congrArg List hβ) ys) v := by
  subst hβ
  have := eq_of_heq h
  subst this
  obtain ⟨h1, vs, h2, h3⟩ := hr
  refine ⟨h1, vs, h2, fun i j d hi hj => h3 i j d hi ?_⟩
  have hi' : i < ys.length := hi
  have e : ∀ z' : β, ys.getD i z' = ys[i] := fun z' => by simp [List.getD, hi']
  have hj' : (enc2 (ys.getD i z))[j]? = some d := hj
  rw [e] at hj' ⊢
  exact hj'

theorem xabsorb_sound (hT : TabOK P T) (h : Sim F st hs a w) {t : TypeId} {o i p : Nat} {vA vV : Value} (hA : RC w (avoid F st.objs hs) hs (.xr o (.cell i)) vA) (hV : RC w (avoid F st.objs hs) hs (.sl p) vV)
    (h0 : ¬ (T t).size = 0) {K : ASt → Prop} (hk : xabsorb T st t o i p K) :
    ∃ w' st' hs', (Instr.storeAt t vA vV).run P w = .ok () w' ∧ K st' ∧ Sim F st' hs' a w' := by
  have hTt := hT.of (t := t) fun e => h0 (hT.none e)
  unfold xabsorb at hk
  cases hob : st.obj o <;> simp only [hob] at hk <;> try exact hk.elim
  rename_i xo
  cases xo <;> simp only at hk <;> try exact hk.elim
  rename_i ty ety size α z enc xss
  cases hop : st.obj p <;> simp only [hop] at hk <;> try exact hk.elim
  rename_i ty2 sz2 β z2 enc2 ys
  obtain ⟨hpo, hn, hnp, hi, h1, rfl, rfl, hβ, hE, hK⟩ := hk
  have ho := obj_some hob (by simp)
  have hp := obj_some hop (by simp)
  obtain ⟨u, l, e, hR⟩ := rows_open h.good hob
  have hrp : ORow w (avoid F st.objs hs) ty2 sz2 β z2 enc2 ys (hs p) := h.good.rel p _ hp
  obtain ⟨A, cap, esl, _⟩ := row_slice (hs := hs) hrp.row
  obtain ⟨rfl, hsl⟩ := hV
  obtain ⟨b', n, cap', l', e', rfl⟩ := hA
  obtain ⟨rfl, rfl⟩ := cons_inj e e'
  obtain ⟨b2, cap2, cur, e2, hb, g1, g2, g3, hd⟩ := ownsRow_at hR.out (by omega)
  simp only [Value.slice.injEq, Option.some.injEq, Addr.mk.injEq, and_true] at e2
  obtain ⟨rfl, rfl, rfl⟩ := e2
  have hvc : (hs p).cells.toList = [hs p] := by rw [esl]; rfl
  have hvs : (hs p).cells.size = 1 := by rw [esl]; rfl
  have hil : i < l.length := by rw [hR.len]; exact hi
  have hrun := run_storeAt (P := P) (t := t) (n := (T t).size) (o := i) (v := hs p) hTt.sized hb (by rw [hvs, h1]) (by rw [hvs]; omega) (fun x hx => by rw [hvc] at hx; simp at hx; subst hx; rw [esl]; rfl)
  rw [hvc] at hrun
  have hfo : ∀ (k : Nat) (v : Value) (b : Nat), (Value.slice (some ⟨b', 0, none⟩) xss.length cap' :: l)[k]? = some v → hblk v = some b → foot (.ext (.rows ty ty2 sz2 α z enc xss)) (hs o) b := fun k v b hk hv => ⟨_, k, v, e, hk, hv⟩
  have hdj : ∀ (k : Nat) (v : Value) (b : Nat), (Value.slice (some ⟨b', 0, none⟩) xss.length cap' :: l)[k]? = some v → hblk v = some b → hblk (hs p) ≠ some b := fun k v b hk hv hc =>
    hpo (h.good.disj o p _ _ b ho hp (hfo k v b hk hv) hc).symm
  have hbl : ∀ b, b ≠ b' → (w.setRow b' (splice cur.toList i [hs p]).toArray).heap[b]? = w.heap[b]? := fun b hne => setRow_other w b' b _ hne
  have hsp : i + [hs p].length ≤ cur.toList.length := by simp; omega
  refine ⟨_, _, setH hs o (.tuple (Value.slice (some ⟨b', 0, none⟩) xss.length cap' :: l.set i (hs p)).toArray), hrun, hK, ?_⟩
  have hso : setH hs o (.tuple (Value.slice (some ⟨b', 0, none⟩) xss.length cap' :: l.set i (hs p)).toArray) o = .tuple (Value.slice (some ⟨b', 0, none⟩) xss.length cap' :: l.set i (hs p)).toArray := setH_same
  refine h.two (S := fun q => q ≠ o ∧ q ≠ p) (f := AC.absorb p o i) (o := o) (ob' := .ext (.rows ty ty2 sz2 α z enc (xss.set i (cast (congrArg List hβ) ys)))) rfl rfl (by simp [ASt.map, ASt.setObj]) (fun q x hx => ?_)
    ⟨rfl, rfl, rfl, by simp, fun x hx hn' => hbl x fun ex => hn' ⟨o, _, fun hc => hc.1 rfl, ho, hfo 0 _ x rfl (by rw [ex]; rfl)⟩⟩ (fun b hb => ?_) (fun q hq => setH_other hq.1)
    (fun q hq => setH_other (by omega)) (fun q hq => ?_) (fun {O'} hm hl {x v} hr => ?_) fun {O'} hm hl => ?_
  · rw [show (((st.map (AC.absorb p o i)).setObj p .gone).setObj o _).objs = ((st.objs.map (AObj.map (AC.absorb p o i))).set p .gone).set o _ from rfl] at hx
    rw [List.getElem?_set] at hx
    by_cases hq : o = q
    · subst hq
      rw [if_pos rfl] at hx
      split at hx
      · cases hx; exact .inl ⟨rfl, rfl⟩
      · cases hx
    · rw [if_neg hq] at hx
      rcases look_set hx with ⟨_, h2⟩ | ⟨h2, h3⟩
      · exact .inr (.inl ⟨fun ex => hq ex.symm, h2⟩)
      · exact .inr (.inr ⟨fun ex => hq ex.symm, ⟨fun ex => hq ex.symm, h2⟩, h3⟩)
  · rw [hso] at hb
    obtain ⟨l2, k, v, e3, hk, hv⟩ := hb
    have e3 := tuple_inj e3
    subst e3
    cases k with
    | zero => exact .inl ⟨o, _, fun hc => hc.1 rfl, ho, hfo 0 v b hk hv⟩
    | succ k =>
      simp only [List.getElem?_cons_succ] at hk
      by_cases hki : i = k
      · subst hki
        rw [List.getElem?_set_self hil] at hk
        cases hk
        exact .inl ⟨p, _, fun hc => hc.2 rfl, hp, hv⟩
      · rw [List.getElem?_set_ne hki] at hk
        exact .inl ⟨o, _, fun hc => hc.1 rfl, ho, hfo (k + 1) v b hk hv⟩
  · have hq' : st.objs.length ≤ q := by simpa [ASt.map, ASt.setObj] using hq
    have := (List.getElem?_eq_some_iff.1 ho).1
    rw [setH_other (by omega)]
    exact h.dead q hq'
  · refine RC.re (hs' := setH hs o (.tuple (Value.slice (some ⟨b', 0, none⟩) xss.length cap' :: l.set i (hs p)).toArray)) (S := fun q => q ≠ o ∧ q ≠ p) (fun q hq => setH_other hq.1) (fun hr => RC.mono (by simp) hm hr) (fun x hx => ?_) (fun x v q hq hS hr => ?_) hr
    · cases x <;> try rfl
      case sl q =>
        have e1 : (q == p) = false := by simpa using (hx q (by simp [AC.refs])).2
        simp only [AC.absorb, e1, cond_false]
      case sub q s lo n =>
        have e1 : (q == p) = false := by simpa using (hx q (by simp [AC.refs])).2
        simp only [AC.absorb, e1, cond_false]
      case el q s k j =>
        have e1 : (q == p) = false := by simpa using (hx q (by simp [AC.refs])).2
        simp only [AC.absorb, e1, cond_false]
      case xr q r => 
        obtain ⟨h2, h3⟩ := hx q (by simp [AC.refs])
        have f1 : (q == o) = false := by simpa using h2
        have f2 : (q == p) = false := by simpa using h3
        simp only [AC.absorb, f1, f2, cond_false]
    · by_cases hqo : q = o
      · subst hqo
        obtain ⟨r, rfl⟩ := hr.only_xr hq e
        simp only [AC.absorb, beq_self_eq_true, cond_true]
        cases r <;> simp only
        case self => exact absurd hr.2.1 (tuple_not_one e)
        case whole =>
          obtain ⟨l', e', hsl'⟩ := hr
          obtain ⟨rfl, rfl⟩ := cons_inj e e'
          exact ⟨_, hso, hsl'⟩
        case cell k =>
          obtain ⟨b2, n2, c2, l', e', rfl⟩ := hr
          obtain ⟨e4, rfl⟩ := cons_inj e e'
          cases e4
          exact ⟨_, _, _, _, hso, rfl⟩
        case inn k =>
          obtain ⟨u', l', e', hk, hsl'⟩ := hr
          obtain ⟨rfl, rfl⟩ := cons_inj e e'
          cases hki : (k == i) with
          | true => exact trivial
          | false =>
            have : i ≠ k := fun ex => by subst ex; simp at hki
            exact ⟨_, _, hso, by rw [List.getElem?_set_ne this]; exact hk, hsl'⟩
        case inel k s a' j =>
          obtain ⟨u', l', b2, n2, c2, e', hk, rfl⟩ := hr
          obtain ⟨rfl, rfl⟩ := cons_inj e e'
          cases hki : (k == i) with
          | true => exact trivial
          | false =>
            have : i ≠ k := fun ex => by subst ex; simp at hki
            exact ⟨_, _, b2, n2, c2, hso, by rw [List.getElem?_set_ne this]; exact hk, rfl⟩
      · have hqp : q = p := Classical.byContradiction fun hc => hS ⟨hqo, hc⟩
        subst hqp
        rcases hr.only_sl hq esl with rfl | ⟨s, lo, n, rfl⟩ | ⟨s, k, j, rfl⟩ | ⟨r, rfl⟩
        · simp only [AC.absorb, beq_self_eq_true, cond_true]
          obtain ⟨rfl, _⟩ := hr
          exact ⟨_, _, hso, List.getElem?_set_self hil, hsl⟩
        · simp only [AC.absorb, beq_self_eq_true, cond_true]; exact trivial
        · simp only [AC.absorb, beq_self_eq_true, cond_true]
          obtain ⟨b2, n2, c2, e5, rfl⟩ := hr
          exact ⟨_, _, b2, n2, c2, hso, by rw [List.getElem?_set_self hil, e5], rfl⟩
        · have : (q == o) = false := by simpa using hqo
          simp only [AC.absorb, this, beq_self_eq_true, cond_true, cond_false]; exact trivial
  · rw [hso]
    have hp' : ORow (w.setRow b' (splice cur.toList i [hs p]).toArray) O' ty2 sz2 α z enc (cast (congrArg List hβ) ys) (hs p) :=
      cast_enc hβ hE (hrp.imp hm fun b hb => hbl b fun ex => hdj 0 _ b rfl (by rw [ex]; rfl) hb)
    have key := Rows.set (w' := w.setRow b' (splice cur.toList i [hs p]).toArray) (O' := O') hR hi (vp := hs p) (ys := cast (congrArg List hβ) ys) hm ?_ (fun k v b hk hlk hv => hbl b fun ex => ?_) hp' (fun k v b hk hv => hdj k v b hk hv)
    · obtain ⟨k1, k2, k3, k4, k5⟩ := key
      exact ⟨_, _, rfl, k1, k3, k4, k5⟩
    · refine ⟨by simp [hR.len], .inr ⟨b', cap', _, rfl, Nat.zero_le _, setRow_heap w b' cur _ ty (0, 0) hb, g1, g2, by rw [List.size_toArray, splice_len hsp]; simpa using g3, ?_⟩⟩
      apply List.ext_getElem?
      intro k
      rw [List.getElem?_take, Nat.mul_one]
      by_cases hk : k < xss.length
      · rw [if_pos hk, splice_get hsp]
        have hkl : k < l.length := by rw [hR.len]; exact hk
        have hck := hd k _ (List.getElem?_eq_getElem hkl)
        by_cases c1 : k < i
        · rw [if_pos c1, List.getElem?_set_ne (by omega), List.getElem?_eq_getElem hkl]; simpa using hck
        · by_cases c2 : k < i + 1
          · have : k = i := by omega
            subst this
            rw [if_neg c1, if_pos (by simp), List.getElem?_set_self hil]; simp
          · rw [if_neg c1, if_neg (by simp; omega), List.getElem?_set_ne (by omega), List.getElem?_eq_getElem hkl]; simpa using hck
      · rw [if_neg hk, List.getElem?_eq_none (by simp [hR.len]; omega)]
    · have := hR.apart (k + 1) 0 v _ b hlk rfl hv (by rw [ex]; rfl)
      omega
end
end Go.Vc
