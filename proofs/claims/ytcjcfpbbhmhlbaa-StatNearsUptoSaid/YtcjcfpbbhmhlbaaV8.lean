/- Stores, boxes and made rows. -/
import Derived.Test.YtcjcfpbbhmhlbaaV7
set_option linter.unusedVariables false
set_option linter.unusedSimpArgs false
namespace Go.Vc
section
variable {P : Program} {T : Tab} {F : Fr} {st : ASt} {hs : Nat → Value} {a : Act} {w : World}

theorem leD1_RD {O : Nat → Prop} {d e : DV} {v : Value} (h : leD1 d e) (hr : RD w O d v) : RD w O e v := by
  cases d with
  | nil => cases e with
    | list size α z enc xs =>
      simp only [leD1] at h
      subst h
      cases hr
      exact .empty size α z enc none 0 (by simp [maxLen]) fun _ => rfl
    | nil => exact hr
    | _ => simp only [leD1] at h; cases h
  | _ => simp only [leD1] at h; subst h; exact hr

theorem leD_get : ∀ {ds es : List DV}, leD ds es → ds.length = es.length ∧ ∀ (i : Nat) (e : DV), es[i]? = some e → ∃ d, ds[i]? = some d ∧ leD1 d e
  | [], [], _ => ⟨rfl, fun i e h => by simp at h⟩
  | [], _ :: _, h => h.elim
  | _ :: _, [], h => h.elim
  | d :: ds, e :: es, h => by
    obtain ⟨h1, h2⟩ := leD_get h.2
    refine ⟨by simp [h1], fun i x hx => ?_⟩
    cases i with
    | zero => simp at hx; subst hx; exact ⟨d, rfl, h.1⟩
    | succ i => exact h2 i x (by simpa using hx)

theorem dv_RD {O : Nat → Prop} {x : AC} {d : DV} {v : Value} (hd : x.dv = some d) (h : RC w O hs x v) : RD w O d v := by
  cases x <;> simp only [AC.dv, Option.some.injEq] at hd <;> try cases hd
  case int => subst h; exact .int _ _
  case bool => subst h; exact .bool _
  case str => subst h; exact .str _
  case nil => subst h; exact .nil
  case rd => exact h
  case md => exact h

theorem dvs_RD {O : Nat → Prop} : ∀ {cs : List AC} {ds : List DV} {vs : List Value}, dvs cs = some ds → RCs w O hs cs vs → ds.length = vs.length ∧ ∀ (i : Nat) (d : DV) (v : Value), ds[i]? = some d → vs[i]? = some v → RD w O d v
  | [], ds, vs, h, hr => by
    simp only [dvs, Option.some.injEq] at h
    subst h
    exact ⟨by have := hr.1; simp at this; simp [this], fun i d v hd => by simp at hd⟩
  | c :: cs, ds, vs, h, hr => by
    simp only [dvs] at h
    cases hc : c.dv with
    | none => rw [hc] at h; cases h
    | some d =>
      cases hcs : dvs cs with
      | none => rw [hc, hcs] at h; cases h
      | some ds' =>
        rw [hc, hcs] at h
        simp only [Option.some.injEq] at h
        subst h
        cases vs with
        | nil => have := hr.1; simp at this
        | cons v vs =>
          obtain ⟨h1, h2⟩ := dvs_RD hcs ⟨by have := hr.1; simpa using this, fun i x u hx hu => hr.2 (i + 1) x u hx hu⟩
          refine ⟨by simp [h1], fun i d' u hd hu => ?_⟩
          cases i with
          | zero => simp at hd hu; subst hd; subst hu; exact dv_RD hc (hr.2 0 c v rfl rfl)
          | succ i => exact h2 i d' u (by simpa using hd) (by simpa using hu)

theorem setRow_keep (b : Nat) (cs : Array Value) : Keep (fun x => x = b) w (w.setRow b cs) :=
  ⟨rfl, rfl, rfl, by simp, fun x _ hx => setRow_other w b x cs hx⟩

theorem run_storeAt {t : TypeId} {n : Nat} (hs' : ∃ j, P.info? t = some j ∧ j.size = n) {b o : Nat} {ty : TypeId} {cur : Array Value} (hb : w.heap[b]? = some (.cells cur ty (0, 0))) {v : Value}
    (hn : v.cells.size = n) (hfit : o + v.cells.size ≤ cur.size) (h1 : ∀ u ∈ v.cells.toList, u.oneCell' = true) :
    (Instr.storeAt t (.pointer (some ⟨b, o, none⟩)) v).run P w = .ok () (w.setRow b (splice cur.toList o v.cells.toList).toArray) := by
  have := run_storeCells_at (P := P) b o ty v.cells.toList 0 cur w hb (by simpa using hfit) h1
  simp only [Nat.add_zero] at this
  simp only [Instr.storeAt, Instr.sureAddr, Sem.run_bind, Sem.run_pure, Result.andThen_ok, storeVar, run_sizeOf hs', hn, ne_eq, not_true_eq_false, if_false]
  exact this

/-- what an operation must come to -/
def Does (P : Program) (o : Oper) (F : Fr) (a : Act) (w : World) (K : ASt → Prop) : Prop :=
  ∃ x w', (execOp a.eval o).run P w = .ok x w' ∧ ((∃ v, x = .value v ∧ ∃ st' hs' av, K (st'.put o.dst av) ∧ Sim F st' hs' a w' ∧ RV w' (avoid F st'.objs hs') hs' av v) ∨
    (x = .skip ∧ ∃ st' hs', K (st'.put o.dst (.c .junk)) ∧ Sim F st' hs' a w'))

theorem Does.wp {o : Oper} {K : ASt → Prop} {Q : Exit → Act → World → Prop} (h : Does P o F a w K) : o.wp P a w (fun a' w' => ∃ st' hs', K st' ∧ Sim F st' hs' a' w') Q := by
  obtain ⟨x, w', hr, h⟩ := h
  unfold Oper.wp
  rw [hr]
  rcases h with ⟨v, rfl, st', hs', av, hK, hS, hv⟩ | ⟨rfl, st', hs', hK, hS⟩
  · exact ⟨_, hs', hK, hS.put o.dst hv⟩
  · exact ⟨_, hs', hK, hS.put o.dst trivial⟩

theorem getD_set_eq {α : Type} {xs : List α} {i : Nat} {y z : α} (h : i < xs.length) : (xs.set i y).getD i z = y := by
  simp [List.getD, h]
theorem getD_set_ne {α : Type} {xs : List α} {i j : Nat} {y z : α} (h : i ≠ j) : (xs.set i y).getD j z = xs.getD j z := by
  simp [List.getD, List.getElem?_set_ne h]

theorem splice_get {β : Type _} {l new : List β} {j k : Nat} (h : j + new.length ≤ l.length) : (splice l j new)[k]? = if k < j then l[k]? else if k < j + new.length then new[k - j]? else l[k]? := by
  unfold splice
  rw [List.getElem?_append, List.getElem?_append]
  simp only [List.length_take, List.length_append, List.getElem?_take, List.getElem?_drop]
  by_cases c1 : k < j
  · rw [if_pos (by omega), if_pos (by omega), if_pos c1, if_pos c1]
  · by_cases c2 : k < j + new.length
    · rw [if_pos (by omega), if_neg (by omega), if_neg c1, if_pos c2]
      congr 1
      omega
    · rw [if_neg (by omega), if_neg c1, if_neg c2]
      congr 1
      omega
theorem splice_len {β : Type _} {l new : List β} {j : Nat} (h : j + new.length ≤ l.length) : (splice l j new).length = l.length := by
  unfold splice; simp; omega

theorem astore_sound (hT : TabOK P T) (h : Sim F st hs a w) {t : TypeId} {A : AC} {V : AV} {vA vV : Value} (hA : RC w (avoid F st.objs hs) hs A vA) (hV : RV w (avoid F st.objs hs) hs V vV)
    (hn : V.need true) (ht : V.isTup = false) (h0 : ¬ (T t).size = 0) {K : ASt → Prop} (hk : astore T st t A V K) :
    ∃ w' st', (Instr.storeAt t vA vV).run P w = .ok () w' ∧ K st' ∧ Sim F st' hs a w' := by
  have hTt := hT.of (t := t) fun e => h0 (hT.none e)
  unfold astore at hk
  cases A <;> simp only at hk <;> try exact hk.elim
  case ptr o j =>
    cases hob : st.obj o <;> simp only [hob] at hk <;> try exact hk.elim
    rename_i ty cs
    obtain ⟨hl, hf, hfit, hK⟩ := hk
    obtain ⟨hc, h1⟩ := hV.cells hn ht hf
    have ho := obj_some hob (by simp)
    obtain ⟨b, e1, rfl⟩ := hA
    obtain ⟨b', vals, e2, hb, hr⟩ := h.good.rel o _ ho
    rw [e1] at e2
    simp only [Value.pointer.injEq, Option.some.injEq, Addr.mk.injEq, and_true] at e2
    subst e2
    have hvl : vV.cells.size = V.cells.length := by have := hc.1; simpa using this
    have hcl : vals.size = cs.length := by have := hr.1; simpa using this
    refine ⟨_, _, run_storeAt hTt.sized hb (by rw [hvl, hl]) (by omega) h1, hK, ?_⟩
    refine h.write ho (ob' := .cells ty (splice cs j V.cells)) (b := b) (by simp [foot, hblk, e1]) (fun _ => Iff.rfl) (setRow_keep b _) fun hcc hdd => ?_
    refine ⟨b, _, e1, setRow_heap w b vals _ ty (0, 0) hb, ?_⟩
    have := hr.splice hc j
    exact ⟨by simpa using this.1, fun i x v hx hv => hcc (this.2 i x v hx (by simpa using hv))⟩
  case el o size i j =>
    cases hob : st.obj o <;> simp only [hob] at hk <;> try exact hk.elim
    rename_i ty sz α z enc xs
    cases hds : dvs V.cells with
    | none => rw [hds] at hk; exact hk.elim
    | some ds =>
      simp only [hds] at hk
      obtain ⟨hl, rfl, hi, hfit, y, hy, hK⟩ := hk
      have hfits : (V.cells.all AC.fits) = true := by
        have : ∀ (cs : List AC) (ds : List DV), dvs cs = some ds → (cs.all AC.fits) = true := by
          intro cs
          induction cs with
          | nil => intro ds _; rfl
          | cons c cs ih =>
            intro ds hd
            simp only [dvs] at hd
            cases hc : c.dv with
            | none => rw [hc] at hd; cases hd
            | some d =>
              cases hcs : dvs cs with
              | none => rw [hc, hcs] at hd; cases hd
              | some ds' =>
                rw [List.all_cons, ih ds' hcs, Bool.and_true]
                cases c <;> simp only [AC.dv] at hc <;> first | rfl | cases hc
        exact this _ _ hds
      obtain ⟨hc, h1⟩ := hV.cells hn ht hfits
      have ho := obj_some hob (by simp)
      have hro := h.good.rel o _ ho
      obtain ⟨b, m, cap, e1, rfl⟩ := hA
      obtain ⟨b', cap', cur, e2, hb, g1, g2, g3, hd⟩ := row_handle hro (by omega)
      have e2' := e2
      rw [e1] at e2
      simp only [Value.slice.injEq, Option.some.injEq, Addr.mk.injEq, and_true] at e2
      obtain ⟨rfl, rfl, rfl⟩ := e2
      have hvl : vV.cells.size = V.cells.length := by have := hc.1; simpa using this
      obtain ⟨hdl, hdr⟩ := dvs_RD hds hc
      have hrow : i * size + size ≤ cur.size := by
        rw [g3]
        calc i * size + size = (i + 1) * size := by rw [Nat.add_mul, Nat.one_mul]
          _ ≤ cap * size := Nat.mul_le_mul_right _ (by omega)
      have hsp : i * size + j + vV.cells.toList.length ≤ cur.toList.length := by simp; omega
      have hlen : (enc (xs.getD i z)).length = size := hro.1 _
      refine ⟨_, _, run_storeAt hTt.sized hb (by rw [hvl, hl]) (by omega) h1, hK, ?_⟩
      refine h.write ho (ob' := .row ty size α z enc (xs.set i y)) (b := b) (by simp [foot, hblk, e1]) (fun _ => Iff.rfl) (setRow_keep b _) fun hcc hdd => ?_
      refine ⟨hro.1, (splice cur.toList (i * size + j) vV.cells.toList).take (xs.length * size), ⟨?_, .inr ⟨b, cap, _, by rw [e1]; simp, Nat.zero_le _, setRow_heap w b cur _ ty (0, 0) hb, by simpa using g1, g2, ?_, ?_⟩⟩, fun i' k d hi' hk => ?_⟩
      · rw [List.length_take, splice_len hsp]
        simp only [List.length_set, Array.length_toList, g3]
        exact Nat.min_eq_left (Nat.mul_le_mul_right _ g1)
      · rw [List.size_toArray, splice_len hsp]; simpa using g3
      · simp
      · simp only [List.length_set] at hi'
        have hk' : k < size := by rw [← hro.1 ((xs.set i y).getD i' z)]; exact (List.getElem?_eq_some_iff.1 hk).1
        have hlt : i' * size + k < xs.length * size := by
          calc i' * size + k < i' * size + size := by omega
            _ = (i' + 1) * size := by rw [Nat.add_mul, Nat.one_mul]
            _ ≤ xs.length * size := Nat.mul_le_mul_right _ (by omega)
        rw [List.getElem?_take, if_pos hlt, splice_get hsp]
        have hls : vV.cells.toList.length = vV.cells.size := by simp
        simp only [Array.length_toList]
        by_cases hii : i = i'
        · subst hii
          rw [getD_set_eq hi'] at hk
          obtain ⟨hle, hlg⟩ := leD_get hy
          obtain ⟨d0, hd0, hl1⟩ := hlg k d hk
          have hdsl : ds.length = V.cells.length := by rw [hdl]; simp [hvl]
          rw [splice_get (by rw [hdsl, hlen]; exact hfit)] at hd0
          by_cases c1 : k < j
          · rw [if_pos c1] at hd0
            rw [if_pos (by omega)]
            obtain ⟨cv, h2, h3⟩ := hd i k d0 hi' hd0
            exact ⟨cv, by simpa using h2, hdd (leD1_RD hl1 h3)⟩
          · by_cases c2 : k < j + ds.length
            · rw [if_neg c1, if_pos c2] at hd0
              have hkv : k - j < vV.cells.toList.length := by rw [← hdl]; omega
              rw [if_neg (by omega), if_pos (by omega)]
              have e5 : i * size + k - (i * size + j) = k - j := by omega
              rw [e5, List.getElem?_eq_getElem hkv]
              exact ⟨_, rfl, hdd (leD1_RD hl1 (hdr (k - j) d0 _ hd0 (List.getElem?_eq_getElem hkv)))⟩
            · rw [if_neg c1, if_neg c2] at hd0
              rw [if_neg (by omega), if_neg (by omega)]
              obtain ⟨cv, h2, h3⟩ := hd i k d0 hi' hd0
              exact ⟨cv, by simpa using h2, hdd (leD1_RD hl1 h3)⟩
        · rw [getD_set_ne hii] at hk
          obtain ⟨cv, h2, h3⟩ := hd i' k d hi' hk
          have hout : i' * size + k < i * size + j ∨ i * size + j + vV.cells.toList.length ≤ i' * size + k := by
            rcases Nat.lt_or_gt_of_ne hii with hlt' | hgt
            · right
              have : (i + 1) * size ≤ i' * size := Nat.mul_le_mul_right _ hlt'
              rw [Nat.add_mul, Nat.one_mul] at this
              simp; omega
            · left
              have : (i' + 1) * size ≤ i * size := Nat.mul_le_mul_right _ hgt
              rw [Nat.add_mul, Nat.one_mul] at this
              omega
          refine ⟨cv, ?_, hdd h3⟩
          rcases hout with c | c
          · rw [if_pos c]; simpa using h2
          · rw [if_neg (by omega), if_neg (by omega)]; simpa using h2
end
end Go.Vc
